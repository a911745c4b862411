/-
Ops: which are right.
-/
import Derived.Test.YtlihmioijkichaaCx
namespace Go.Pm.Try
open Go Go.Proofs
set_option linter.unusedVariables false
set_option linter.unusedSimpArgs false
set_option maxRecDepth 100000
set_option maxHeartbeats 1000000 in
theorem specValuesRight (vs : List Val) (hl : vs.length ≤ maxLen) : Ent Try.prog 131 [.d (.sl false (vs.map valD))] [] (.d (.b (dec (valuesP vs)))) [] := by
  obtain ⟨o, ho⟩ : ∃ o, o = dec (valuesP vs) := ⟨_, rfl⟩
  rw [← ho]
  refine ent_of tok mixed (f := 131) Try.func131 (by kernel_rfl) (keep := false) ?_
  repeat' ((conv => whnf) <;> (first
    | ((with_reducible refine isCall ?_) <;> (first
        | (refine ⟨_, specValueRight _, ?_⟩; rintro _ _ ⟨rfl, rfl⟩)
        | ((with_reducible refine isGet (xs := vs.map valD) (i := ((k : Nat) : Int).toNat) ?_); obtain ⟨v, hg⟩ := get_ex (ss := vs) (k := k) (lt_of_dec (by assumption)); refine ⟨_, get_map' hg, ?_⟩)
        | fail))
    | ((with_reducible refine isLoop ?_) <;> (first
        | (refine ⟨[0, 3], [], fun st => ∃ (k : Nat) (i : Int), i = k ∧ k ≤ vs.length ∧ vs.length ≤ 12 ∧ (∀ v, v ∈ vs.take k → valueP v) ∧ st = ⟨[(0, .d (.sl false (vs.map valD))), (3, .d (.i .i64 i))], []⟩, fun st => match look 3 st.env with | some (.d (.i _ i)) => vs.length - i.toNat | _ => 0, rfl, ⟨0, _, rfl, Nat.zero_le _, (by have := of_decide_eq_false (by assumption : decide (((vs.map valD).length : Int) > 12) = false); rw [List.length_map] at this; omega), (fun x hx => by simp at hx), rfl⟩, ?_⟩; rintro st ⟨k, i, rfl, hk, h12, hv, rfl⟩)
        | ((with_reducible refine isGet (xs := vs.map valD) (i := ((k : Nat) : Int).toNat) ?_); obtain ⟨v, hg⟩ := get_ex (ss := vs) (k := k) (lt_of_dec (by assumption)); refine ⟨_, get_map' hg, ?_⟩)
        | fail))
    | ((with_reducible refine isCut ?_) <;> (first
        | refine ⟨⟨none⟩, ?_⟩))
    | ((first | with_reducible refine isEx ?_ | with_reducible refine isAnd ?_ | with_reducible refine isOr ?_) <;> (first
        | ((with_reducible refine isGet (xs := vs.map valD) (i := ((k : Nat) : Int).toNat) ?_); obtain ⟨v, hg⟩ := get_ex (ss := vs) (k := k) (lt_of_dec (by assumption)); refine ⟨_, get_map' hg, ?_⟩)
        | refine ⟨rfl, ?_⟩
        | refine ⟨Int.natCast_nonneg _, ?_⟩))
    | with_reducible refine Both.mk ?_ ?_
    | rintro _ rfl
    | exact rfl
    | (split <;> (rename_i h; first | (simp only [beq_self_eq_true, eq_self, decide_true, Bool.not_true, Bool.false_eq_true] at h; done) | (try rw [h])))))
  all_goals (conv => whnf)
  all_goals first
    | exact ret_false ho fun hP => by have := of_decide_eq_true h; rw [List.length_map] at this; have := hP.1; omega
    | exact ret_false ho fun hP => of_ndec (not_ok' h) (hP.2 v (get_mem hg))
    | exact ⟨⟨k + 1, _, step_up (get_lt hg) hl, get_lt hg, h12, take_all hv hg (of_dec (not_ok h)), rfl⟩, mu_up (get_lt hg) hl⟩
    | (have e : k = vs.length := by have := of_decide_eq_false h; rw [List.length_map] at this; omega
       rw [e, List.take_length] at hv
       exact ret_true ho ⟨h12, hv⟩)
    | trace_state
theorem valBad (v : Val) : Ent Try.prog 58 [.d (valD v)] [] (.d (.b (!dec (valueP v)))) [] := by
  have c1 := implValueRight v
  generalize dec (valueP v) = u at *
  refine ent_of tok mixed (f := 58) Try.func58 (by kernel_rfl) (keep := false) ?_
  repeat' ((conv => whnf) <;> (first
    | ((with_reducible refine isCall ?_) <;> (first
        | (refine ⟨_, c1, ?_⟩; rintro _ _ ⟨rfl, rfl⟩)
        | fail))
    | ((with_reducible refine isLoop ?_) <;> (first
        | fail))
    | ((with_reducible refine isCut ?_) <;> (first
        | refine ⟨⟨none⟩, ?_⟩))
    | ((first | with_reducible refine isEx ?_ | with_reducible refine isAnd ?_ | with_reducible refine isOr ?_) <;> (first
        | refine ⟨rfl, ?_⟩
        | refine ⟨Int.natCast_nonneg _, ?_⟩))
    | with_reducible refine Both.mk ?_ ?_
    | rintro _ rfl
    | exact rfl
    | (split <;> (rename_i h; first | (simp only [beq_self_eq_true, eq_self, decide_true, Bool.not_true, Bool.false_eq_true] at h; done) | (try rw [h])))))
set_option maxHeartbeats 1000000 in
theorem indexVals (vs : List Val) (hl : vs.length ≤ maxLen) : EntQ Try.prog 99 [.d (.sl false (vs.map valD)), .fn 58 []] []
    (fun R O => ∃ n : Int, R = .d (.i .i64 n) ∧ O = [] ∧ decide (n ≥ 0) = dec (∃ v, v ∈ vs ∧ ¬ valueP v)) := by
  refine ent_of tok mixed (f := 99) Try.func99 (by kernel_rfl) (keep := false) ?_
  repeat' ((conv => whnf) <;> (first
    | ((with_reducible refine isCall ?_) <;> (first
        | (refine ⟨_, valBad _, ?_⟩; rintro _ _ ⟨rfl, rfl⟩)
        | ((with_reducible refine isGet (xs := vs.map valD) (i := ((k : Nat) : Int).toNat) ?_); obtain ⟨i, hi⟩ := get_ex (ss := vs) (k := k) (lt_of_dec (by assumption)); refine ⟨_, get_map' hi, ?_⟩)
        | fail))
    | ((with_reducible refine isLoop ?_) <;> (first
        | (refine ⟨[8, 7, 0, 1], [], fun st => ∃ (k : Nat) (n : Int), n = k ∧ k ≤ vs.length ∧ (∀ i, i ∈ vs.take k → ¬ ¬ valueP i) ∧ st = ⟨[(8, .d (.i .i64 n)), (7, .d (.i .i64 ((vs.map valD).length : Int))), (0, .d (.sl false (vs.map valD))), (1, .fn 58 [])], []⟩, fun st => match look 8 st.env with | some (.d (.i _ n)) => vs.length - n.toNat | _ => 0, rfl, ⟨0, _, rfl, Nat.zero_le _, (fun x hx => by simp at hx), rfl⟩, ?_⟩; rintro st ⟨k, n, rfl, hk, hv, rfl⟩)
        | ((with_reducible refine isGet (xs := vs.map valD) (i := ((k : Nat) : Int).toNat) ?_); obtain ⟨i, hi⟩ := get_ex (ss := vs) (k := k) (lt_of_dec (by assumption)); refine ⟨_, get_map' hi, ?_⟩)
        | fail))
    | ((with_reducible refine isCut ?_) <;> (first
        | refine ⟨⟨none⟩, ?_⟩))
    | ((first | with_reducible refine isEx ?_ | with_reducible refine isAnd ?_ | with_reducible refine isOr ?_) <;> (first
        | ((with_reducible refine isGet (xs := vs.map valD) (i := ((k : Nat) : Int).toNat) ?_); obtain ⟨i, hi⟩ := get_ex (ss := vs) (k := k) (lt_of_dec (by assumption)); refine ⟨_, get_map' hi, ?_⟩)
        | refine ⟨rfl, ?_⟩
        | refine ⟨Int.natCast_nonneg _, ?_⟩))
    | with_reducible refine Both.mk ?_ ?_
    | rintro _ rfl
    | exact rfl
    | (split <;> (rename_i h; first | (simp only [beq_self_eq_true, eq_self, decide_true, Bool.not_true, Bool.false_eq_true] at h; done) | (try rw [h])))))
  all_goals (conv => whnf)
  · refine ⟨_, rfl, rfl, ?_⟩
    rw [dec_true ⟨i, get_mem hi, of_ndec (not_ok' h)⟩]
    exact decide_eq_true (Int.natCast_nonneg k)
  · exact ⟨⟨k + 1, _, step_up (get_lt hi) hl, get_lt hi, any_no hv hi (fun hn => hn (of_dec (not_ok h))), rfl⟩, mu_up (get_lt hi) hl⟩
  · refine ⟨_, rfl, rfl, ?_⟩
    have e : k = vs.length := by have := of_decide_eq_false h; rw [List.length_map] at this; omega
    rw [e, List.take_length] at hv
    rw [dec_false fun ⟨c, h1, h2⟩ => hv c h1 h2]; rfl
theorem containsVals (vs : List Val) (hl : vs.length ≤ maxLen) : Ent Try.prog 57 [.d (.sl false (vs.map valD)), .fn 58 []] [] (.d (.b (dec (∃ v, v ∈ vs ∧ ¬ valueP v)))) [] := by
  have c1 := indexVals vs hl
  refine ent_of tok mixed (f := 57) Try.func57 (by kernel_rfl) (keep := false) ?_
  repeat' ((conv => whnf) <;> (first
    | ((with_reducible refine isCall ?_) <;> (first
        | (refine ⟨_, c1, ?_⟩; rintro _ _ ⟨n, rfl, rfl, hn⟩)
        | fail))
    | ((with_reducible refine isLoop ?_) <;> (first
        | fail))
    | ((with_reducible refine isCut ?_) <;> (first
        | refine ⟨⟨none⟩, ?_⟩))
    | ((first | with_reducible refine isEx ?_ | with_reducible refine isAnd ?_ | with_reducible refine isOr ?_) <;> (first
        | refine ⟨rfl, ?_⟩
        | refine ⟨Int.natCast_nonneg _, ?_⟩))
    | with_reducible refine Both.mk ?_ ?_
    | rintro _ rfl
    | exact rfl
    | (split <;> (rename_i h; first | (simp only [beq_self_eq_true, eq_self, decide_true, Bool.not_true, Bool.false_eq_true] at h; done) | (try rw [h])))))
  all_goals (conv => whnf)
  all_goals (rw [hn]; exact ⟨rfl, rfl⟩)
theorem implValuesRight (vs : List Val) (hl : vs.length ≤ maxLen) : Ent Try.prog 19 [.d (.sl false (vs.map valD))] [] (.d (.b (dec (valuesP vs)))) [] := by
  obtain ⟨o, ho⟩ : ∃ o, o = dec (valuesP vs) := ⟨_, rfl⟩
  rw [← ho]
  have c1 := containsVals vs hl
  refine ent_of tok mixed (f := 19) Try.func19 (by kernel_rfl) (keep := false) ?_
  repeat' ((conv => whnf) <;> (first
    | ((with_reducible refine isCall ?_) <;> (first
        | (refine ⟨_, c1, ?_⟩; rintro _ _ ⟨rfl, rfl⟩)
        | fail))
    | ((with_reducible refine isLoop ?_) <;> (first
        | fail))
    | ((with_reducible refine isCut ?_) <;> (first
        | refine ⟨⟨none⟩, ?_⟩))
    | ((first | with_reducible refine isEx ?_ | with_reducible refine isAnd ?_ | with_reducible refine isOr ?_) <;> (first
        | refine ⟨rfl, ?_⟩
        | refine ⟨Int.natCast_nonneg _, ?_⟩))
    | with_reducible refine Both.mk ?_ ?_
    | rintro _ rfl
    | exact rfl
    | (split <;> (rename_i h; first | (simp only [beq_self_eq_true, eq_self, decide_true, Bool.not_true, Bool.false_eq_true] at h; done) | (try rw [h])))))
  all_goals (conv => whnf)
  all_goals first
    | exact ret_false ho fun hP => by have := of_decide_eq_false h; rw [List.length_map] at this; have := hP.1; omega
    | (refine ret_b ho ⟨fun hb => ⟨by have := of_decide_eq_true h; rw [List.length_map] at this; omega, fun v hv => Classical.byContradiction fun hn => of_ndec (not_ok' hb) ⟨v, hv, hn⟩⟩, fun hP => ?_⟩
       rw [dec_false fun ⟨v, hv, hn⟩ => hn (hP.2 v hv)]; rfl)
    | trace_state
theorem specNoSchema (s : Schema) : Ent Try.prog 130 [.d (schemaD s)] [] (.d (.b (dec (noSchP s)))) [] := by
  obtain ⟨o, ho⟩ : ∃ o, o = dec (noSchP s) := ⟨_, rfl⟩
  rw [← ho]
  rcases s with ⟨nm, cs, ks, is⟩
  refine ent_of tok mixed (f := 130) Try.func130 (by kernel_rfl) (keep := false) ?_
  repeat' ((conv => whnf) <;> (first
    | ((with_reducible refine isCall ?_) <;> (first
        | fail))
    | ((with_reducible refine isLoop ?_) <;> (first
        | fail))
    | ((with_reducible refine isCut ?_) <;> (first
        | refine ⟨⟨none⟩, ?_⟩))
    | ((first | with_reducible refine isEx ?_ | with_reducible refine isAnd ?_ | with_reducible refine isOr ?_) <;> (first
        | refine ⟨rfl, ?_⟩
        | refine ⟨Int.natCast_nonneg _, ?_⟩))
    | with_reducible refine Both.mk ?_ ?_
    | rintro _ rfl
    | exact rfl
    | (split <;> (rename_i h; first | (simp only [beq_self_eq_true, eq_self, decide_true, Bool.not_true, Bool.false_eq_true] at h; done) | (try rw [h])))))
  all_goals (conv => whnf)
  all_goals (refine ret_b ho ?_; simp only [noSchP, List.length_map] at *; simp_all)
theorem implNoSchema (s : Schema) (hs : s.small) : Ent Try.prog 134 [.d (schemaD s)] [] (.d (.b (dec (noSchP s)))) [] := by
  obtain ⟨o, ho⟩ : ∃ o, o = dec (noSchP s) := ⟨_, rfl⟩
  rw [← ho]
  rcases s with ⟨nm, cs, ks, is⟩
  have h1 : cs.length ≤ 10 := hs.cols
  have h2 : ks.length ≤ 10 := hs.keys
  have h3 : is.length ≤ 4 := hs.idxs
  clear hs
  have e : IntKind.i64.wrap (IntKind.i64.wrap ((cs.length : Int) + (ks.length : Int)) + (is.length : Int)) = ((cs.length + ks.length + is.length : Nat) : Int) := by
    rw [wrap_i64_id ((cs.length : Int) + (ks.length : Int)) (by omega) (by omega), wrap_i64_id _ (by omega) (by omega)]; omega
  refine ent_of tok mixed (f := 134) Try.func134 (by kernel_rfl) (keep := false) ?_
  repeat' ((conv => whnf) <;> (first
    | ((with_reducible refine isCall ?_) <;> (first
        | fail))
    | ((with_reducible refine isLoop ?_) <;> (first
        | fail))
    | ((with_reducible refine isCut ?_) <;> (first
        | refine ⟨⟨none⟩, ?_⟩))
    | ((first | with_reducible refine isEx ?_ | with_reducible refine isAnd ?_ | with_reducible refine isOr ?_) <;> (first
        | refine ⟨rfl, ?_⟩
        | refine ⟨Int.natCast_nonneg _, ?_⟩))
    | with_reducible refine Both.mk ?_ ?_
    | rintro _ rfl
    | exact rfl
    | (split <;> (rename_i h; first | (simp only [beq_self_eq_true, eq_self, decide_true, Bool.not_true, Bool.false_eq_true] at h; done) | (try rw [h])))))
  all_goals (conv => whnf)
  all_goals first
    | exact ret_false ho fun hP => by have := hP.1; simp_all
    | (refine ret_b ho ?_
       simp only [List.length_map, e, noSchP] at *
       have hn : nm = [] := of_decide_eq_true (by assumption)
       rw [decide_eq_true_iff]
       exact ⟨fun hh => ⟨hn, by omega, by omega, by omega⟩, fun hP => by omega⟩)
    | trace_state
theorem decT {P : Prop} : (dec P = true) = P := propext ⟨of_dec, dec_true⟩
theorem decF {P : Prop} : (dec P = false) = ¬ P := propext ⟨of_ndec, dec_false⟩
def opD (o : Op) : D := .agg [.i .i64 o.kind, .s o.table, .s o.sch.name, .sl false (o.sch.cols.map colD), .sl false (o.sch.keys.map i64D), .sl false (o.sch.idxs.map idxD), .sl false (o.row.map valD)]
theorem twelve {n : Nat} (h : n ≤ 12) : n ≤ maxLen := Nat.le_trans h (Nat.le_of_ble_eq_true rfl)
theorem opP_one {o : Op} (h : o.kind = 1) : opP o ↔ schemaP o.sch ∧ o.table = [] ∧ o.row.length = 0 := by
  constructor
  · rintro (⟨_, h2⟩ | ⟨h1, _⟩)
    · exact h2
    · omega
  · exact fun hh => Or.inl ⟨h, hh⟩
theorem opP_more {o : Op} (h : o.kind = 2 ∨ o.kind = 3 ∨ o.kind = 4) : opP o ↔ nameOk o.table = true ∧ noSchP o.sch ∧ valuesP o.row := by
  constructor
  · rintro (⟨h1, _⟩ | ⟨_, h2⟩)
    · omega
    · exact h2
  · exact fun hh => Or.inr ⟨h, hh⟩
theorem opP_none {o : Op} (h1 : o.kind ≠ 1) (h2 : o.kind ≠ 2) (h3 : o.kind ≠ 3) (h4 : o.kind ≠ 4) : ¬ opP o := by
  rintro (⟨h, _⟩ | ⟨h, _⟩) <;> omega
set_option maxHeartbeats 4000000 in
theorem specOp (o : Op) (hs : o.small) (hf : o.sch.fits) : Ent Try.prog 123 [.d (opD o)] [] (.d (.b (dec (opP o)))) [] := by
  obtain ⟨u, hu⟩ : ∃ u, u = dec (opP o) := ⟨_, rfl⟩
  rw [← hu]
  have c1 := specSchemaRight o.sch hf
  have c2 := specNameRight o.table (small_max hs.table)
  have c3 := specNoSchema o.sch
  have c4 := specValuesRight o.row (twelve hs.row)
  refine ent_of tok mixed (f := 123) Try.func123 (by kernel_rfl) (keep := false) ?_
  repeat' ((conv => whnf) <;> (first
    | ((with_reducible refine isCall ?_) <;> (first
        | (refine ⟨_, c1, ?_⟩; rintro _ _ ⟨rfl, rfl⟩)
        | (refine ⟨_, c2, ?_⟩; rintro _ _ ⟨rfl, rfl⟩)
        | (refine ⟨_, c3, ?_⟩; rintro _ _ ⟨rfl, rfl⟩)
        | (refine ⟨_, c4, ?_⟩; rintro _ _ ⟨rfl, rfl⟩)
        | fail))
    | ((with_reducible refine isLoop ?_) <;> (first
        | fail))
    | ((with_reducible refine isCut ?_) <;> (first
        | refine ⟨⟨none⟩, ?_⟩))
    | ((first | with_reducible refine isEx ?_ | with_reducible refine isAnd ?_ | with_reducible refine isOr ?_) <;> (first
        | refine ⟨rfl, ?_⟩
        | refine ⟨Int.natCast_nonneg _, ?_⟩))
    | with_reducible refine Both.mk ?_ ?_
    | rintro _ rfl
    | exact rfl
    | (split <;> (rename_i h; first | (simp only [beq_self_eq_true, eq_self, decide_true, Bool.not_true, Bool.false_eq_true] at h; done) | (try rw [h])))))
  all_goals (conv => whnf)
  all_goals (refine ret_b hu ?_; clear hu c1 c2 c3 c4 hs hf; simp only [decT, decF, decide_eq_true_eq, decide_eq_false_iff_not, List.length_map] at *)
  all_goals first
    | (rw [opP_one (by assumption)]; simp_all; done)
    | (rw [opP_more (by first | exact .inl (by assumption) | exact .inr (.inl (by assumption)) | exact .inr (.inr (by assumption)))]; simp_all; done)
    | exact ⟨fun hh => Bool.noConfusion hh, fun hP => absurd hP (opP_none (by assumption) (by assumption) (by assumption) (by assumption))⟩
    | trace_state
set_option maxHeartbeats 4000000 in
theorem implOp (o : Op) (hs : o.small) (hf : o.sch.fits) : Ent Try.prog 127 [.d (opD o)] [] (.d (.b (dec (opP o)))) [] := by
  obtain ⟨u, hu⟩ : ∃ u, u = dec (opP o) := ⟨_, rfl⟩
  rw [← hu]
  have c1 := implSchemaRight o.sch hf
  have c2 := implNameRight o.table (small_max hs.table)
  have c3 := implNoSchema o.sch hs.sch
  have c4 := implValuesRight o.row (twelve hs.row)
  refine ent_of tok mixed (f := 127) Try.func127 (by kernel_rfl) (keep := false) ?_
  repeat' ((conv => whnf) <;> (first
    | ((with_reducible refine isCall ?_) <;> (first
        | (refine ⟨_, c1, ?_⟩; rintro _ _ ⟨rfl, rfl⟩)
        | (refine ⟨_, c2, ?_⟩; rintro _ _ ⟨rfl, rfl⟩)
        | (refine ⟨_, c3, ?_⟩; rintro _ _ ⟨rfl, rfl⟩)
        | (refine ⟨_, c4, ?_⟩; rintro _ _ ⟨rfl, rfl⟩)
        | fail))
    | ((with_reducible refine isLoop ?_) <;> (first
        | fail))
    | ((with_reducible refine isCut ?_) <;> (first
        | refine ⟨⟨none⟩, ?_⟩))
    | ((first | with_reducible refine isEx ?_ | with_reducible refine isAnd ?_ | with_reducible refine isOr ?_) <;> (first
        | refine ⟨rfl, ?_⟩
        | refine ⟨Int.natCast_nonneg _, ?_⟩))
    | with_reducible refine Both.mk ?_ ?_
    | rintro _ rfl
    | exact rfl
    | (split <;> (rename_i h; first | (simp only [beq_self_eq_true, eq_self, decide_true, Bool.not_true, Bool.false_eq_true] at h; done) | (try rw [h])))))
  all_goals (conv => whnf)
  all_goals (refine ret_b hu ?_; clear hu c1 c2 c3 c4 hs hf; simp only [decT, decF, decide_eq_true_eq, decide_eq_false_iff_not, List.length_map] at *)
  all_goals first
    | (rw [opP_one (by assumption)]; simp_all; done)
    | (rw [opP_more (by first | exact .inl (by assumption) | exact .inr (.inl (by assumption)) | exact .inr (.inr (by assumption)))]; simp_all; done)
    | exact ⟨fun hh => Bool.noConfusion hh, fun hP => absurd hP (opP_none (by assumption) (by assumption) (by assumption) (by assumption))⟩
    | trace_state
def AllOps (os : List Op) : Prop := ∀ o, o ∈ os → o.small ∧ o.sch.fits
set_option maxHeartbeats 1000000 in
theorem specOpsRight (os : List Op) (hl : os.length ≤ 20) (ha : AllOps os) : Ent Try.prog 102 [.d (.sl false (os.map opD))] [] (.d (.b (dec (opsP os)))) [] := by
  obtain ⟨o, ho⟩ : ∃ o, o = dec (opsP os) := ⟨_, rfl⟩
  rw [← ho]
  have hm : os.length ≤ maxLen := Nat.le_trans hl (Nat.le_of_ble_eq_true rfl)
  have hml : (os.map opD).length = os.length := List.length_map ..
  refine ent_of tok mixed (f := 102) Try.func102 (by kernel_rfl) (keep := false) ?_
  repeat' ((conv => whnf) <;> (first
    | ((with_reducible refine isCall ?_) <;> (first
        | (refine ⟨_, c1, ?_⟩; rintro _ _ ⟨rfl, rfl⟩)
        | ((with_reducible refine isGet (xs := os.map opD) (i := ((k : Nat) : Int).toNat) ?_); obtain ⟨v, hg⟩ := get_ex (ss := os) (k := k) (lt_of_dec (by assumption)); have c1 := specOp v (ha v (get_mem hg)).1 (ha v (get_mem hg)).2; refine ⟨_, get_map' hg, ?_⟩)
        | fail))
    | ((with_reducible refine isLoop ?_) <;> (first
        | (refine ⟨[0, 3], [], fun st => ∃ (k : Nat) (i : Int), i = k ∧ k ≤ os.length ∧ 1 ≤ os.length ∧ (∀ v, v ∈ os.take k → opP v) ∧ st = ⟨[(0, .d (.sl false (os.map opD))), (3, .d (.i .i64 i))], []⟩, fun st => match look 3 st.env with | some (.d (.i _ i)) => os.length - i.toNat | _ => 0, rfl, ⟨0, _, rfl, Nat.zero_le _, (by have := of_decide_eq_false (by assumption : decide (((os.map opD).length : Int) < 1) = false); omega), (fun x hx => by simp at hx), rfl⟩, ?_⟩; rintro st ⟨k, i, rfl, hk, h1, hv, rfl⟩)
        | ((with_reducible refine isGet (xs := os.map opD) (i := ((k : Nat) : Int).toNat) ?_); obtain ⟨v, hg⟩ := get_ex (ss := os) (k := k) (lt_of_dec (by assumption)); have c1 := specOp v (ha v (get_mem hg)).1 (ha v (get_mem hg)).2; refine ⟨_, get_map' hg, ?_⟩)
        | fail))
    | ((with_reducible refine isCut ?_) <;> (first
        | refine ⟨⟨none⟩, ?_⟩))
    | ((first | with_reducible refine isEx ?_ | with_reducible refine isAnd ?_ | with_reducible refine isOr ?_) <;> (first
        | ((with_reducible refine isGet (xs := os.map opD) (i := ((k : Nat) : Int).toNat) ?_); obtain ⟨v, hg⟩ := get_ex (ss := os) (k := k) (lt_of_dec (by assumption)); have c1 := specOp v (ha v (get_mem hg)).1 (ha v (get_mem hg)).2; refine ⟨_, get_map' hg, ?_⟩)
        | refine ⟨rfl, ?_⟩
        | refine ⟨Int.natCast_nonneg _, ?_⟩))
    | with_reducible refine Both.mk ?_ ?_
    | rintro _ rfl
    | exact rfl
    | (split <;> (rename_i h; first | (simp only [beq_self_eq_true, eq_self, decide_true, Bool.not_true, Bool.false_eq_true] at h; done) | (try rw [h])))))
  all_goals (conv => whnf)
  all_goals first
    | exact ret_false ho fun hP => by have := of_decide_eq_true h; have := hP.1; omega
    | exact ret_false ho fun hP => of_ndec (not_ok' h) (hP.2 v (get_mem hg))
    | exact ⟨⟨k + 1, _, step_up (get_lt hg) hm, get_lt hg, h1, take_all hv hg (of_dec (not_ok h)), rfl⟩, mu_up (get_lt hg) hm⟩
    | (have e : k = os.length := by have := of_decide_eq_false h; omega
       rw [e, List.take_length] at hv
       exact ret_true ho ⟨⟨h1, hl⟩, hv⟩)
    | trace_state
theorem opBad (v : Op) (hs : v.small) (hf : v.sch.fits) : Ent Try.prog 126 [.d (opD v)] [] (.d (.b (!dec (opP v)))) [] := by
  have c1 := implOp v hs hf
  generalize dec (opP v) = u at *
  refine ent_of tok mixed (f := 126) Try.func126 (by kernel_rfl) (keep := false) ?_
  repeat' ((conv => whnf) <;> (first
    | ((with_reducible refine isCall ?_) <;> (first
        | (refine ⟨_, c1, ?_⟩; rintro _ _ ⟨rfl, rfl⟩)
        | fail))
    | ((with_reducible refine isLoop ?_) <;> (first
        | fail))
    | ((with_reducible refine isCut ?_) <;> (first
        | refine ⟨⟨none⟩, ?_⟩))
    | ((first | with_reducible refine isEx ?_ | with_reducible refine isAnd ?_ | with_reducible refine isOr ?_) <;> (first
        | refine ⟨rfl, ?_⟩
        | refine ⟨Int.natCast_nonneg _, ?_⟩))
    | with_reducible refine Both.mk ?_ ?_
    | rintro _ rfl
    | exact rfl
    | (split <;> (rename_i h; first | (simp only [beq_self_eq_true, eq_self, decide_true, Bool.not_true, Bool.false_eq_true] at h; done) | (try rw [h])))))
set_option maxHeartbeats 1000000 in
theorem indexOps (vs : List Op) (hl : vs.length ≤ maxLen) (ha : AllOps vs) : EntQ Try.prog 133 [.d (.sl false (vs.map opD)), .fn 126 []] []
    (fun R O => ∃ n : Int, R = .d (.i .i64 n) ∧ O = [] ∧ decide (n ≥ 0) = dec (∃ v, v ∈ vs ∧ ¬ opP v)) := by
  refine ent_of tok mixed (f := 133) Try.func133 (by kernel_rfl) (keep := false) ?_
  repeat' ((conv => whnf) <;> (first
    | ((with_reducible refine isCall ?_) <;> (first
        | (refine ⟨_, c1, ?_⟩; rintro _ _ ⟨rfl, rfl⟩)
        | ((with_reducible refine isGet (xs := vs.map opD) (i := ((k : Nat) : Int).toNat) ?_); obtain ⟨i, hi⟩ := get_ex (ss := vs) (k := k) (lt_of_dec (by assumption)); have c1 := opBad i (ha i (get_mem hi)).1 (ha i (get_mem hi)).2; refine ⟨_, get_map' hi, ?_⟩)
        | fail))
    | ((with_reducible refine isLoop ?_) <;> (first
        | (refine ⟨[8, 7, 0, 1], [], fun st => ∃ (k : Nat) (n : Int), n = k ∧ k ≤ vs.length ∧ (∀ i, i ∈ vs.take k → ¬ ¬ opP i) ∧ st = ⟨[(8, .d (.i .i64 n)), (7, .d (.i .i64 ((vs.map opD).length : Int))), (0, .d (.sl false (vs.map opD))), (1, .fn 126 [])], []⟩, fun st => match look 8 st.env with | some (.d (.i _ n)) => vs.length - n.toNat | _ => 0, rfl, ⟨0, _, rfl, Nat.zero_le _, (fun x hx => by simp at hx), rfl⟩, ?_⟩; rintro st ⟨k, n, rfl, hk, hv, rfl⟩)
        | ((with_reducible refine isGet (xs := vs.map opD) (i := ((k : Nat) : Int).toNat) ?_); obtain ⟨i, hi⟩ := get_ex (ss := vs) (k := k) (lt_of_dec (by assumption)); have c1 := opBad i (ha i (get_mem hi)).1 (ha i (get_mem hi)).2; refine ⟨_, get_map' hi, ?_⟩)
        | fail))
    | ((with_reducible refine isCut ?_) <;> (first
        | refine ⟨⟨none⟩, ?_⟩))
    | ((first | with_reducible refine isEx ?_ | with_reducible refine isAnd ?_ | with_reducible refine isOr ?_) <;> (first
        | ((with_reducible refine isGet (xs := vs.map opD) (i := ((k : Nat) : Int).toNat) ?_); obtain ⟨i, hi⟩ := get_ex (ss := vs) (k := k) (lt_of_dec (by assumption)); have c1 := opBad i (ha i (get_mem hi)).1 (ha i (get_mem hi)).2; refine ⟨_, get_map' hi, ?_⟩)
        | refine ⟨rfl, ?_⟩
        | refine ⟨Int.natCast_nonneg _, ?_⟩))
    | with_reducible refine Both.mk ?_ ?_
    | rintro _ rfl
    | exact rfl
    | (split <;> (rename_i h; first | (simp only [beq_self_eq_true, eq_self, decide_true, Bool.not_true, Bool.false_eq_true] at h; done) | (try rw [h])))))
  all_goals (conv => whnf)
  · refine ⟨_, rfl, rfl, ?_⟩
    rw [dec_true ⟨i, get_mem hi, of_ndec (not_ok' h)⟩]
    exact decide_eq_true (Int.natCast_nonneg k)
  · exact ⟨⟨k + 1, _, step_up (get_lt hi) hl, get_lt hi, any_no hv hi (fun hn => hn (of_dec (not_ok h))), rfl⟩, mu_up (get_lt hi) hl⟩
  · refine ⟨_, rfl, rfl, ?_⟩
    have e : k = vs.length := by have := of_decide_eq_false h; rw [List.length_map] at this; omega
    rw [e, List.take_length] at hv
    rw [dec_false fun ⟨c, h1, h2⟩ => hv c h1 h2]; rfl
theorem containsOps (vs : List Op) (hl : vs.length ≤ maxLen) (ha : AllOps vs) : Ent Try.prog 125 [.d (.sl false (vs.map opD)), .fn 126 []] [] (.d (.b (dec (∃ v, v ∈ vs ∧ ¬ opP v)))) [] := by
  have c1 := indexOps vs hl ha
  refine ent_of tok mixed (f := 125) Try.func125 (by kernel_rfl) (keep := false) ?_
  repeat' ((conv => whnf) <;> (first
    | ((with_reducible refine isCall ?_) <;> (first
        | (refine ⟨_, c1, ?_⟩; rintro _ _ ⟨n, rfl, rfl, hn⟩)
        | fail))
    | ((with_reducible refine isLoop ?_) <;> (first
        | fail))
    | ((with_reducible refine isCut ?_) <;> (first
        | refine ⟨⟨none⟩, ?_⟩))
    | ((first | with_reducible refine isEx ?_ | with_reducible refine isAnd ?_ | with_reducible refine isOr ?_) <;> (first
        | refine ⟨rfl, ?_⟩
        | refine ⟨Int.natCast_nonneg _, ?_⟩))
    | with_reducible refine Both.mk ?_ ?_
    | rintro _ rfl
    | exact rfl
    | (split <;> (rename_i h; first | (simp only [beq_self_eq_true, eq_self, decide_true, Bool.not_true, Bool.false_eq_true] at h; done) | (try rw [h])))))
  all_goals (conv => whnf)
  all_goals (rw [hn]; exact ⟨rfl, rfl⟩)
theorem implOpsRight (os : List Op) (hl : os.length ≤ 20) (ha : AllOps os) : Ent Try.prog 105 [.d (.sl false (os.map opD))] [] (.d (.b (dec (opsP os)))) [] := by
  obtain ⟨o, ho⟩ : ∃ o, o = dec (opsP os) := ⟨_, rfl⟩
  rw [← ho]
  have hml : (os.map opD).length = os.length := List.length_map ..
  have c1 := containsOps os (Nat.le_trans hl (Nat.le_of_ble_eq_true rfl)) ha
  have c2 := within ((os.map opD).length : Int) 1 20
  obtain ⟨u, hu⟩ : ∃ u, u = inside ((os.map opD).length : Int) 1 20 := ⟨_, rfl⟩
  rw [← hu] at c2
  refine ent_of tok mixed (f := 105) Try.func105 (by kernel_rfl) (keep := false) ?_
  cases u
  all_goals
    repeat' ((conv => whnf) <;> (first
      | ((with_reducible refine isCall ?_) <;> (first
          | (refine ⟨_, c1, ?_⟩; rintro _ _ ⟨rfl, rfl⟩)
          | (refine ⟨_, c2, ?_⟩; rintro _ _ ⟨rfl, rfl⟩)
          | fail))
      | ((with_reducible refine isLoop ?_) <;> (first
          | fail))
      | ((with_reducible refine isCut ?_) <;> (first
          | refine ⟨⟨none⟩, ?_⟩))
      | ((first | with_reducible refine isEx ?_ | with_reducible refine isAnd ?_ | with_reducible refine isOr ?_) <;> (first
          | refine ⟨rfl, ?_⟩
          | refine ⟨Int.natCast_nonneg _, ?_⟩))
      | with_reducible refine Both.mk ?_ ?_
      | rintro _ rfl
      | exact rfl
      | (split <;> (rename_i h; first | (simp only [beq_self_eq_true, eq_self, decide_true, Bool.not_true, Bool.false_eq_true] at h; done) | (try rw [h])))))
  all_goals (conv => whnf)
  all_goals first
    | exact ret_false ho fun hP => Bool.noConfusion (hu.trans ((inside_iff _ _ _).2 ⟨by rw [hml]; have := hP.1; omega, by rw [hml]; have := hP.1; omega⟩) : false = true)
    | (have hi := (inside_iff _ _ _).1 hu.symm
       rw [hml] at hi
       refine ret_b ho ⟨fun hb => ⟨by omega, fun v hv => Classical.byContradiction fun hn => of_ndec (not_ok' hb) ⟨v, hv, hn⟩⟩, fun hP => ?_⟩
       rw [dec_false fun ⟨v, hv, hn⟩ => hn (hP.2 v hv)]; rfl)
    | trace_state
end Go.Pm.Try
