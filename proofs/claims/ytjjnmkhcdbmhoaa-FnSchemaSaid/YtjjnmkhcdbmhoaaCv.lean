import Derived.Test.YtjjnmkhcdbmhoaaCq
namespace Go.Pm.Try
open Go Go.Proofs
set_option linter.unusedVariables false
set_option linter.unusedSimpArgs false
set_option maxRecDepth 100000
structure Val where
  kind : Int
  n : Int
  text : List UInt8
def valD (v : Val) : D := .agg [.i .i64 v.kind, .i .i64 v.n, .s v.text]
def valueP (v : Val) : Prop := (v.kind = 0 ∧ v.n = 0 ∧ v.text = []) ∨ (v.kind = 1 ∧ (0 ≤ v.n ∧ v.n ≤ 1) ∧ v.text = []) ∨ (v.kind = 2 ∧ v.text = []) ∨ (v.kind = 3 ∧ v.n = 0 ∧ v.text.length ≤ 200)
theorem specValueRight (v : Val) : Ent Try.prog 71 [.d (valD v)] [] (.d (.b (dec (valueP v)))) [] := by
  obtain ⟨o, ho⟩ : ∃ o, o = dec (valueP v) := ⟨_, rfl⟩
  rw [← ho]
  rcases v with ⟨k, n, t⟩
  refine ent_of tok mixed (f := 71) Try.func71 (by kernel_rfl) (keep := false) ?_
  repeat' ((conv => whnf) <;> (first | ((with_reducible refine isCall ?_) <;> (first | fail)) | ((with_reducible refine isCut ?_) <;> (first | refine ⟨⟨none⟩, ?_⟩)) | ((first | with_reducible refine isEx ?_ | with_reducible refine isAnd ?_ | with_reducible refine isOr ?_) <;> (first | ((with_reducible refine isSmall ?_) <;> (refine ⟨?_, ?_⟩; kernel_rfl)) | refine ⟨rfl, ?_⟩ | refine ⟨Int.natCast_nonneg _, ?_⟩)) | with_reducible refine Both.mk ?_ ?_ | rintro _ rfl | exact rfl | (split <;> (rename_i h; first | (simp only [beq_self_eq_true, eq_self, decide_true, Bool.not_true, Bool.false_eq_true] at h; done) | (try rw [h])))))
  all_goals (conv => whnf)
  all_goals (refine ret_b ho ?_; simp only [valueP] at *; simp_all <;> omega)
theorem implValueRight (v : Val) : Ent Try.prog 46 [.d (valD v)] [] (.d (.b (dec (valueP v)))) [] := by
  obtain ⟨o, ho⟩ : ∃ o, o = dec (valueP v) := ⟨_, rfl⟩
  rw [← ho]
  rcases v with ⟨k, n, t⟩
  refine ent_of tok mixed (f := 46) Try.func46 (by kernel_rfl) (keep := false) ?_
  repeat' ((conv => whnf) <;> (first | ((with_reducible refine isCall ?_) <;> (first | (refine ⟨_, within _ _ _, ?_⟩; rintro _ _ ⟨rfl, rfl⟩) | fail)) | ((with_reducible refine isCut ?_) <;> (first | refine ⟨⟨none⟩, ?_⟩)) | ((first | with_reducible refine isEx ?_ | with_reducible refine isAnd ?_ | with_reducible refine isOr ?_) <;> (first | ((with_reducible refine isSmall ?_) <;> (refine ⟨?_, ?_⟩; kernel_rfl)) | refine ⟨rfl, ?_⟩ | refine ⟨Int.natCast_nonneg _, ?_⟩)) | with_reducible refine Both.mk ?_ ?_ | rintro _ rfl | exact rfl | (split <;> (rename_i h; first | (simp only [beq_self_eq_true, eq_self, decide_true, Bool.not_true, Bool.false_eq_true] at h; done) | (try rw [h])))))
  all_goals (conv => whnf)
  all_goals (refine ret_b ho ?_; simp only [valueP] at *; simp_all [inside] <;> omega)
def valuesP (vs : List Val) : Prop := vs.length ≤ 12 ∧ ∀ v, v ∈ vs → valueP v
theorem twelve {n : Nat} (h : n ≤ 12) : n ≤ maxLen := Nat.le_trans h (Nat.le_of_ble_eq_true rfl)
theorem valBad (v : Val) : Ent Try.prog 45 [.d (valD v)] [] (.d (.b (!dec (valueP v)))) [] := by
  have c1 := implValueRight v
  generalize dec (valueP v) = u at *
  refine ent_of tok mixed (f := 45) Try.func45 (by kernel_rfl) (keep := false) ?_
  repeat' ((conv => whnf) <;> (first | ((with_reducible refine isCall ?_) <;> (first | (refine ⟨_, c1, ?_⟩; rintro _ _ ⟨rfl, rfl⟩) | fail)) | ((with_reducible refine isCut ?_) <;> (first | refine ⟨⟨none⟩, ?_⟩)) | ((first | with_reducible refine isEx ?_ | with_reducible refine isAnd ?_ | with_reducible refine isOr ?_) <;> (first | ((with_reducible refine isSmall ?_) <;> (refine ⟨?_, ?_⟩; kernel_rfl)) | refine ⟨rfl, ?_⟩ | refine ⟨Int.natCast_nonneg _, ?_⟩)) | with_reducible refine Both.mk ?_ ?_ | rintro _ rfl | exact rfl | (split <;> (rename_i h; first | (simp only [beq_self_eq_true, eq_self, decide_true, Bool.not_true, Bool.false_eq_true] at h; done) | (try rw [h])))))
set_option maxHeartbeats 1000000 in
theorem indexVals (vs : List Val) (hl : vs.length ≤ maxLen) : EntQ Try.prog 72 [.d (.sl false (vs.map valD)), .fn 45 []] []
    (fun R O => ∃ n : Int, R = .d (.i .i64 n) ∧ O = [] ∧ decide (n ≥ 0) = dec (∃ v, v ∈ vs ∧ ¬ valueP v)) := by
  refine ent_of tok mixed (f := 72) Try.func72 (by kernel_rfl) (keep := false) ?_
  repeat' ((conv => whnf) <;> (first | ((with_reducible refine isCall ?_) <;> (first | (refine ⟨_, valBad _, ?_⟩; rintro _ _ ⟨rfl, rfl⟩) | fail)) | ((with_reducible refine isLoop ?_) <;> (first | (refine ⟨[8, 7, 0, 1], [], fun st => ∃ (k : Nat) (n : Int), n = k ∧ k ≤ vs.length ∧ (∀ i, i ∈ vs.take k → ¬ ¬ valueP i) ∧ st = ⟨[(8, .d (.i .i64 n)), (7, .d (.i .i64 ((vs.map valD).length : Int))), (0, .d (.sl false (vs.map valD))), (1, .fn 45 [])], []⟩, fun st => match look 8 st.env with | some (.d (.i _ n)) => vs.length - n.toNat | _ => 0, rfl, ⟨0, _, rfl, Nat.zero_le _, (fun x hx => by simp at hx), rfl⟩, ?_⟩; rintro st ⟨k, n, rfl, hk, hv, rfl⟩) | fail)) | ((with_reducible refine isCut ?_) <;> (first | refine ⟨⟨none⟩, ?_⟩)) | ((first | with_reducible refine isEx ?_ | with_reducible refine isAnd ?_ | with_reducible refine isOr ?_) <;> (first | ((with_reducible refine isGet (xs := vs.map valD) (i := ((k : Nat) : Int).toNat) ?_); obtain ⟨i, hi⟩ := get_ex (ss := vs) (k := k) (lt_of_dec (by assumption)); refine ⟨_, get_map' hi, ?_⟩) | ((with_reducible refine isSmall ?_) <;> (refine ⟨?_, ?_⟩; kernel_rfl)) | refine ⟨rfl, ?_⟩ | refine ⟨Int.natCast_nonneg _, ?_⟩)) | with_reducible refine Both.mk ?_ ?_ | rintro _ rfl | exact rfl | (split <;> (rename_i h; first | (simp only [beq_self_eq_true, eq_self, decide_true, Bool.not_true, Bool.false_eq_true] at h; done) | (try rw [h])))))
  all_goals (conv => whnf)
  · refine ⟨_, rfl, rfl, ?_⟩
    rw [dec_true ⟨i, get_mem hi, of_ndec (not_ok' h)⟩]
    exact decide_eq_true (Int.natCast_nonneg k)
  · exact ⟨⟨k + 1, _, step_up (get_lt hi) hl, get_lt hi, any_no hv hi (fun hn => hn (of_dec (not_ok h))), rfl⟩, mu_up (get_lt hi) hl⟩
  · refine ⟨_, rfl, rfl, ?_⟩
    have e : k = vs.length := by have := of_decide_eq_false h; rw [List.length_map] at this; omega
    rw [e, List.take_length] at hv
    rw [dec_false fun ⟨c, h1, h2⟩ => hv c h1 h2]; rfl
theorem containsVals (vs : List Val) (hl : vs.length ≤ maxLen) : Ent Try.prog 44 [.d (.sl false (vs.map valD)), .fn 45 []] [] (.d (.b (dec (∃ v, v ∈ vs ∧ ¬ valueP v)))) [] := by
  have c1 := indexVals vs hl
  refine ent_of tok mixed (f := 44) Try.func44 (by kernel_rfl) (keep := false) ?_
  repeat' ((conv => whnf) <;> (first | ((with_reducible refine isCall ?_) <;> (first | (refine ⟨_, c1, ?_⟩; rintro _ _ ⟨n, rfl, rfl, hn⟩) | fail)) | ((with_reducible refine isCut ?_) <;> (first | refine ⟨⟨none⟩, ?_⟩)) | ((first | with_reducible refine isEx ?_ | with_reducible refine isAnd ?_ | with_reducible refine isOr ?_) <;> (first | ((with_reducible refine isSmall ?_) <;> (refine ⟨?_, ?_⟩; kernel_rfl)) | refine ⟨rfl, ?_⟩ | refine ⟨Int.natCast_nonneg _, ?_⟩)) | with_reducible refine Both.mk ?_ ?_ | rintro _ rfl | exact rfl | (split <;> (rename_i h; first | (simp only [beq_self_eq_true, eq_self, decide_true, Bool.not_true, Bool.false_eq_true] at h; done) | (try rw [h])))))
  all_goals (conv => whnf)
  all_goals (rw [hn]; exact ⟨rfl, rfl⟩)
theorem implValuesRight (vs : List Val) (hl : vs.length ≤ maxLen) : Ent Try.prog 14 [.d (.sl false (vs.map valD))] [] (.d (.b (dec (valuesP vs)))) [] := by
  obtain ⟨o, ho⟩ : ∃ o, o = dec (valuesP vs) := ⟨_, rfl⟩
  rw [← ho]
  have c1 := containsVals vs hl
  refine ent_of tok mixed (f := 14) Try.func14 (by kernel_rfl) (keep := false) ?_
  repeat' ((conv => whnf) <;> (first | ((with_reducible refine isCall ?_) <;> (first | (refine ⟨_, c1, ?_⟩; rintro _ _ ⟨rfl, rfl⟩) | fail)) | ((with_reducible refine isCut ?_) <;> (first | refine ⟨⟨none⟩, ?_⟩)) | ((first | with_reducible refine isEx ?_ | with_reducible refine isAnd ?_ | with_reducible refine isOr ?_) <;> (first | ((with_reducible refine isSmall ?_) <;> (refine ⟨?_, ?_⟩; kernel_rfl)) | refine ⟨rfl, ?_⟩ | refine ⟨Int.natCast_nonneg _, ?_⟩)) | with_reducible refine Both.mk ?_ ?_ | rintro _ rfl | exact rfl | (split <;> (rename_i h; first | (simp only [beq_self_eq_true, eq_self, decide_true, Bool.not_true, Bool.false_eq_true] at h; done) | (try rw [h])))))
  all_goals (conv => whnf)
  all_goals first
    | exact ret_false ho fun hP => by have := of_decide_eq_false h; rw [List.length_map] at this; have := hP.1; omega
    | (refine ret_b ho ⟨fun hb => ⟨by have := of_decide_eq_true h; rw [List.length_map] at this; omega, fun v hv => Classical.byContradiction fun hn => of_ndec (not_ok' hb) ⟨v, hv, hn⟩⟩, fun hP => ?_⟩
       rw [dec_false fun ⟨v, hv, hn⟩ => hn (hP.2 v hv)]; rfl)
    | trace_state
end Go.Pm.Try
