/-
Rows that clash.
-/
import Derived.Test.YtlihmioijkichaaGreatTb
namespace Go.Pm.Tryz
open Go Go.Proofs
set_option linter.unusedVariables false
set_option linter.unusedSimpArgs false
set_option maxRecDepth 100000
def noNull (vs : List Val) : Prop := ∀ v, v ∈ vs → ¬ v.kind = 0
def clashX (x : Idx) (a b : List Val) : Prop := x.uniq = true ∧ noNull (pickM a x.cols) ∧ pickM a x.cols = pickM b x.cols
def clashP (is : List Idx) (a b : List Val) : Prop := ∃ x, x ∈ is ∧ clashX x a b
theorem clash_symm {is : List Idx} {a b : List Val} : clashP is a b ↔ clashP is b a := by
  constructor <;> (rintro ⟨x, hx, h1, h2, h3⟩; exact ⟨x, hx, h1, h3 ▸ h2, h3.symm⟩)
/-- What an index picks is there, in both rows. -/
def idxIn (is : List Idx) (a : List Val) : Prop := ∀ x, x ∈ is → x.cols.length ≤ 1000 ∧ inRow a x.cols
def nullB (vs : List Val) : Bool := vs.any fun v => decide (v.kind = 0)
theorem nullB_iff {vs : List Val} : nullB vs = false ↔ noNull vs := by
  simp only [nullB, List.any_eq_false, decide_eq_true_eq, noNull]
theorem null_up {vs : List Val} {m : Nat} {v : Val} (h : vs[m]? = some v) : nullB (vs.take (m + 1)) = (nullB (vs.take m) || decide (v.kind = 0)) := by
  simp only [nullB, take_up h, List.any_append, List.any_cons, List.any_nil, Bool.or_false]
set_option maxHeartbeats 4000000 in
theorem specClash (s : Schema) (a b : List Val) (hi : s.idxs.length ≤ maxLen) (ha : idxIn s.idxs a) (hb : idxIn s.idxs b) : Ent Tryz.prog 179 [.d (schemaD s), .d (.sl false (a.map valD)), .d (.sl false (b.map valD))] [] (.d (.b (dec (clashP s.idxs a b)))) [] := by
  obtain ⟨o, ho⟩ : ∃ o, o = dec (clashP s.idxs a b) := ⟨_, rfl⟩
  rw [← ho]
  have hil : (s.idxs.map idxD).length = s.idxs.length := List.length_map ..
  refine ent_of tok mixed (f := 179) Tryz.func179 (by kernel_rfl) (keep := false) ?_
  repeat' ((conv => whnf) <;> (first
    | ((with_reducible refine isCall ?_) <;> (first
        | (refine ⟨_, c1, ?_⟩; rintro _ _ ⟨rfl, rfl⟩)
        | (refine ⟨_, c2, ?_⟩; rintro _ _ ⟨rfl, rfl⟩)
        | (refine ⟨_, c3, ?_⟩; rintro _ _ ⟨rfl, rfl⟩)
        | refine ⟨_, get_map' hx, ?_⟩
        | refine ⟨_, get_map' hy, ?_⟩
        | ((with_reducible refine isGet (xs := s.idxs.map idxD) (i := ((k : Nat) : Int).toNat) ?_); obtain ⟨x, hx⟩ := get_ex (ss := s.idxs) (k := k) (lt_of_dec (by assumption)); have c1 := specPick a x.cols (ha x (get_mem hx)).1 (ha x (get_mem hx)).2; have c2 := specPick b x.cols (hb x (get_mem hx)).1 (hb x (get_mem hx)).2; have hpl : (pickM a x.cols).length ≤ maxLen := (by rw [pickM_len]; exact Nat.le_trans (ha x (get_mem hx)).1 (Nat.le_of_ble_eq_true rfl)); have c3 := l02Compare (pickM a x.cols) (pickM b x.cols) hpl (by rw [pickM_len]; exact Nat.le_trans (hb x (get_mem hx)).1 (Nat.le_of_ble_eq_true rfl)); refine ⟨_, get_map' hx, ?_⟩)
        | ((with_reducible refine isGet (xs := (pickM a x.cols).map valD) (i := ((m : Nat) : Int).toNat) ?_); obtain ⟨y, hy⟩ := get_ex (ss := pickM a x.cols) (k := m) (lt_of_dec (by assumption)); refine ⟨_, get_map' hy, ?_⟩)
        | fail))
    | ((with_reducible refine isLoop ?_) <;> (first
        | (refine ⟨[1, 2, 3, 7], [10003], fun st => ∃ (k : Nat) (i : Int), i = k ∧ k ≤ s.idxs.length ∧ (∀ x, x ∈ s.idxs.take k → ¬ clashX x a b) ∧ st = ⟨[(1, .d (.sl false (a.map valD))), (2, .d (.sl false (b.map valD))), (3, .ptr 10003 0), (7, .d (.i .i64 i))], [(10003, .var (schC s))]⟩, fun st => match look 7 st.env with | some (.d (.i _ i)) => s.idxs.length - i.toNat | _ => 0, rfl, ⟨0, _, rfl, Nat.zero_le _, (fun x hx => by simp at hx), rfl⟩, ?_⟩; rintro st ⟨k, i, rfl, hk, hv, rfl⟩)
        | (refine ⟨[1, 2, 3, 7, 8, 9, 10], [10003], fun st => ∃ (m : Nat) (i : Int) (u : Bool), i = m ∧ m ≤ (pickM a x.cols).length ∧ x.uniq = true ∧ u = nullB ((pickM a x.cols).take m) ∧ st = ⟨[(1, .d (.sl false (a.map valD))), (2, .d (.sl false (b.map valD))), (3, .ptr 10003 0), (7, .d (.i .i64 k)), (8, .d (.sl false ((pickM a x.cols).map valD))), (9, .d (.b u)), (10, .d (.i .i64 i))], [(10003, .var (schC s))]⟩, fun st => match look 10 st.env with | some (.d (.i _ i)) => (pickM a x.cols).length - i.toNat | _ => 0, rfl, ⟨0, _, _, rfl, Nat.zero_le _, not_ok (by assumption), rfl, rfl⟩, ?_⟩; rintro st ⟨m, i, u, rfl, hm, hun, hu, rfl⟩)
        | refine ⟨_, get_map' hx, ?_⟩
        | refine ⟨_, get_map' hy, ?_⟩
        | ((with_reducible refine isGet (xs := s.idxs.map idxD) (i := ((k : Nat) : Int).toNat) ?_); obtain ⟨x, hx⟩ := get_ex (ss := s.idxs) (k := k) (lt_of_dec (by assumption)); have c1 := specPick a x.cols (ha x (get_mem hx)).1 (ha x (get_mem hx)).2; have c2 := specPick b x.cols (hb x (get_mem hx)).1 (hb x (get_mem hx)).2; have hpl : (pickM a x.cols).length ≤ maxLen := (by rw [pickM_len]; exact Nat.le_trans (ha x (get_mem hx)).1 (Nat.le_of_ble_eq_true rfl)); have c3 := l02Compare (pickM a x.cols) (pickM b x.cols) hpl (by rw [pickM_len]; exact Nat.le_trans (hb x (get_mem hx)).1 (Nat.le_of_ble_eq_true rfl)); refine ⟨_, get_map' hx, ?_⟩)
        | ((with_reducible refine isGet (xs := (pickM a x.cols).map valD) (i := ((m : Nat) : Int).toNat) ?_); obtain ⟨y, hy⟩ := get_ex (ss := pickM a x.cols) (k := m) (lt_of_dec (by assumption)); refine ⟨_, get_map' hy, ?_⟩)
        | fail))
    | ((with_reducible refine isCut ?_) <;> (first
        | refine ⟨⟨none⟩, ?_⟩))
    | ((first | with_reducible refine isEx ?_ | with_reducible refine isAnd ?_ | with_reducible refine isOr ?_) <;> (first
        | refine ⟨_, get_map' hx, ?_⟩
        | refine ⟨_, get_map' hy, ?_⟩
        | ((with_reducible refine isGet (xs := s.idxs.map idxD) (i := ((k : Nat) : Int).toNat) ?_); obtain ⟨x, hx⟩ := get_ex (ss := s.idxs) (k := k) (lt_of_dec (by assumption)); have c1 := specPick a x.cols (ha x (get_mem hx)).1 (ha x (get_mem hx)).2; have c2 := specPick b x.cols (hb x (get_mem hx)).1 (hb x (get_mem hx)).2; have hpl : (pickM a x.cols).length ≤ maxLen := (by rw [pickM_len]; exact Nat.le_trans (ha x (get_mem hx)).1 (Nat.le_of_ble_eq_true rfl)); have c3 := l02Compare (pickM a x.cols) (pickM b x.cols) hpl (by rw [pickM_len]; exact Nat.le_trans (hb x (get_mem hx)).1 (Nat.le_of_ble_eq_true rfl)); refine ⟨_, get_map' hx, ?_⟩)
        | ((with_reducible refine isGet (xs := (pickM a x.cols).map valD) (i := ((m : Nat) : Int).toNat) ?_); obtain ⟨y, hy⟩ := get_ex (ss := pickM a x.cols) (k := m) (lt_of_dec (by assumption)); refine ⟨_, get_map' hy, ?_⟩)
        | refine ⟨rfl, ?_⟩
        | refine ⟨Int.natCast_nonneg _, ?_⟩))
    | with_reducible refine Both.mk ?_ ?_
    | rintro _ rfl
    | exact rfl
    | (split <;> (rename_i h; first | (simp only [beq_self_eq_true, eq_self, decide_true, Bool.not_true, Bool.false_eq_true] at h; done) | (try rw [h])))))
  all_goals (conv => whnf)
  all_goals first
    | exact ⟨⟨k + 1, _, step_up (get_lt hx) hi, get_lt hx, take_all hv hx (fun hc => Bool.noConfusion ((not_ok' h).symm.trans hc.1 : false = true)), rfl⟩, mu_up (get_lt hx) hi⟩
    | (obtain ⟨y, hy⟩ := get_ex (ss := pickM a x.cols) (k := m) (lt_of_dec (by assumption))
       exact ⟨⟨m + 1, _, _, step_up (get_lt hy) hpl, get_lt hy, hun, (by rw [null_up hy, ← hu]; rfl), rfl⟩, mu_up (get_lt hy) hpl⟩)
    | exact ⟨⟨m + 1, _, _, step_up (get_lt hy) hpl, get_lt hy, hun, (by rw [null_up hy, ← hu]; rfl), rfl⟩, mu_up (get_lt hy) hpl⟩
    | (have e : m = (pickM a x.cols).length := by have := of_decide_eq_false (by assumption : decide ((m : Int) < (((pickM a x.cols).map valD).length : Int)) = false); rw [List.length_map] at this; omega
       rw [e, List.take_length] at hu
       first
         | exact ret_true ho ⟨x, get_mem hx, hun, nullB_iff.1 (hu.symm.trans (not_ok' (by assumption : (!u) = true))), cmpL_zero.1 (of_decide_eq_true h)⟩
         | exact ⟨⟨k + 1, _, step_up (get_lt hx) hi, get_lt hx, take_all hv hx (fun hc => of_decide_eq_false h (cmpL_zero.2 hc.2.2)), rfl⟩, mu_up (get_lt hx) hi⟩
         | exact ⟨⟨k + 1, _, step_up (get_lt hx) hi, get_lt hx, take_all hv hx (fun hc => Bool.noConfusion ((not_ok h).symm.trans (hu.trans (nullB_iff.2 hc.2.1)) : true = false)), rfl⟩, mu_up (get_lt hx) hi⟩)
    | (have e : k = s.idxs.length := by have := of_decide_eq_false h; omega
       rw [e, List.take_length] at hv
       exact ret_false ho fun ⟨x, hx, hc⟩ => hv x hx hc)
    | trace_state
theorem val_null {v : Val} (h : valueP v) : v = ⟨0, 0, []⟩ ↔ v.kind = 0 := by
  constructor
  · intro e; rw [e]
  · intro e
    rcases h with ⟨_, h2, h3⟩ | ⟨h1, _⟩ | ⟨h1, _⟩ | ⟨h1, _⟩
    · rcases v with ⟨k, n, t⟩; simp only at e h2 h3; rw [e, h2, h3]
    all_goals omega
theorem eqv_true {w x : Val} (h : (decide (w.kind = x.kind) && (decide (w.n = x.n) && (decide (w.text = x.text) && true))) = true) : w = x := by
  simp only [Bool.and_true, Bool.and_eq_true, decide_eq_true_eq] at h
  rcases w with ⟨k, n, t⟩
  rcases x with ⟨k', n', t'⟩
  obtain ⟨h1, h2, h3⟩ := h
  simp only at h1 h2 h3
  rw [h1, h2, h3]
theorem eqv_false {w x : Val} (h : (decide (w.kind = x.kind) && (decide (w.n = x.n) && (decide (w.text = x.text) && true))) = false) : ¬ w = x := by
  intro e
  subst e
  simp at h
set_option maxHeartbeats 1000000 in
theorem indexVal (vs : List Val) (hl : vs.length ≤ maxLen) (w : Val) : EntQ Tryz.prog 296 [.d (.sl false (vs.map valD)), .d (valD w)] [] (fun R O => ∃ n : Int, R = .d (.i .i64 n) ∧ O = [] ∧ decide (n ≥ 0) = dec (w ∈ vs)) := by
  refine ent_of tok mixed (f := 296) Tryz.func296 (by kernel_rfl) (keep := false) ?_
  repeat' ((conv => whnf) <;> (first
    | ((with_reducible refine isCall ?_) <;> (first
        | refine ⟨_, get_map' hx, ?_⟩
        | ((with_reducible refine isGet (xs := vs.map valD) (i := ((k : Nat) : Int).toNat) ?_); obtain ⟨x, hx⟩ := get_ex (ss := vs) (k := k) (lt_of_dec (by assumption)); refine ⟨_, get_map' hx, ?_⟩)
        | fail))
    | ((with_reducible refine isLoop ?_) <;> (first
        | (refine ⟨[0, 3, 7, 8], [10003], fun st => ∃ (k : Nat) (n : Int), n = k ∧ k ≤ vs.length ∧ (∀ i, i ∈ vs.take k → ¬ i = w) ∧ st = ⟨[(0, .d (.sl false (vs.map valD))), (3, .ptr 10003 0), (7, .d (.i .i64 ((vs.map valD).length : Int))), (8, .d (.i .i64 n))], [(10003, .var (AV.d (valD w)).cells)]⟩, fun st => match look 8 st.env with | some (.d (.i _ n)) => vs.length - n.toNat | _ => 0, rfl, ⟨0, _, rfl, Nat.zero_le _, (fun x hx => by simp at hx), rfl⟩, ?_⟩; rintro st ⟨k, n, rfl, hk, hv, rfl⟩)
        | refine ⟨_, get_map' hx, ?_⟩
        | ((with_reducible refine isGet (xs := vs.map valD) (i := ((k : Nat) : Int).toNat) ?_); obtain ⟨x, hx⟩ := get_ex (ss := vs) (k := k) (lt_of_dec (by assumption)); refine ⟨_, get_map' hx, ?_⟩)
        | fail))
    | ((with_reducible refine isCut ?_) <;> (first
        | refine ⟨⟨none⟩, ?_⟩))
    | ((first | with_reducible refine isEx ?_ | with_reducible refine isAnd ?_ | with_reducible refine isOr ?_) <;> (first
        | refine ⟨_, get_map' hx, ?_⟩
        | ((with_reducible refine isGet (xs := vs.map valD) (i := ((k : Nat) : Int).toNat) ?_); obtain ⟨x, hx⟩ := get_ex (ss := vs) (k := k) (lt_of_dec (by assumption)); refine ⟨_, get_map' hx, ?_⟩)
        | refine ⟨rfl, ?_⟩
        | refine ⟨Int.natCast_nonneg _, ?_⟩))
    | with_reducible refine Both.mk ?_ ?_
    | rintro _ rfl
    | exact rfl
    | (split <;> (rename_i h; first | (simp only [beq_self_eq_true, eq_self, decide_true, Bool.not_true, Bool.false_eq_true] at h; done) | (try rw [h])))))
  all_goals (conv => whnf)
  · refine ⟨_, rfl, rfl, ?_⟩
    rw [dec_true (eqv_true h ▸ get_mem hx)]
    exact decide_eq_true (Int.natCast_nonneg k)
  · exact ⟨⟨k + 1, _, step_up (get_lt hx) hl, get_lt hx, any_no hv hx (fun e => eqv_false h e.symm), rfl⟩, mu_up (get_lt hx) hl⟩
  · refine ⟨_, rfl, rfl, ?_⟩
    have e : k = vs.length := by have := of_decide_eq_false h; rw [List.length_map] at this; omega
    rw [e, List.take_length] at hv
    rw [dec_false fun hm => hv w hm rfl]; rfl
theorem containsVal (vs : List Val) (hl : vs.length ≤ maxLen) (w : Val) : Ent Tryz.prog 255 [.d (.sl false (vs.map valD)), .d (valD w)] [] (.d (.b (dec (w ∈ vs)))) [] := by
  have c1 := indexVal vs hl w
  refine ent_of tok mixed (f := 255) Tryz.func255 (by kernel_rfl) (keep := false) ?_
  repeat' ((conv => whnf) <;> (first
    | ((with_reducible refine isCall ?_) <;> (first
        | (refine ⟨_, c1, ?_⟩; rintro _ _ ⟨n, rfl, rfl, hn⟩)
        | fail))
    | ((with_reducible refine isLoop ?_) <;> (first
        | fail))
    | ((with_reducible refine isCut ?_) <;> (first
        | refine ⟨⟨none⟩, ?_⟩))
    | ((first | with_reducible refine isEx ?_ | with_reducible refine isAnd ?_ | with_reducible refine isOr ?_) <;> (first
        | refine ⟨rfl, ?_⟩
        | refine ⟨Int.natCast_nonneg _, ?_⟩))
    | with_reducible refine Both.mk ?_ ?_
    | rintro _ rfl
    | exact rfl
    | (split <;> (rename_i h; first | (simp only [beq_self_eq_true, eq_self, decide_true, Bool.not_true, Bool.false_eq_true] at h; done) | (try rw [h])))))
  all_goals (conv => whnf)
  all_goals (rw [hn]; exact ⟨rfl, rfl⟩)
set_option maxHeartbeats 1000000 in
theorem equalVals (a b : List Val) (ha : a.length ≤ maxLen) : Ent Tryz.prog 256 [.d (.sl false (a.map valD)), .d (.sl false (b.map valD))] [] (.d (.b (dec (a = b)))) [] := by
  obtain ⟨o, ho⟩ : ∃ o, o = dec (a = b) := ⟨_, rfl⟩
  rw [← ho]
  have hla : (a.map valD).length = a.length := List.length_map ..
  have hlb : (b.map valD).length = b.length := List.length_map ..
  refine ent_of tok mixed (f := 256) Tryz.func256 (by kernel_rfl) (keep := false) ?_
  repeat' ((conv => whnf) <;> (first
    | ((with_reducible refine isCall ?_) <;> (first
        | refine ⟨_, get_map' hx, ?_⟩
        | refine ⟨_, get_map' hy, ?_⟩
        | ((with_reducible refine isGet (xs := a.map valD) (i := ((k : Nat) : Int).toNat) ?_); obtain ⟨x, hx⟩ := get_ex (ss := a) (k := k) (lt_of_dec (by assumption)); refine ⟨_, get_map' hx, ?_⟩)
        | ((with_reducible refine isGet (xs := b.map valD) (i := ((k : Nat) : Int).toNat) ?_); obtain ⟨y, hy⟩ := get_ex (ss := b) (k := k) (by have := lt_of_dec (ss := a) (k := k) (f := valD) (by assumption); omega); refine ⟨_, get_map' hy, ?_⟩)
        | fail))
    | ((with_reducible refine isLoop ?_) <;> (first
        | (refine ⟨[0, 1, 12, 13], [], fun st => ∃ (k : Nat) (n : Int), n = k ∧ k ≤ a.length ∧ a.length = b.length ∧ a.take k = b.take k ∧ st = ⟨[(0, .d (.sl false (a.map valD))), (1, .d (.sl false (b.map valD))), (12, .d (.i .i64 ((a.map valD).length : Int))), (13, .d (.i .i64 n))], []⟩, fun st => match look 13 st.env with | some (.d (.i _ n)) => a.length - n.toNat | _ => 0, rfl, ⟨0, _, rfl, Nat.zero_le _, (by have := of_decide_eq_true (not_ok (by assumption)); omega), rfl, rfl⟩, ?_⟩; rintro st ⟨k, n, rfl, hk, heq, hv, rfl⟩)
        | refine ⟨_, get_map' hx, ?_⟩
        | refine ⟨_, get_map' hy, ?_⟩
        | ((with_reducible refine isGet (xs := a.map valD) (i := ((k : Nat) : Int).toNat) ?_); obtain ⟨x, hx⟩ := get_ex (ss := a) (k := k) (lt_of_dec (by assumption)); refine ⟨_, get_map' hx, ?_⟩)
        | ((with_reducible refine isGet (xs := b.map valD) (i := ((k : Nat) : Int).toNat) ?_); obtain ⟨y, hy⟩ := get_ex (ss := b) (k := k) (by have := lt_of_dec (ss := a) (k := k) (f := valD) (by assumption); omega); refine ⟨_, get_map' hy, ?_⟩)
        | fail))
    | ((with_reducible refine isCut ?_) <;> (first
        | refine ⟨⟨none⟩, ?_⟩))
    | ((first | with_reducible refine isEx ?_ | with_reducible refine isAnd ?_ | with_reducible refine isOr ?_) <;> (first
        | refine ⟨_, get_map' hx, ?_⟩
        | refine ⟨_, get_map' hy, ?_⟩
        | ((with_reducible refine isGet (xs := a.map valD) (i := ((k : Nat) : Int).toNat) ?_); obtain ⟨x, hx⟩ := get_ex (ss := a) (k := k) (lt_of_dec (by assumption)); refine ⟨_, get_map' hx, ?_⟩)
        | ((with_reducible refine isGet (xs := b.map valD) (i := ((k : Nat) : Int).toNat) ?_); obtain ⟨y, hy⟩ := get_ex (ss := b) (k := k) (by have := lt_of_dec (ss := a) (k := k) (f := valD) (by assumption); omega); refine ⟨_, get_map' hy, ?_⟩)
        | refine ⟨rfl, ?_⟩
        | refine ⟨Int.natCast_nonneg _, ?_⟩))
    | with_reducible refine Both.mk ?_ ?_
    | rintro _ rfl
    | exact rfl
    | (split <;> (rename_i h; first | (simp only [beq_self_eq_true, eq_self, decide_true, Bool.not_true, Bool.false_eq_true] at h; done) | (try rw [h])))))
  all_goals (conv => whnf)
  all_goals first
    | exact ret_false ho fun e => of_decide_eq_false (not_ok' h) (by rw [hla, hlb, e])
    | exact ret_false ho fun e => eqv_false (not_ok' h) (by rw [e, hy] at hx; cases hx; rfl)
    | exact ⟨⟨k + 1, _, step_up (get_lt hx) ha, get_lt hx, heq, (by rw [take_up hx, take_up hy, hv, eqv_true (not_ok h)]), rfl⟩, mu_up (get_lt hx) ha⟩
    | (have e : k = a.length := by have := of_decide_eq_false h; omega
       rw [e, List.take_length, heq, List.take_length] at hv
       exact ret_true ho hv)
    | trace_state
theorem pick_mem {row : List Val} {cols : List Int} (h : inRow row cols) {v : Val} (hv : v ∈ pickM row cols) : v ∈ row := by
  obtain ⟨c, hc, rfl⟩ := List.mem_map.1 hv
  have := h c hc
  have e : row.getD c.toNat ⟨0, 0, []⟩ = row[c.toNat]'(by omega) := by rw [List.getD_eq_getElem?_getD, List.getElem?_eq_getElem (by omega)]; rfl
  rw [e]; exact List.getElem_mem _
theorem no_null {row : List Val} {cols : List Int} (h : inRow row cols) (hp : ∀ v, v ∈ row → valueP v) : ¬ (⟨0, 0, []⟩ : Val) ∈ pickM row cols ↔ noNull (pickM row cols) := by
  constructor
  · intro hn v hv hk
    exact hn ((val_null (hp v (pick_mem h hv))).2 hk ▸ hv)
  · exact fun hn hm => hn _ hm rfl
set_option maxHeartbeats 1000000 in
theorem clashOne (x : Idx) (a b : List Val) (hc : x.cols.length ≤ 1000) (ha : inRow a x.cols) (hb : inRow b x.cols) (hp : ∀ v, v ∈ a → valueP v) :
    Ent Tryz.prog 254 [.d (idxD x), .ptr 0 0, .ptr 1 0] [.var [.d (.sl false (a.map valD))], .var [.d (.sl false (b.map valD))]] (.d (.b (dec (clashX x a b)))) [.var [.d (.sl false (a.map valD))], .var [.d (.sl false (b.map valD))]] := by
  obtain ⟨o, ho⟩ : ∃ o, o = dec (clashX x a b) := ⟨_, rfl⟩
  rw [← ho]
  have hpl : (pickM a x.cols).length ≤ maxLen := by rw [pickM_len]; exact Nat.le_trans hc (Nat.le_of_ble_eq_true rfl)
  have c1 := implPick a x.cols hc ha
  have c2 := implPick b x.cols hc hb
  have c3 := containsVal (pickM a x.cols) hpl ⟨0, 0, []⟩
  have c4 := equalVals (pickM a x.cols) (pickM b x.cols) hpl
  have hn := no_null ha hp
  refine ent_of tok mixed (f := 254) Tryz.func254 (by kernel_rfl) (keep := false) ?_
  repeat' ((conv => whnf) <;> (first
    | ((with_reducible refine isCall ?_) <;> (first
        | (refine ⟨_, c1, ?_⟩; rintro _ _ ⟨rfl, rfl⟩)
        | (refine ⟨_, c2, ?_⟩; rintro _ _ ⟨rfl, rfl⟩)
        | (refine ⟨_, c3, ?_⟩; rintro _ _ ⟨rfl, rfl⟩)
        | (refine ⟨_, c4, ?_⟩; rintro _ _ ⟨rfl, rfl⟩)
        | fail))
    | ((with_reducible refine isLoop ?_) <;> (first
        | fail))
    | ((with_reducible refine isCut ?_) <;> (first
        | refine ⟨⟨none⟩, ?_⟩))
    | ((first | with_reducible refine isEx ?_ | with_reducible refine isAnd ?_ | with_reducible refine isOr ?_) <;> (first
        | refine ⟨rfl, ?_⟩
        | refine ⟨Int.natCast_nonneg _, ?_⟩))
    | with_reducible refine Both.mk ?_ ?_
    | rintro _ rfl
    | exact rfl
    | (split <;> (rename_i h; first | (simp only [beq_self_eq_true, eq_self, decide_true, Bool.not_true, Bool.false_eq_true] at h; done) | (try rw [h])))))
  all_goals (conv => whnf)
  all_goals first
    | exact ret_false ho fun hP => Bool.noConfusion (h.symm.trans hP.1 : false = true)
    | exact ret_false ho fun hP => hn.2 hP.2.1 (of_dec (not_ok h))
    | exact ret_b ho ⟨fun e => ⟨by assumption, hn.1 (of_ndec (not_ok' h)), of_dec e⟩, fun hP => dec_true hP.2.2⟩
    | trace_state
set_option maxHeartbeats 1000000 in
theorem indexClash (is : List Idx) (a b : List Val) (hl : is.length ≤ maxLen) (ha : idxIn is a) (hb : idxIn is b) (hp : ∀ v, v ∈ a → valueP v) : EntQ Tryz.prog 173 [.d (.sl false (is.map idxD)), .fn 254 [.ptr 0 0, .ptr 1 0]] [.var [.d (.sl false (a.map valD))], .var [.d (.sl false (b.map valD))]]
    (fun R O => ∃ n : Int, R = .d (.i .i64 n) ∧ O = [.var [.d (.sl false (a.map valD))], .var [.d (.sl false (b.map valD))]] ∧ decide (n ≥ 0) = dec (clashP is a b)) := by
  refine ent_of tok mixed (f := 173) Tryz.func173 (by kernel_rfl) (keep := false) ?_
  repeat' ((conv => whnf) <;> (first
    | ((with_reducible refine isCall ?_) <;> (first
        | (refine ⟨_, c1, ?_⟩; rintro _ _ ⟨rfl, rfl⟩)
        | ((with_reducible refine isGet (xs := is.map idxD) (i := ((k : Nat) : Int).toNat) ?_); obtain ⟨i, hi⟩ := get_ex (ss := is) (k := k) (lt_of_dec (by assumption)); have c1 := clashOne i a b (ha i (get_mem hi)).1 (ha i (get_mem hi)).2 (hb i (get_mem hi)).2 hp; refine ⟨_, get_map' hi, ?_⟩)
        | fail))
    | ((with_reducible refine isLoop ?_) <;> (first
        | (refine ⟨[8, 7, 0, 1], [0, 1], fun st => ∃ (k : Nat) (n : Int), n = k ∧ k ≤ is.length ∧ (∀ i, i ∈ is.take k → ¬ clashX i a b) ∧ st = ⟨[(8, .d (.i .i64 n)), (7, .d (.i .i64 ((is.map idxD).length : Int))), (0, .d (.sl false (is.map idxD))), (1, .fn 254 [.ptr 0 0, .ptr 1 0])], [(0, .var [.d (.sl false (a.map valD))]), (1, .var [.d (.sl false (b.map valD))])]⟩, fun st => match look 8 st.env with | some (.d (.i _ n)) => is.length - n.toNat | _ => 0, rfl, ⟨0, _, rfl, Nat.zero_le _, (fun x hx => by simp at hx), rfl⟩, ?_⟩; rintro st ⟨k, n, rfl, hk, hv, rfl⟩)
        | ((with_reducible refine isGet (xs := is.map idxD) (i := ((k : Nat) : Int).toNat) ?_); obtain ⟨i, hi⟩ := get_ex (ss := is) (k := k) (lt_of_dec (by assumption)); have c1 := clashOne i a b (ha i (get_mem hi)).1 (ha i (get_mem hi)).2 (hb i (get_mem hi)).2 hp; refine ⟨_, get_map' hi, ?_⟩)
        | fail))
    | ((with_reducible refine isCut ?_) <;> (first
        | refine ⟨⟨none⟩, ?_⟩))
    | ((first | with_reducible refine isEx ?_ | with_reducible refine isAnd ?_ | with_reducible refine isOr ?_) <;> (first
        | ((with_reducible refine isGet (xs := is.map idxD) (i := ((k : Nat) : Int).toNat) ?_); obtain ⟨i, hi⟩ := get_ex (ss := is) (k := k) (lt_of_dec (by assumption)); have c1 := clashOne i a b (ha i (get_mem hi)).1 (ha i (get_mem hi)).2 (hb i (get_mem hi)).2 hp; refine ⟨_, get_map' hi, ?_⟩)
        | refine ⟨rfl, ?_⟩
        | refine ⟨Int.natCast_nonneg _, ?_⟩))
    | with_reducible refine Both.mk ?_ ?_
    | rintro _ rfl
    | exact rfl
    | (split <;> (rename_i h; first | (simp only [beq_self_eq_true, eq_self, decide_true, Bool.not_true, Bool.false_eq_true] at h; done) | (try rw [h])))))
  all_goals (conv => whnf)
  · refine ⟨_, rfl, rfl, ?_⟩
    rw [dec_true (p := clashP is a b) ⟨i, get_mem hi, of_dec h⟩]
    exact decide_eq_true (Int.natCast_nonneg k)
  · exact ⟨⟨k + 1, _, step_up (get_lt hi) hl, get_lt hi, any_no hv hi (of_ndec h), rfl⟩, mu_up (get_lt hi) hl⟩
  · refine ⟨_, rfl, rfl, ?_⟩
    have e : k = is.length := by have := of_decide_eq_false h; rw [List.length_map] at this; omega
    rw [e, List.take_length] at hv
    rw [dec_false (p := clashP is a b) fun ⟨c, h1, h2⟩ => hv c h1 h2]; rfl
theorem containsClash (is : List Idx) (a b : List Val) (hl : is.length ≤ maxLen) (ha : idxIn is a) (hb : idxIn is b) (hp : ∀ v, v ∈ a → valueP v) : Ent Tryz.prog 96 [.d (.sl false (is.map idxD)), .fn 254 [.ptr 0 0, .ptr 1 0]] [.var [.d (.sl false (a.map valD))], .var [.d (.sl false (b.map valD))]]
    (.d (.b (dec (clashP is a b)))) [.var [.d (.sl false (a.map valD))], .var [.d (.sl false (b.map valD))]] := by
  have c1 := indexClash is a b hl ha hb hp
  refine ent_of tok mixed (f := 96) Tryz.func96 (by kernel_rfl) (keep := false) ?_
  repeat' ((conv => whnf) <;> (first
    | ((with_reducible refine isCall ?_) <;> (first
        | (refine ⟨_, c1, ?_⟩; rintro _ _ ⟨n, rfl, rfl, hn⟩)
        | fail))
    | ((with_reducible refine isLoop ?_) <;> (first
        | fail))
    | ((with_reducible refine isCut ?_) <;> (first
        | refine ⟨⟨none⟩, ?_⟩))
    | ((first | with_reducible refine isEx ?_ | with_reducible refine isAnd ?_ | with_reducible refine isOr ?_) <;> (first
        | refine ⟨rfl, ?_⟩
        | refine ⟨Int.natCast_nonneg _, ?_⟩))
    | with_reducible refine Both.mk ?_ ?_
    | rintro _ rfl
    | exact rfl
    | (split <;> (rename_i h; first | (simp only [beq_self_eq_true, eq_self, decide_true, Bool.not_true, Bool.false_eq_true] at h; done) | (try rw [h])))))
  all_goals (conv => whnf)
  all_goals (rw [hn]; exact ⟨rfl, rfl⟩)
theorem implClash (s : Schema) (a b : List Val) (hl : s.idxs.length ≤ maxLen) (ha : idxIn s.idxs a) (hb : idxIn s.idxs b) (hp : ∀ v, v ∈ a → valueP v) : Ent Tryz.prog 187 [.d (schemaD s), .d (.sl false (a.map valD)), .d (.sl false (b.map valD))] [] (.d (.b (dec (clashP s.idxs a b)))) [] := by
  have c1 := containsClash s.idxs a b hl ha hb hp
  refine ent_of tok mixed (f := 187) Tryz.func187 (by kernel_rfl) (keep := false) ?_
  repeat' ((conv => whnf) <;> (first
    | ((with_reducible refine isCall ?_) <;> (first
        | (refine ⟨_, c1, ?_⟩; rintro _ _ ⟨rfl, rfl⟩)
        | fail))
    | ((with_reducible refine isLoop ?_) <;> (first
        | fail))
    | ((with_reducible refine isCut ?_) <;> (first
        | refine ⟨⟨none⟩, ?_⟩))
    | ((first | with_reducible refine isEx ?_ | with_reducible refine isAnd ?_ | with_reducible refine isOr ?_) <;> (first
        | refine ⟨rfl, ?_⟩
        | refine ⟨Int.natCast_nonneg _, ?_⟩))
    | with_reducible refine Both.mk ?_ ?_
    | rintro _ rfl
    | exact rfl
    | (split <;> (rename_i h; first | (simp only [beq_self_eq_true, eq_self, decide_true, Bool.not_true, Bool.false_eq_true] at h; done) | (try rw [h])))))
end Go.Pm.Tryz
