/-
Schemas: which are right.
-/
import Derived.Test.YtjjnmkhcdbmhoaaCi
namespace Go.Pm.Try
open Go Go.Proofs
set_option linter.unusedVariables false
set_option linter.unusedSimpArgs false
set_option maxRecDepth 100000
noncomputable def dec (p : Prop) : Bool := @decide p (Classical.propDecidable p)
theorem dec_true {p : Prop} (h : p) : dec p = true := @decide_eq_true p (Classical.propDecidable p) h
theorem dec_false {p : Prop} (h : ¬ p) : dec p = false := @decide_eq_false p (Classical.propDecidable p) h
theorem of_dec {p : Prop} (h : dec p = true) : p := @of_decide_eq_true p (Classical.propDecidable p) h
theorem of_ndec {p : Prop} (h : dec p = false) : ¬ p := @of_decide_eq_false p (Classical.propDecidable p) h
theorem dec_iff {p q : Prop} (h : p ↔ q) : dec p = dec q := by rw [propext h]
theorem ret_false {o : Bool} {P : Prop} {O : List Ob} (ho : o = dec P) (h : ¬ P) : AV.d (D.b false) = AV.d (D.b o) ∧ O = O := by rw [ho, dec_false h]; exact ⟨rfl, rfl⟩
theorem ret_true {o : Bool} {P : Prop} {O : List Ob} (ho : o = dec P) (h : P) : AV.d (D.b true) = AV.d (D.b o) ∧ O = O := by rw [ho, dec_true h]; exact ⟨rfl, rfl⟩
theorem ret_b {o b : Bool} {P : Prop} {O : List Ob} (ho : o = dec P) (h : b = true ↔ P) : AV.d (D.b b) = AV.d (D.b o) ∧ O = O := by
  cases hb : b with
  | true => exact ret_true ho (h.1 hb)
  | false => exact ret_false ho fun hP => by rw [h.2 hP] at hb; cases hb
structure Col where
  name : List UInt8
  kind : Int
  uniq : Bool
structure Idx where
  cols : List Int
  uniq : Bool
structure Schema where
  name : List UInt8
  cols : List Col
  keys : List Int
  idxs : List Idx
def colD (c : Col) : D := .agg [.s c.name, .i .i64 c.kind, .b c.uniq]
def idxD (i : Idx) : D := .agg [.sl false (i.cols.map i64D), .b i.uniq]
def schemaD (s : Schema) : D := .agg [.s s.name, .sl false (s.cols.map colD), .sl false (s.keys.map i64D), .sl false (s.idxs.map idxD)]
theorem not_take_up {ks : List Int} {j : Nat} {x y : Int} (h : x ∉ ks.take j) (hy : ks[j]? = some y) (hne : ¬ y = x) : x ∉ ks.take (j + 1) := by
  rw [take_up hy]
  intro hm
  rcases List.mem_append.1 hm with hm | hm
  · exact h hm
  · exact hne (List.mem_singleton.1 hm).symm
set_option maxHeartbeats 1000000 in
theorem indexInts (ks : List Int) (hl : ks.length ≤ maxLen) (x : Int) : EntQ Try.prog 78 [.d (.sl false (ks.map i64D)), .d (.i .i64 x)] [] (fun R O => ∃ n : Int, R = .d (.i .i64 n) ∧ O = [] ∧ decide (n ≥ 0) = dec (x ∈ ks)) := by
  refine ent_of tok mixed (f := 78) Try.func78 (by kernel_rfl) (keep := false) ?_
  repeat' ((conv => whnf) <;> (first | ((with_reducible refine isCall ?_) <;> (first | (obtain ⟨y, hy⟩ := get_ex (ss := ks) (k := k) (lt_of_dec (by assumption)); refine ⟨_, get_map' hy, ?_⟩) | fail)) | ((with_reducible refine isLoop ?_) <;> (first | (refine ⟨[8, 7, 0, 1], [], fun s => ∃ (k : Nat) (n : Int), n = k ∧ k ≤ ks.length ∧ x ∉ ks.take k ∧ s = ⟨[(8, .d (.i .i64 n)), (7, .d (.i .i64 ((ks.map i64D).length : Int))), (0, .d (.sl false (ks.map i64D))), (1, .d (.i .i64 x))], []⟩, fun s => match look 8 s.env with | some (.d (.i _ n)) => ks.length - n.toNat | _ => 0, rfl, ⟨0, _, rfl, Nat.zero_le _, (by simp), rfl⟩, ?_⟩; rintro s ⟨k, n, rfl, hk, hv, rfl⟩) | (obtain ⟨y, hy⟩ := get_ex (ss := ks) (k := k) (lt_of_dec (by assumption)); refine ⟨_, get_map' hy, ?_⟩) | fail)) | ((with_reducible refine isCut ?_) <;> (first | refine ⟨⟨none⟩, ?_⟩)) | ((first | with_reducible refine isEx ?_ | with_reducible refine isAnd ?_ | with_reducible refine isOr ?_) <;> (first | (obtain ⟨y, hy⟩ := get_ex (ss := ks) (k := k) (lt_of_dec (by assumption)); refine ⟨_, get_map' hy, ?_⟩) | ((with_reducible refine isSmall ?_) <;> (refine ⟨?_, ?_⟩; kernel_rfl)) | refine ⟨rfl, ?_⟩ | refine ⟨Int.natCast_nonneg _, ?_⟩)) | with_reducible refine Both.mk ?_ ?_ | rintro _ rfl | exact rfl | (split <;> (rename_i h; first | (simp only [beq_self_eq_true, eq_self, decide_true, Bool.not_true, Bool.false_eq_true] at h; done) | (try rw [h])))))
  all_goals (conv => whnf)
  · refine ⟨_, rfl, rfl, ?_⟩
    have e := of_decide_eq_true h
    rw [dec_true (e ▸ get_mem hy)]
    exact decide_eq_true (Int.natCast_nonneg k)
  · exact ⟨⟨k + 1, _, step_up (get_lt hy) hl, get_lt hy, not_take_up hv hy (fun e => of_decide_eq_false h e.symm), rfl⟩, mu_up (get_lt hy) hl⟩
  · refine ⟨_, rfl, rfl, ?_⟩
    have e : k = ks.length := by have := of_decide_eq_false h; rw [List.length_map] at this; omega
    rw [e, List.take_length] at hv
    rw [dec_false hv]; rfl
theorem containsInts (ks : List Int) (hl : ks.length ≤ maxLen) (x : Int) : Ent Try.prog 56 [.d (.sl false (ks.map i64D)), .d (.i .i64 x)] [] (.d (.b (dec (x ∈ ks)))) [] := by
  have c1 := indexInts ks hl x
  refine ent_of tok mixed (f := 56) Try.func56 (by kernel_rfl) (keep := false) ?_
  repeat' ((conv => whnf) <;> (first | ((with_reducible refine isCall ?_) <;> (first | (refine ⟨_, c1, ?_⟩; rintro _ _ ⟨n, rfl, rfl, hn⟩) | fail)) | ((with_reducible refine isCut ?_) <;> (first | refine ⟨⟨none⟩, ?_⟩)) | ((first | with_reducible refine isEx ?_ | with_reducible refine isAnd ?_ | with_reducible refine isOr ?_) <;> (first | ((with_reducible refine isSmall ?_) <;> (refine ⟨?_, ?_⟩; kernel_rfl)) | refine ⟨rfl, ?_⟩ | refine ⟨Int.natCast_nonneg _, ?_⟩)) | with_reducible refine Both.mk ?_ ?_ | rintro _ rfl | exact rfl | (split <;> (rename_i h; first | (simp only [beq_self_eq_true, eq_self, decide_true, Bool.not_true, Bool.false_eq_true] at h; done) | (try rw [h])))))
  all_goals (conv => whnf)
  all_goals (rw [← hn]; exact ⟨rfl, rfl⟩)
def colsP (ks : List Int) (n : Nat) : Prop := 0 < ks.length ∧ ∀ (k : Nat) (x : Int), ks[k]? = some x → (0 ≤ x ∧ x < n) ∧ x ∉ ks.take k
theorem colsP_up {ks : List Int} {n k : Nat} (h : ∀ (j : Nat) (x : Int), j < k → ks[j]? = some x → (0 ≤ x ∧ x < n) ∧ x ∉ ks.take j) {y : Int} (hy : ks[k]? = some y) (h1 : 0 ≤ y ∧ y < n) (h2 : y ∉ ks.take k) :
    ∀ (j : Nat) (x : Int), j < k + 1 → ks[j]? = some x → (0 ≤ x ∧ x < n) ∧ x ∉ ks.take j := by
  intro j x hj hx
  by_cases e : j = k
  · subst e; rw [hy] at hx; cases hx; exact ⟨h1, h2⟩
  · exact h j x (by omega) hx
set_option maxHeartbeats 1000000 in
theorem specColumns (ks : List Int) (hl : ks.length ≤ maxLen) (n : Nat) : Ent Try.prog 54 [.d (.sl false (ks.map i64D)), .d (.i .i64 n)] [] (.d (.b (dec (colsP ks n)))) [] := by
  obtain ⟨o, ho⟩ : ∃ o, o = dec (colsP ks n) := ⟨_, rfl⟩
  rw [← ho]
  refine ent_of tok mixed (f := 54) Try.func54 (by kernel_rfl) (keep := false) ?_
  repeat' ((conv => whnf) <;> (first | ((with_reducible refine isCall ?_) <;> (first | refine ⟨_, get_map' hy, ?_⟩ | (obtain ⟨z, hz⟩ := get_ex (ss := ks) (k := m) (by have := get_lt hy; have := lt_of_dec' (by assumption : decide ((m : Int) < (k : Int)) = true); omega); refine ⟨_, get_map' hz, ?_⟩) | (obtain ⟨y, hy⟩ := get_ex (ss := ks) (k := k) (lt_of_dec (by assumption)); refine ⟨_, get_map' hy, ?_⟩) | fail)) | ((with_reducible refine isLoop ?_) <;> (first | (refine ⟨[5, 0, 1], [], fun s => ∃ (k : Nat) (i : Int), i = k ∧ k ≤ ks.length ∧ 0 < ks.length ∧ (∀ (j : Nat) (x : Int), j < k → ks[j]? = some x → (0 ≤ x ∧ x < n) ∧ x ∉ ks.take j) ∧ s = ⟨[(5, .d (.i .i64 i)), (0, .d (.sl false (ks.map i64D))), (1, .d (.i .i64 n))], []⟩, fun s => match look 5 s.env with | some (.d (.i _ i)) => ks.length - i.toNat | _ => 0, rfl, ⟨0, _, rfl, Nat.zero_le _, (by have := of_decide_eq_false (by assumption : decide (((ks.map i64D).length : Int) < 1) = false); rw [List.length_map] at this; omega), (fun j x hj => absurd hj (Nat.not_lt_zero _)), rfl⟩, ?_⟩; rintro s ⟨k, i, rfl, hk, h0, hv, rfl⟩) | (refine ⟨[6, 0, 1, 5], [], fun s => ∃ (m : Nat) (i : Int), i = m ∧ m ≤ k ∧ y ∉ ks.take m ∧ s = ⟨[(6, .d (.i .i64 i)), (0, .d (.sl false (ks.map i64D))), (1, .d (.i .i64 n)), (5, .d (.i .i64 k))], []⟩, fun s => match look 6 s.env with | some (.d (.i _ i)) => k - i.toNat | _ => 0, rfl, ⟨0, _, rfl, Nat.zero_le _, (by simp), rfl⟩, ?_⟩; rintro s ⟨m, i, rfl, hmk, hw, rfl⟩) | refine ⟨_, get_map' hy, ?_⟩ | (obtain ⟨z, hz⟩ := get_ex (ss := ks) (k := m) (by have := get_lt hy; have := lt_of_dec' (by assumption : decide ((m : Int) < (k : Int)) = true); omega); refine ⟨_, get_map' hz, ?_⟩) | (obtain ⟨y, hy⟩ := get_ex (ss := ks) (k := k) (lt_of_dec (by assumption)); refine ⟨_, get_map' hy, ?_⟩) | fail)) | ((with_reducible refine isCut ?_) <;> (first | refine ⟨⟨none⟩, ?_⟩)) | ((first | with_reducible refine isEx ?_ | with_reducible refine isAnd ?_ | with_reducible refine isOr ?_) <;> (first | refine ⟨_, get_map' hy, ?_⟩ | (obtain ⟨z, hz⟩ := get_ex (ss := ks) (k := m) (by have := get_lt hy; have := lt_of_dec' (by assumption : decide ((m : Int) < (k : Int)) = true); omega); refine ⟨_, get_map' hz, ?_⟩) | (obtain ⟨y, hy⟩ := get_ex (ss := ks) (k := k) (lt_of_dec (by assumption)); refine ⟨_, get_map' hy, ?_⟩) | ((with_reducible refine isSmall ?_) <;> (refine ⟨?_, ?_⟩; kernel_rfl)) | refine ⟨rfl, ?_⟩ | refine ⟨Int.natCast_nonneg _, ?_⟩)) | with_reducible refine Both.mk ?_ ?_ | rintro _ rfl | exact rfl | (split <;> (rename_i h; first | (simp only [beq_self_eq_true, eq_self, decide_true, Bool.not_true, Bool.false_eq_true] at h; done) | (try rw [h])))))
  all_goals (conv => whnf)
  · exact ret_false ho fun hP => by have := of_decide_eq_true h; have := hP.1; rw [List.length_map] at *; omega
  · exact ret_false ho fun hP => by have := of_decide_eq_true h; have := (hP.2 k y hy).1; omega
  · exact ret_false ho fun hP => by have := of_decide_eq_true h; have := (hP.2 k y hy).1; omega
  · refine ret_false ho fun hP => (hP.2 k y hy).2 ?_
    have e := of_decide_eq_true h
    have hm := lt_of_dec' (by assumption : decide ((m : Int) < (k : Int)) = true)
    subst e
    exact List.mem_of_getElem? (i := m) (by rw [List.getElem?_take, if_pos hm]; exact hz)
  · have hm := lt_of_dec' (by assumption : decide ((m : Int) < (k : Int)) = true)
    have hkk := get_lt hy
    exact ⟨⟨m + 1, _, step_up (n := ks.length) (by omega) hl, hm, not_take_up hw hz (of_decide_eq_false h), rfl⟩, by have := mu_up (n := k) hm (by omega); exact this⟩
  · have e : m = k := by have := of_decide_eq_false h; omega
    subst e
    exact ⟨⟨m + 1, _, step_up (get_lt hy) hl, get_lt hy, h0, colsP_up hv hy ⟨Int.not_lt.1 (of_decide_eq_false (by assumption)), Int.not_le.1 (of_decide_eq_false (by assumption))⟩ hw, rfl⟩, mu_up (get_lt hy) hl⟩
  · refine ret_true ho ⟨h0, fun j x hj => hv j x ?_ hj⟩
    have e := of_decide_eq_false h
    rw [List.length_map] at e
    have := get_lt hj
    omega
theorem containsTake (ks : List Int) (hl : ks.length ≤ maxLen) (k : Nat) (x : Int) : Ent Try.prog 56 [.d (.sl false (((ks.map i64D).take k).drop 0)), .d (.i .i64 x)] [] (.d (.b (dec (x ∈ ks.take k)))) [] := by
  have e : ((ks.map i64D).take k).drop 0 = (ks.take k).map i64D := by simp [List.map_take]
  rw [e]
  exact containsInts _ (by rw [List.length_take]; omega) x
theorem ones (ks : List Int) : ∀ x, x ∈ ks.map i64D → x.cells.length = 1 := by
  intro x hx
  obtain ⟨n, _, rfl⟩ := List.mem_map.1 hx
  rfl
theorem in_n {y : Int} {n : Nat} (hn : n ≤ maxLen) : inside y 0 (IntKind.i64.wrap ((n : Int) - 1)) = true ↔ 0 ≤ y ∧ y < n := by
  have : maxLen = 9223372036854775807 := rfl
  rw [inside_iff, wrap_i64_id _ (by omega) (by omega)]; omega
set_option maxHeartbeats 1000000 in
theorem implColumns (nm : List UInt8) (cs k2 is : List D) (hc : cs.length ≤ maxLen) (ks : List Int) (hl : ks.length ≤ maxLen) : Ent Try.prog 31 [.d (.agg [.s nm, .sl false cs, .sl false k2, .sl false is]), .d (.sl false (ks.map i64D))] [] (.d (.b (dec (colsP ks cs.length)))) [] := by
  obtain ⟨o, ho⟩ : ∃ o, o = dec (colsP ks cs.length) := ⟨_, rfl⟩
  rw [← ho]
  refine ent_of tok mixed (f := 31) Try.func31 (by kernel_rfl) (keep := false) ?_
  repeat' ((conv => whnf) <;> (first | ((with_reducible refine isCall ?_) <;> (first | (refine ⟨_, within _ _ _, ?_⟩; rintro _ _ ⟨rfl, rfl⟩) | (refine ⟨_, containsTake ks hl k _, ?_⟩; rintro _ _ ⟨rfl, rfl⟩) | refine ⟨_, get_map' hy, ?_⟩ | (obtain ⟨y, hy⟩ := get_ex (ss := ks) (k := k) (lt_of_dec (by assumption)); refine ⟨_, get_map' hy, ?_⟩) | refine ⟨⟨ones ks, by decide⟩, ?_⟩ | refine ⟨⟨Int.natCast_nonneg _, (by have := get_lt hy; rw [List.length_map]; omega)⟩, ?_⟩ | fail)) | ((with_reducible refine isLoop ?_) <;> (first | (refine ⟨[9, 8, 7, 1, 2], [10002], fun s => ∃ (k : Nat) (i : Int), i = k ∧ k ≤ ks.length ∧ (∀ (j : Nat) (x : Int), j < k → ks[j]? = some x → (0 ≤ x ∧ x < cs.length) ∧ x ∉ ks.take j) ∧ s = ⟨[(9, .d (.i .i64 i)), (8, .d (.i .i64 ((ks.map i64D).length : Int))), (7, .d (.sl false (ks.map i64D))), (1, .d (.sl false (ks.map i64D))), (2, .ptr 10002 0)], [(10002, .var [.d (.s nm), .d (.sl false cs), .d (.sl false k2), .d (.sl false is)])]⟩, fun s => match look 9 s.env with | some (.d (.i _ i)) => ks.length - i.toNat | _ => 0, rfl, ⟨0, _, rfl, Nat.zero_le _, (fun j x hj => absurd hj (Nat.not_lt_zero _)), rfl⟩, ?_⟩; rintro s ⟨k, i, rfl, hk, hv, rfl⟩) | refine ⟨_, get_map' hy, ?_⟩ | (obtain ⟨y, hy⟩ := get_ex (ss := ks) (k := k) (lt_of_dec (by assumption)); refine ⟨_, get_map' hy, ?_⟩) | refine ⟨⟨ones ks, by decide⟩, ?_⟩ | refine ⟨⟨Int.natCast_nonneg _, (by have := get_lt hy; rw [List.length_map]; omega)⟩, ?_⟩ | fail)) | ((with_reducible refine isCut ?_) <;> (first | refine ⟨⟨none⟩, ?_⟩)) | ((first | with_reducible refine isEx ?_ | with_reducible refine isAnd ?_ | with_reducible refine isOr ?_) <;> (first | refine ⟨_, get_map' hy, ?_⟩ | (obtain ⟨y, hy⟩ := get_ex (ss := ks) (k := k) (lt_of_dec (by assumption)); refine ⟨_, get_map' hy, ?_⟩) | refine ⟨⟨ones ks, by decide⟩, ?_⟩ | refine ⟨⟨Int.natCast_nonneg _, (by have := get_lt hy; rw [List.length_map]; omega)⟩, ?_⟩ | ((with_reducible refine isSmall ?_) <;> (refine ⟨?_, ?_⟩; kernel_rfl)) | refine ⟨rfl, ?_⟩ | refine ⟨Int.natCast_nonneg _, ?_⟩)) | with_reducible refine Both.mk ?_ ?_ | rintro _ rfl | exact rfl | (split <;> (rename_i h; first | (simp only [beq_self_eq_true, eq_self, decide_true, Bool.not_true, Bool.false_eq_true] at h; done) | (try rw [h])))))
  all_goals (conv => whnf)
  · refine ret_false ho fun hP => ?_
    rw [(in_n hc).2 (hP.2 k y hy).1] at h; cases h
  · exact ret_false ho fun hP => (hP.2 k y hy).2 (of_dec h)
  · exact ⟨⟨k + 1, _, step_up (get_lt hy) hl, get_lt hy, colsP_up hv hy ((in_n hc).1 (not_ok (by assumption))) (of_ndec h), rfl⟩, mu_up (get_lt hy) hl⟩
  · have e : k = ks.length := by have := of_decide_eq_false h; rw [List.length_map] at this; omega
    refine ret_b ho ⟨fun hh => ⟨?_, fun j x hj => hv j x (by rw [e]; exact get_lt hj) hj⟩, fun hP => ?_⟩
    · have := of_decide_eq_true hh; rw [List.length_map] at this; omega
    · have := hP.1; rw [List.length_map]; exact decide_eq_true (by omega)
end Go.Pm.Try
