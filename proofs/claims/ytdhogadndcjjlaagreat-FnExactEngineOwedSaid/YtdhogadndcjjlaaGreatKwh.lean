/-
A part of the proof (packed).
-/
import Derived.Lib.Strings
import Derived.Lib.Slices
import Derived.Lib.Walk
import Derived.Test.YtdhogadndcjjlaaGreatKwg
namespace Go.Pm.Tryz
open Go Go.Proofs
set_option linter.unusedVariables false
set_option linter.unusedSimpArgs false
set_option maxRecDepth 100000
noncomputable def dec (p : Prop) : Bool := @decide p (Classical.propDecidable p)
theorem dec_true {p : Prop} (h : p) : dec p = true := @decide_eq_true p (Classical.propDecidable p) h
theorem dec_false {p : Prop} (h : ¬ p) : dec p = false := @decide_eq_false p (Classical.propDecidable p) h
theorem of_dec {p : Prop} (h : dec p = true) : p := @of_decide_eq_true p (Classical.propDecidable p) h
theorem of_ndec {p : Prop} (h : dec p = false) : ¬ p := @of_decide_eq_false p (Classical.propDecidable p) h
theorem dec_iff {p q : Prop} (h : p ↔ q) : dec p = dec q := by rw [propext h]
theorem ret_false {o : Bool} {P : Prop} {O : List Ob} (ho : o = dec P) (h : ¬ P) : AV.d (D.b false) = AV.d (D.b o) ∧ O = O := by rw [ho, dec_false h]; exact ⟨rfl, rfl⟩
theorem ret_true {o : Bool} {P : Prop} {O : List Ob} (ho : o = dec P) (h : P) : AV.d (D.b true) = AV.d (D.b o) ∧ O = O := by rw [ho, dec_true h]; exact ⟨rfl, rfl⟩
theorem ret_b {o b : Bool} {P : Prop} {O : List Ob} (ho : o = dec P) (h : b = true ↔ P) : AV.d (D.b b) = AV.d (D.b o) ∧ O = O := by
  cases hb : b with
  | true => exact ret_true ho (h.1 hb)
  | false => exact ret_false ho fun hP => by rw [h.2 hP] at hb; cases hb
structure Col where
  name : List UInt8
  kind : Int
  uniq : Bool
structure Idx where
  cols : List Int
  uniq : Bool
structure Schema where
  name : List UInt8
  cols : List Col
  keys : List Int
  idxs : List Idx
def colD (c : Col) : D := .agg [.s c.name, .i .i64 c.kind, .b c.uniq]
def idxD (i : Idx) : D := .agg [.sl false (i.cols.map i64D), .b i.uniq]
def schemaD (s : Schema) : D := .agg [.s s.name, .sl false (s.cols.map colD), .sl false (s.keys.map i64D), .sl false (s.idxs.map idxD)]
theorem not_take_up {ks : List Int} {j : Nat} {x y : Int} (h : x ∉ ks.take j) (hy : ks[j]? = some y) (hne : ¬ y = x) : x ∉ ks.take (j + 1) := by
  rw [take_up hy]
  intro hm
  rcases List.mem_append.1 hm with hm | hm
  · exact h hm
  · exact hne (List.mem_singleton.1 hm).symm
set_option maxHeartbeats 1000000 in
theorem indexInts (ks : List Int) (hl : ks.length ≤ maxLen) (x : Int) : EntQ Tryz.prog 210 [.d (.sl false (ks.map i64D)), .d (.i .i64 x)] [] (fun R O => ∃ n : Int, R = .d (.i .i64 n) ∧ O = [] ∧ decide (n ≥ 0) = dec (x ∈ ks)) := by
  refine ent_of tok mixed (f := 210) Tryz.func210 (by kernel_rfl) (keep := false) ?_
  repeat' ((conv => whnf) <;> (first | ((with_reducible refine isCall ?_) <;> (first | (obtain ⟨y, hy⟩ := get_ex (ss := ks) (k := k) (lt_of_dec (by assumption)); refine ⟨_, get_map' hy, ?_⟩) | fail)) | ((with_reducible refine isLoop ?_) <;> (first | (refine ⟨[8, 7, 0, 1], [], fun s => ∃ (k : Nat) (n : Int), n = k ∧ k ≤ ks.length ∧ x ∉ ks.take k ∧ s = ⟨[(8, .d (.i .i64 n)), (7, .d (.i .i64 ((ks.map i64D).length : Int))), (0, .d (.sl false (ks.map i64D))), (1, .d (.i .i64 x))], []⟩, fun s => match look 8 s.env with | some (.d (.i _ n)) => ks.length - n.toNat | _ => 0, rfl, ⟨0, _, rfl, Nat.zero_le _, (by simp), rfl⟩, ?_⟩; rintro s ⟨k, n, rfl, hk, hv, rfl⟩) | (obtain ⟨y, hy⟩ := get_ex (ss := ks) (k := k) (lt_of_dec (by assumption)); refine ⟨_, get_map' hy, ?_⟩) | fail)) | ((with_reducible refine isCut ?_) <;> (first | refine ⟨⟨none⟩, ?_⟩)) | ((first | with_reducible refine isEx ?_ | with_reducible refine isAnd ?_ | with_reducible refine isOr ?_) <;> (first | (obtain ⟨y, hy⟩ := get_ex (ss := ks) (k := k) (lt_of_dec (by assumption)); refine ⟨_, get_map' hy, ?_⟩) | ((with_reducible refine isSmall ?_) <;> (refine ⟨?_, ?_⟩; kernel_rfl)) | refine ⟨rfl, ?_⟩ | refine ⟨Int.natCast_nonneg _, ?_⟩)) | with_reducible refine Both.mk ?_ ?_ | rintro _ rfl | exact rfl | (split <;> (rename_i h; first | (simp only [beq_self_eq_true, eq_self, decide_true, Bool.not_true, Bool.false_eq_true] at h; done) | (try rw [h])))))
  all_goals (conv => whnf)
  · refine ⟨_, rfl, rfl, ?_⟩
    have e := of_decide_eq_true h
    rw [dec_true (e ▸ get_mem hy)]
    exact decide_eq_true (Int.natCast_nonneg k)
  · exact ⟨⟨k + 1, _, step_up (get_lt hy) hl, get_lt hy, not_take_up hv hy (fun e => of_decide_eq_false h e.symm), rfl⟩, mu_up (get_lt hy) hl⟩
  · refine ⟨_, rfl, rfl, ?_⟩
    have e : k = ks.length := by have := of_decide_eq_false h; rw [List.length_map] at this; omega
    rw [e, List.take_length] at hv
    rw [dec_false hv]; rfl
theorem containsInts (ks : List Int) (hl : ks.length ≤ maxLen) (x : Int) : Ent Tryz.prog 182 [.d (.sl false (ks.map i64D)), .d (.i .i64 x)] [] (.d (.b (dec (x ∈ ks)))) [] := by
  have c1 := indexInts ks hl x
  refine ent_of tok mixed (f := 182) Tryz.func182 (by kernel_rfl) (keep := false) ?_
  repeat' ((conv => whnf) <;> (first | ((with_reducible refine isCall ?_) <;> (first | (refine ⟨_, c1, ?_⟩; rintro _ _ ⟨n, rfl, rfl, hn⟩) | fail)) | ((with_reducible refine isCut ?_) <;> (first | refine ⟨⟨none⟩, ?_⟩)) | ((first | with_reducible refine isEx ?_ | with_reducible refine isAnd ?_ | with_reducible refine isOr ?_) <;> (first | ((with_reducible refine isSmall ?_) <;> (refine ⟨?_, ?_⟩; kernel_rfl)) | refine ⟨rfl, ?_⟩ | refine ⟨Int.natCast_nonneg _, ?_⟩)) | with_reducible refine Both.mk ?_ ?_ | rintro _ rfl | exact rfl | (split <;> (rename_i h; first | (simp only [beq_self_eq_true, eq_self, decide_true, Bool.not_true, Bool.false_eq_true] at h; done) | (try rw [h])))))
  all_goals (conv => whnf)
  all_goals (rw [← hn]; exact ⟨rfl, rfl⟩)
def colsP (ks : List Int) (n : Nat) : Prop := 0 < ks.length ∧ ∀ (k : Nat) (x : Int), ks[k]? = some x → (0 ≤ x ∧ x < n) ∧ x ∉ ks.take k
theorem colsP_up {ks : List Int} {n k : Nat} (h : ∀ (j : Nat) (x : Int), j < k → ks[j]? = some x → (0 ≤ x ∧ x < n) ∧ x ∉ ks.take j) {y : Int} (hy : ks[k]? = some y) (h1 : 0 ≤ y ∧ y < n) (h2 : y ∉ ks.take k) :
    ∀ (j : Nat) (x : Int), j < k + 1 → ks[j]? = some x → (0 ≤ x ∧ x < n) ∧ x ∉ ks.take j := by
  intro j x hj hx
  by_cases e : j = k
  · subst e; rw [hy] at hx; cases hx; exact ⟨h1, h2⟩
  · exact h j x (by omega) hx
set_option maxHeartbeats 1000000 in
theorem specColumns (ks : List Int) (hl : ks.length ≤ maxLen) (n : Nat) : Ent Tryz.prog 141 [.d (.sl false (ks.map i64D)), .d (.i .i64 n)] [] (.d (.b (dec (colsP ks n)))) [] := by
  obtain ⟨o, ho⟩ : ∃ o, o = dec (colsP ks n) := ⟨_, rfl⟩
  rw [← ho]
  refine ent_of tok mixed (f := 141) Tryz.func141 (by kernel_rfl) (keep := false) ?_
  repeat' ((conv => whnf) <;> (first | ((with_reducible refine isCall ?_) <;> (first | refine ⟨_, get_map' hy, ?_⟩ | (obtain ⟨z, hz⟩ := get_ex (ss := ks) (k := m) (by have := get_lt hy; have := lt_of_dec' (by assumption : decide ((m : Int) < (k : Int)) = true); omega); refine ⟨_, get_map' hz, ?_⟩) | (obtain ⟨y, hy⟩ := get_ex (ss := ks) (k := k) (lt_of_dec (by assumption)); refine ⟨_, get_map' hy, ?_⟩) | fail)) | ((with_reducible refine isLoop ?_) <;> (first | (refine ⟨[5, 0, 1], [], fun s => ∃ (k : Nat) (i : Int), i = k ∧ k ≤ ks.length ∧ 0 < ks.length ∧ (∀ (j : Nat) (x : Int), j < k → ks[j]? = some x → (0 ≤ x ∧ x < n) ∧ x ∉ ks.take j) ∧ s = ⟨[(5, .d (.i .i64 i)), (0, .d (.sl false (ks.map i64D))), (1, .d (.i .i64 n))], []⟩, fun s => match look 5 s.env with | some (.d (.i _ i)) => ks.length - i.toNat | _ => 0, rfl, ⟨0, _, rfl, Nat.zero_le _, (by have := of_decide_eq_false (by assumption : decide (((ks.map i64D).length : Int) < 1) = false); rw [List.length_map] at this; omega), (fun j x hj => absurd hj (Nat.not_lt_zero _)), rfl⟩, ?_⟩; rintro s ⟨k, i, rfl, hk, h0, hv, rfl⟩) | (refine ⟨[6, 0, 1, 5], [], fun s => ∃ (m : Nat) (i : Int), i = m ∧ m ≤ k ∧ y ∉ ks.take m ∧ s = ⟨[(6, .d (.i .i64 i)), (0, .d (.sl false (ks.map i64D))), (1, .d (.i .i64 n)), (5, .d (.i .i64 k))], []⟩, fun s => match look 6 s.env with | some (.d (.i _ i)) => k - i.toNat | _ => 0, rfl, ⟨0, _, rfl, Nat.zero_le _, (by simp), rfl⟩, ?_⟩; rintro s ⟨m, i, rfl, hmk, hw, rfl⟩) | refine ⟨_, get_map' hy, ?_⟩ | (obtain ⟨z, hz⟩ := get_ex (ss := ks) (k := m) (by have := get_lt hy; have := lt_of_dec' (by assumption : decide ((m : Int) < (k : Int)) = true); omega); refine ⟨_, get_map' hz, ?_⟩) | (obtain ⟨y, hy⟩ := get_ex (ss := ks) (k := k) (lt_of_dec (by assumption)); refine ⟨_, get_map' hy, ?_⟩) | fail)) | ((with_reducible refine isCut ?_) <;> (first | refine ⟨⟨none⟩, ?_⟩)) | ((first | with_reducible refine isEx ?_ | with_reducible refine isAnd ?_ | with_reducible refine isOr ?_) <;> (first | refine ⟨_, get_map' hy, ?_⟩ | (obtain ⟨z, hz⟩ := get_ex (ss := ks) (k := m) (by have := get_lt hy; have := lt_of_dec' (by assumption : decide ((m : Int) < (k : Int)) = true); omega); refine ⟨_, get_map' hz, ?_⟩) | (obtain ⟨y, hy⟩ := get_ex (ss := ks) (k := k) (lt_of_dec (by assumption)); refine ⟨_, get_map' hy, ?_⟩) | ((with_reducible refine isSmall ?_) <;> (refine ⟨?_, ?_⟩; kernel_rfl)) | refine ⟨rfl, ?_⟩ | refine ⟨Int.natCast_nonneg _, ?_⟩)) | with_reducible refine Both.mk ?_ ?_ | rintro _ rfl | exact rfl | (split <;> (rename_i h; first | (simp only [beq_self_eq_true, eq_self, decide_true, Bool.not_true, Bool.false_eq_true] at h; done) | (try rw [h])))))
  all_goals (conv => whnf)
  · exact ret_false ho fun hP => by have := of_decide_eq_true h; have := hP.1; rw [List.length_map] at *; omega
  · exact ret_false ho fun hP => by have := of_decide_eq_true h; have := (hP.2 k y hy).1; omega
  · exact ret_false ho fun hP => by have := of_decide_eq_true h; have := (hP.2 k y hy).1; omega
  · refine ret_false ho fun hP => (hP.2 k y hy).2 ?_
    have e := of_decide_eq_true h
    have hm := lt_of_dec' (by assumption : decide ((m : Int) < (k : Int)) = true)
    subst e
    exact List.mem_of_getElem? (i := m) (by rw [List.getElem?_take, if_pos hm]; exact hz)
  · have hm := lt_of_dec' (by assumption : decide ((m : Int) < (k : Int)) = true)
    have hkk := get_lt hy
    exact ⟨⟨m + 1, _, step_up (n := ks.length) (by omega) hl, hm, not_take_up hw hz (of_decide_eq_false h), rfl⟩, by have := mu_up (n := k) hm (by omega); exact this⟩
  · have e : m = k := by have := of_decide_eq_false h; omega
    subst e
    exact ⟨⟨m + 1, _, step_up (get_lt hy) hl, get_lt hy, h0, colsP_up hv hy ⟨Int.not_lt.1 (of_decide_eq_false (by assumption)), Int.not_le.1 (of_decide_eq_false (by assumption))⟩ hw, rfl⟩, mu_up (get_lt hy) hl⟩
  · refine ret_true ho ⟨h0, fun j x hj => hv j x ?_ hj⟩
    have e := of_decide_eq_false h
    rw [List.length_map] at e
    have := get_lt hj
    omega
theorem containsTake (ks : List Int) (hl : ks.length ≤ maxLen) (k : Nat) (x : Int) : Ent Tryz.prog 182 [.d (.sl false (((ks.map i64D).take k).drop 0)), .d (.i .i64 x)] [] (.d (.b (dec (x ∈ ks.take k)))) [] := by
  have e : ((ks.map i64D).take k).drop 0 = (ks.take k).map i64D := by simp [List.map_take]
  rw [e]
  exact containsInts _ (by rw [List.length_take]; omega) x
theorem ones (ks : List Int) : ∀ x, x ∈ ks.map i64D → x.cells.length = 1 := by
  intro x hx
  obtain ⟨n, _, rfl⟩ := List.mem_map.1 hx
  rfl
theorem in_n {y : Int} {n : Nat} (hn : n ≤ maxLen) : inside y 0 (IntKind.i64.wrap ((n : Int) - 1)) = true ↔ 0 ≤ y ∧ y < n := by
  have : maxLen = 9223372036854775807 := rfl
  rw [inside_iff, wrap_i64_id _ (by omega) (by omega)]; omega
set_option maxHeartbeats 1000000 in
theorem implColumns (nm : List UInt8) (cs k2 is : List D) (hc : cs.length ≤ maxLen) (ks : List Int) (hl : ks.length ≤ maxLen) : Ent Tryz.prog 149 [.d (.agg [.s nm, .sl false cs, .sl false k2, .sl false is]), .d (.sl false (ks.map i64D))] [] (.d (.b (dec (colsP ks cs.length)))) [] := by
  obtain ⟨o, ho⟩ : ∃ o, o = dec (colsP ks cs.length) := ⟨_, rfl⟩
  rw [← ho]
  refine ent_of tok mixed (f := 149) Tryz.func149 (by kernel_rfl) (keep := false) ?_
  repeat' ((conv => whnf) <;> (first | ((with_reducible refine isCall ?_) <;> (first | (refine ⟨_, within _ _ _, ?_⟩; rintro _ _ ⟨rfl, rfl⟩) | (refine ⟨_, containsTake ks hl k _, ?_⟩; rintro _ _ ⟨rfl, rfl⟩) | refine ⟨_, get_map' hy, ?_⟩ | (obtain ⟨y, hy⟩ := get_ex (ss := ks) (k := k) (lt_of_dec (by assumption)); refine ⟨_, get_map' hy, ?_⟩) | refine ⟨⟨ones ks, by decide⟩, ?_⟩ | refine ⟨⟨Int.natCast_nonneg _, (by have := get_lt hy; rw [List.length_map]; omega)⟩, ?_⟩ | fail)) | ((with_reducible refine isLoop ?_) <;> (first | (refine ⟨[9, 8, 7, 1, 2], [10002], fun s => ∃ (k : Nat) (i : Int), i = k ∧ k ≤ ks.length ∧ (∀ (j : Nat) (x : Int), j < k → ks[j]? = some x → (0 ≤ x ∧ x < cs.length) ∧ x ∉ ks.take j) ∧ s = ⟨[(9, .d (.i .i64 i)), (8, .d (.i .i64 ((ks.map i64D).length : Int))), (7, .d (.sl false (ks.map i64D))), (1, .d (.sl false (ks.map i64D))), (2, .ptr 10002 0)], [(10002, .var [.d (.s nm), .d (.sl false cs), .d (.sl false k2), .d (.sl false is)])]⟩, fun s => match look 9 s.env with | some (.d (.i _ i)) => ks.length - i.toNat | _ => 0, rfl, ⟨0, _, rfl, Nat.zero_le _, (fun j x hj => absurd hj (Nat.not_lt_zero _)), rfl⟩, ?_⟩; rintro s ⟨k, i, rfl, hk, hv, rfl⟩) | refine ⟨_, get_map' hy, ?_⟩ | (obtain ⟨y, hy⟩ := get_ex (ss := ks) (k := k) (lt_of_dec (by assumption)); refine ⟨_, get_map' hy, ?_⟩) | refine ⟨⟨ones ks, by decide⟩, ?_⟩ | refine ⟨⟨Int.natCast_nonneg _, (by have := get_lt hy; rw [List.length_map]; omega)⟩, ?_⟩ | fail)) | ((with_reducible refine isCut ?_) <;> (first | refine ⟨⟨none⟩, ?_⟩)) | ((first | with_reducible refine isEx ?_ | with_reducible refine isAnd ?_ | with_reducible refine isOr ?_) <;> (first | refine ⟨_, get_map' hy, ?_⟩ | (obtain ⟨y, hy⟩ := get_ex (ss := ks) (k := k) (lt_of_dec (by assumption)); refine ⟨_, get_map' hy, ?_⟩) | refine ⟨⟨ones ks, by decide⟩, ?_⟩ | refine ⟨⟨Int.natCast_nonneg _, (by have := get_lt hy; rw [List.length_map]; omega)⟩, ?_⟩ | ((with_reducible refine isSmall ?_) <;> (refine ⟨?_, ?_⟩; kernel_rfl)) | refine ⟨rfl, ?_⟩ | refine ⟨Int.natCast_nonneg _, ?_⟩)) | with_reducible refine Both.mk ?_ ?_ | rintro _ rfl | exact rfl | (split <;> (rename_i h; first | (simp only [beq_self_eq_true, eq_self, decide_true, Bool.not_true, Bool.false_eq_true] at h; done) | (try rw [h])))))
  all_goals (conv => whnf)
  · refine ret_false ho fun hP => ?_
    rw [(in_n hc).2 (hP.2 k y hy).1] at h; cases h
  · exact ret_false ho fun hP => (hP.2 k y hy).2 (of_dec h)
  · exact ⟨⟨k + 1, _, step_up (get_lt hy) hl, get_lt hy, colsP_up hv hy ((in_n hc).1 (not_ok (by assumption))) (of_ndec h), rfl⟩, mu_up (get_lt hy) hl⟩
  · have e : k = ks.length := by have := of_decide_eq_false h; rw [List.length_map] at this; omega
    refine ret_b ho ⟨fun hh => ⟨?_, fun j x hj => hv j x (by rw [e]; exact get_lt hj) hj⟩, fun hP => ?_⟩
    · have := of_decide_eq_true hh; rw [List.length_map] at this; omega
    · have := hP.1; rw [List.length_map]; exact decide_eq_true (by omega)
def idxO (i : Idx) : D := .agg [.os 1 false (i.cols.map i64D), .b i.uniq]
theorem erase_ints : ∀ l : List Int, eraseL (l.map i64D) = l.map i64D
  | [] => rfl
  | x :: l => by simp only [List.map_cons, eraseL, erase_ints l]; rfl
theorem erase_idx : ∀ l : List Idx, eraseL (l.map idxO) = l.map idxD
  | [] => rfl
  | x :: l => by simp only [List.map_cons, eraseL, erase_idx l, idxO, idxD, D.erase, erase_ints]
end Go.Pm.Tryz
namespace Go.Pm.Tryz
open Go Go.Proofs
set_option linter.unusedVariables false
set_option linter.unusedSimpArgs false
set_option maxRecDepth 100000
structure schemaP (s : Schema) : Prop where
  name : nameOk s.name = true
  lo : 1 ≤ s.cols.length
  hi : s.cols.length ≤ 10
  idx : s.idxs.length ≤ 4
  keys : colsP s.keys s.cols.length
  cols : ∀ (k : Nat) (c : Col), s.cols[k]? = some c → nameOk c.name = true ∧ (1 ≤ c.kind ∧ c.kind ≤ 3) ∧ ∀ d, d ∈ s.cols.take k → d.name ≠ c.name
  uniq : ∀ x, x ∈ s.keys → ∀ c, s.cols[x.toNat]? = some c → c.uniq = false
  idxs : ∀ i, i ∈ s.idxs → colsP i.cols s.cols.length
structure Schema.fits (s : Schema) : Prop where
  name : s.name.length ≤ maxLen
  cols : s.cols.length ≤ maxLen
  names : ∀ c, c ∈ s.cols → c.name.length ≤ maxLen
  keys : s.keys.length ≤ maxLen
  idxs : s.idxs.length ≤ maxLen
  lists : ∀ i, i ∈ s.idxs → i.cols.length ≤ maxLen
theorem cols_up {cs : List Col} {k : Nat} {P : Nat → Col → Prop} (h : ∀ (j : Nat) (c : Col), j < k → cs[j]? = some c → P j c) {c : Col} (hc : cs[k]? = some c) (h1 : P k c) : ∀ (j : Nat) (d : Col), j < k + 1 → cs[j]? = some d → P j d := by
  intro j d hj hd
  by_cases e : j = k
  · subst e; rw [hc] at hd; cases hd; exact h1
  · exact h j d (by omega) hd
theorem take_all {α : Type} {xs : List α} {k : Nat} {P : α → Prop} (h : ∀ x, x ∈ xs.take k → P x) {x : α} (hx : xs[k]? = some x) (h1 : P x) : ∀ y, y ∈ xs.take (k + 1) → P y := by
  intro y hy
  rw [take_up hx] at hy
  rcases List.mem_append.1 hy with hy | hy
  · exact h y hy
  · rw [List.mem_singleton.1 hy]; exact h1
theorem take_mem {α : Type} {xs : List α} {m k : Nat} {d : α} (h : xs[m]? = some d) (hm : m < k) : d ∈ xs.take k := List.mem_of_getElem? (i := m) (by rw [List.getElem?_take, if_pos hm]; exact h)
def schC (s : Schema) : List AV := [.d (.s s.name), .d (.sl false (s.cols.map colD)), .d (.sl false (s.keys.map i64D)), .d (.sl false (s.idxs.map idxD))]
set_option maxHeartbeats 4000000 in
theorem specSchemaRight (s : Schema) (hs : s.fits) : Ent Tryz.prog 99 [.d (schemaD s)] [] (.d (.b (dec (schemaP s)))) [] := by
  obtain ⟨o, ho⟩ : ∃ o, o = dec (schemaP s) := ⟨_, rfl⟩
  rw [← ho]
  have c1 := specNameRight s.name hs.name
  have c2 := specColumns s.keys hs.keys s.cols.length
  have hcl : (s.cols.map colD).length = s.cols.length := List.length_map ..
  have hil : (s.idxs.map idxD).length = s.idxs.length := List.length_map ..
  have hkl : (s.keys.map i64D).length = s.keys.length := List.length_map ..
  rw [← hcl] at c2
  refine ent_of tok mixed (f := 99) Tryz.func99 (by kernel_rfl) (keep := false) ?_
  repeat' ((conv => whnf) <;> (first | ((with_reducible refine isCall ?_) <;> (first | (refine ⟨_, c1, ?_⟩; rintro _ _ ⟨rfl, rfl⟩) | (refine ⟨_, c2, ?_⟩; rintro _ _ ⟨rfl, rfl⟩) | (refine ⟨_, c3, ?_⟩; rintro _ _ ⟨rfl, rfl⟩) | (refine ⟨_, c4, ?_⟩; rintro _ _ ⟨rfl, rfl⟩) | refine ⟨_, get_map' hc, ?_⟩ | refine ⟨_, get_map' hd, ?_⟩ | refine ⟨_, get_map' hy, ?_⟩ | refine ⟨_, get_map' hi, ?_⟩ | refine ⟨hyr.1, ?_⟩ | fail)) | ((with_reducible refine isLoop ?_) <;> (first | (refine ⟨[4, 3, 1], [10001], fun st => ∃ (k : Nat) (i : Int), i = k ∧ k ≤ s.cols.length ∧ (nameOk s.name = true ∧ 1 ≤ s.cols.length ∧ s.cols.length ≤ 10 ∧ s.idxs.length ≤ 4 ∧ colsP s.keys s.cols.length) ∧ (∀ (j : Nat) (c : Col), j < k → s.cols[j]? = some c → nameOk c.name = true ∧ (1 ≤ c.kind ∧ c.kind ≤ 3) ∧ ∀ d, d ∈ s.cols.take j → d.name ≠ c.name) ∧ st = ⟨[(4, .d (.i .i64 i)), (3, .d (.i .i64 ((s.cols.map colD).length : Int))), (1, .ptr 10001 0)], [(10001, .var (schC s))]⟩, fun st => match look 4 st.env with | some (.d (.i _ i)) => s.cols.length - i.toNat | _ => 0, rfl, ⟨0, _, rfl, Nat.zero_le _, ?_, (fun j c hj => absurd hj (Nat.not_lt_zero _)), rfl⟩, ?_⟩; rotate_left; rintro st ⟨k, i, rfl, hk, hP0, hv, rfl⟩) | (refine ⟨[7, 3, 1], [10001], fun st => ∃ (k : Nat) (i : Int), i = k ∧ k ≤ s.keys.length ∧ (∀ x, x ∈ s.keys.take k → ∀ c, s.cols[x.toNat]? = some c → c.uniq = false) ∧ st = ⟨[(7, .d (.i .i64 i)), (3, .d (.i .i64 ((s.cols.map colD).length : Int))), (1, .ptr 10001 0)], [(10001, .var (schC s))]⟩, fun st => match look 7 st.env with | some (.d (.i _ i)) => s.keys.length - i.toNat | _ => 0, rfl, ⟨0, _, rfl, Nat.zero_le _, (fun x hx => by simp at hx), rfl⟩, ?_⟩; rintro st ⟨k2, i, rfl, hk2, hv2, rfl⟩) | (refine ⟨[8, 3, 1], [10001], fun st => ∃ (k : Nat) (i : Int), i = k ∧ k ≤ s.idxs.length ∧ (∀ x, x ∈ s.idxs.take k → colsP x.cols s.cols.length) ∧ st = ⟨[(8, .d (.i .i64 i)), (3, .d (.i .i64 ((s.cols.map colD).length : Int))), (1, .ptr 10001 0)], [(10001, .var (schC s))]⟩, fun st => match look 8 st.env with | some (.d (.i _ i)) => s.idxs.length - i.toNat | _ => 0, rfl, ⟨0, _, rfl, Nat.zero_le _, (fun x hx => by simp at hx), rfl⟩, ?_⟩; rintro st ⟨k3, i, rfl, hk3, hv3, rfl⟩) | (refine ⟨[6, 3, 1, 4, 5], [10001, 10005], fun st => ∃ (m : Nat) (i : Int), i = m ∧ m ≤ k ∧ nameOk c.name = true ∧ (1 ≤ c.kind ∧ c.kind ≤ 3) ∧ (∀ d, d ∈ s.cols.take m → d.name ≠ c.name) ∧ st = ⟨[(6, .d (.i .i64 i)), (3, .d (.i .i64 ((s.cols.map colD).length : Int))), (1, .ptr 10001 0), (4, .d (.i .i64 k)), (5, .ptr 10005 0)], [(10001, .var (schC s)), (10005, .var (AV.d (colD c)).cells)]⟩, fun st => match look 6 st.env with | some (.d (.i _ i)) => k - i.toNat | _ => 0, rfl, ⟨0, _, rfl, Nat.zero_le _, not_ok (by assumption), ⟨Int.not_lt.1 (of_decide_eq_false (by assumption)), Int.not_lt.1 (of_decide_eq_false (by assumption))⟩, (fun x hx => by simp at hx), rfl⟩, ?_⟩; rintro st ⟨m, i, rfl, hmk, hq1, hq2, hw, rfl⟩) | refine ⟨_, get_map' hc, ?_⟩ | refine ⟨_, get_map' hd, ?_⟩ | refine ⟨_, get_map' hy, ?_⟩ | refine ⟨_, get_map' hi, ?_⟩ | refine ⟨hyr.1, ?_⟩ | fail)) | ((with_reducible refine isCut ?_) <;> (first | refine ⟨⟨none⟩, ?_⟩)) | ((first | with_reducible refine isEx ?_ | with_reducible refine isAnd ?_ | with_reducible refine isOr ?_) <;> (first | refine ⟨_, get_map' hc, ?_⟩ | refine ⟨_, get_map' hd, ?_⟩ | refine ⟨_, get_map' hy, ?_⟩ | refine ⟨_, get_map' hi, ?_⟩ | ((with_reducible refine isGet (xs := s.cols.map colD) (i := ((m : Nat) : Int).toNat) ?_); obtain ⟨d, hd⟩ := get_ex (ss := s.cols) (k := m) (by have := get_lt hc; have := lt_of_dec' (by assumption : decide ((m : Int) < (k : Int)) = true); omega); refine ⟨_, get_map' hd, ?_⟩) | ((with_reducible refine isGet (xs := s.keys.map i64D) (i := ((k2 : Nat) : Int).toNat) ?_); obtain ⟨y, hy⟩ := get_ex (ss := s.keys) (k := k2) (lt_of_dec (by assumption)); have hyr := (hP0.2.2.2.2.2 k2 y hy).1; obtain ⟨c, hc⟩ := get_ex (ss := s.cols) (k := y.toNat) (by omega); refine ⟨_, get_map' hy, ?_⟩) | ((with_reducible refine isGet (xs := s.idxs.map idxD) (i := ((k3 : Nat) : Int).toNat) ?_); obtain ⟨i, hi⟩ := get_ex (ss := s.idxs) (k := k3) (lt_of_dec (by assumption)); have c4 := specColumns i.cols (hs.lists i (get_mem hi)) s.cols.length; rw [← hcl] at c4; refine ⟨_, get_map' hi, ?_⟩) | ((with_reducible refine isGet (xs := s.cols.map colD) (i := ((k : Nat) : Int).toNat) ?_); obtain ⟨c, hc⟩ := get_ex (ss := s.cols) (k := k) (lt_of_dec (by assumption)); have c3 := specNameRight c.name (hs.names c (get_mem hc)); refine ⟨_, get_map' hc, ?_⟩) | refine ⟨hyr.1, ?_⟩ | ((with_reducible refine isSmall ?_) <;> (refine ⟨?_, ?_⟩; kernel_rfl)) | refine ⟨rfl, ?_⟩ | refine ⟨Int.natCast_nonneg _, ?_⟩)) | with_reducible refine Both.mk ?_ ?_ | rintro _ rfl | exact rfl | (split <;> (rename_i h; first | (simp only [beq_self_eq_true, eq_self, decide_true, Bool.not_true, Bool.false_eq_true] at h; done) | (try rw [h])))))
  all_goals (conv => whnf)
  all_goals first
    | exact ret_false ho fun hP => by have := not_ok' h; rw [hP.name] at this; cases this
    | exact ret_false ho fun hP => by have := of_decide_eq_true h; have := hP.lo; have := hP.hi; have := hP.idx; omega
    | exact ret_false ho fun hP => by have := of_ndec (not_ok' h); rw [hcl] at this; exact this hP.keys
    | exact ret_false ho fun hP => by have := not_ok' h; rw [(hP.cols k c hc).1] at this; cases this
    | exact ret_false ho fun hP => by have := of_decide_eq_true h; have := (hP.cols k c hc).2.1; omega
    | exact ret_false ho fun hP => (hP.cols k c hc).2.2 d (take_mem hd (lt_of_dec' (by assumption))) (of_decide_eq_true h)
    | exact ret_false ho fun hP => by rw [hP.uniq y (get_mem hy) c hc] at h; cases h
    | exact ret_false ho fun hP => by have := of_ndec (not_ok' h); rw [hcl] at this; exact this (hP.idxs i (get_mem hi))
    | (have hm := lt_of_dec' (by assumption : decide ((m : Int) < (k : Int)) = true)
       exact ⟨⟨m + 1, _, step_up (n := s.cols.length) (by have := get_lt hc; omega) hs.cols, hm, hq1, hq2, take_all hw hd (of_decide_eq_false h), rfl⟩, by have := hs.cols; have := get_lt hc; exact mu_up (n := k) hm (by omega)⟩)
    | (have e : m = k := by have := of_decide_eq_false h; omega
       subst e
       exact ⟨⟨m + 1, _, step_up (get_lt hc) hs.cols, get_lt hc, hP0, cols_up hv hc ⟨hq1, hq2, hw⟩, rfl⟩, mu_up (get_lt hc) hs.cols⟩)
    | exact ⟨⟨k2 + 1, _, step_up (get_lt hy) hs.keys, get_lt hy, take_all hv2 hy (fun c' hc' => by rw [hc] at hc'; cases hc'; exact h), rfl⟩, mu_up (get_lt hy) hs.keys⟩
    | exact ⟨⟨k3 + 1, _, step_up (get_lt hi) hs.idxs, get_lt hi, take_all hv3 hi (by have := of_dec (not_ok h); rw [hcl] at this; exact this), rfl⟩, mu_up (get_lt hi) hs.idxs⟩
    | (have e : k = s.cols.length := by have := of_decide_eq_false (by assumption : decide ((k : Int) < ((s.cols.map colD).length : Int)) = false); omega
       have e2 : k2 = s.keys.length := by have := of_decide_eq_false (by assumption : decide ((k2 : Int) < ((s.keys.map i64D).length : Int)) = false); omega
       have e3 : k3 = s.idxs.length := by have := of_decide_eq_false (by assumption : decide ((k3 : Int) < ((s.idxs.map idxD).length : Int)) = false); omega
       rw [e2, List.take_length] at hv2
       rw [e3, List.take_length] at hv3
       exact ret_true ho ⟨hP0.1, hP0.2.1, hP0.2.2.1, hP0.2.2.2.1, hP0.2.2.2.2, fun j c hj => hv j c (by rw [e]; exact get_lt hj) hj, hv2, hv3⟩)
    | (refine ⟨not_ok (by assumption), ?_, ?_, ?_, ?_⟩
       · have := of_decide_eq_false (by assumption : decide (((s.cols.map colD).length : Int) < 1) = false); omega
       · have := of_decide_eq_false (by assumption : decide (((s.cols.map colD).length : Int) > 10) = false); omega
       · have := of_decide_eq_false (by assumption : decide (((s.idxs.map idxD).length : Int) > 4) = false); omega
       · have := of_dec (not_ok (by assumption : (!dec (colsP s.keys (s.cols.map colD).length)) = false)); rw [hcl] at this; exact this)
    | trace_state
end Go.Pm.Tryz
namespace Go.Pm.Tryz
open Go Go.Proofs
set_option linter.unusedVariables false
set_option linter.unusedSimpArgs false
set_option maxRecDepth 100000
theorem colSame (c : Col) (nm : List UInt8) : Ent Tryz.prog 184 [.d (colD c), .ptr 0 0] [.var [.d (.s nm)]] (.d (.b (decide (c.name = nm)))) [.var [.d (.s nm)]] := by
  refine ent_of tok mixed (f := 184) Tryz.func184 (by kernel_rfl) (keep := false) ?_
  repeat' ((conv => whnf) <;> (first | ((with_reducible refine isCall ?_) <;> (first | fail)) | ((with_reducible refine isCut ?_) <;> (first | refine ⟨⟨none⟩, ?_⟩)) | ((first | with_reducible refine isEx ?_ | with_reducible refine isAnd ?_ | with_reducible refine isOr ?_) <;> (first | ((with_reducible refine isSmall ?_) <;> (refine ⟨?_, ?_⟩; kernel_rfl)) | refine ⟨rfl, ?_⟩ | refine ⟨Int.natCast_nonneg _, ?_⟩)) | with_reducible refine Both.mk ?_ ?_ | rintro _ rfl | exact rfl | (split <;> (rename_i h; first | (simp only [beq_self_eq_true, eq_self, decide_true, Bool.not_true, Bool.false_eq_true] at h; done) | (try rw [h])))))
theorem any_no {α : Type} {p : α → Prop} {xs : List α} {k : Nat} {x : α} (h : ∀ y, y ∈ xs.take k → ¬ p y) (hx : xs[k]? = some x) (h1 : ¬ p x) : ∀ y, y ∈ xs.take (k + 1) → ¬ p y := take_all h hx h1
set_option maxHeartbeats 1000000 in
theorem indexCols (cs : List Col) (hl : cs.length ≤ maxLen) (nm : List UInt8) : EntQ Tryz.prog 183 [.d (.sl false (cs.map colD)), .fn 184 [.ptr 0 0]] [.var [.d (.s nm)]]
    (fun R O => ∃ n : Int, R = .d (.i .i64 n) ∧ O = [.var [.d (.s nm)]] ∧ decide (n ≥ 0) = dec (∃ c, c ∈ cs ∧ c.name = nm)) := by
  have c1 := fun c => colSame c nm
  refine ent_of tok mixed (f := 183) Tryz.func183 (by kernel_rfl) (keep := false) ?_
  repeat' ((conv => whnf) <;> (first | ((with_reducible refine isCall ?_) <;> (first | (refine ⟨_, c1 _, ?_⟩; rintro _ _ ⟨rfl, rfl⟩) | fail)) | ((with_reducible refine isLoop ?_) <;> (first | (refine ⟨[8, 7, 0, 1], [0], fun s => ∃ (k : Nat) (n : Int), n = k ∧ k ≤ cs.length ∧ (∀ c, c ∈ cs.take k → ¬ c.name = nm) ∧ s = ⟨[(8, .d (.i .i64 n)), (7, .d (.i .i64 ((cs.map colD).length : Int))), (0, .d (.sl false (cs.map colD))), (1, .fn 184 [.ptr 0 0])], [(0, .var [.d (.s nm)])]⟩, fun s => match look 8 s.env with | some (.d (.i _ n)) => cs.length - n.toNat | _ => 0, rfl, ⟨0, _, rfl, Nat.zero_le _, (fun x hx => by simp at hx), rfl⟩, ?_⟩; rintro s ⟨k, n, rfl, hk, hv, rfl⟩) | fail)) | ((with_reducible refine isCut ?_) <;> (first | refine ⟨⟨none⟩, ?_⟩)) | ((first | with_reducible refine isEx ?_ | with_reducible refine isAnd ?_ | with_reducible refine isOr ?_) <;> (first | ((with_reducible refine isGet (xs := cs.map colD) (i := ((k : Nat) : Int).toNat) ?_); obtain ⟨c, hc⟩ := get_ex (ss := cs) (k := k) (lt_of_dec (by assumption)); refine ⟨_, get_map' hc, ?_⟩) | ((with_reducible refine isSmall ?_) <;> (refine ⟨?_, ?_⟩; kernel_rfl)) | refine ⟨rfl, ?_⟩ | refine ⟨Int.natCast_nonneg _, ?_⟩)) | with_reducible refine Both.mk ?_ ?_ | rintro _ rfl | exact rfl | (split <;> (rename_i h; first | (simp only [beq_self_eq_true, eq_self, decide_true, Bool.not_true, Bool.false_eq_true] at h; done) | (try rw [h])))))
  all_goals (conv => whnf)
  · refine ⟨_, rfl, rfl, ?_⟩
    rw [dec_true ⟨c, get_mem hc, of_decide_eq_true h⟩]
    exact decide_eq_true (Int.natCast_nonneg k)
  · exact ⟨⟨k + 1, _, step_up (get_lt hc) hl, get_lt hc, any_no hv hc (of_decide_eq_false h), rfl⟩, mu_up (get_lt hc) hl⟩
  · refine ⟨_, rfl, rfl, ?_⟩
    have e : k = cs.length := by have := of_decide_eq_false h; rw [List.length_map] at this; omega
    rw [e, List.take_length] at hv
    rw [dec_false fun ⟨c, h1, h2⟩ => hv c h1 h2]; rfl
theorem columnOf (nm0 : List UInt8) (cs : List Col) (hl : cs.length ≤ maxLen) (k : Nat) (ys zs : List D) (nm : List UInt8) : EntQ Tryz.prog 150 [.d (.agg [.s nm0, .sl false (((cs.map colD).take k).drop 0), .sl false ys, .sl false zs]), .d (.s nm)] []
    (fun R O => ∃ n : Int, R = .d (.i .i64 n) ∧ O = [] ∧ decide (n ≥ 0) = dec (∃ c, c ∈ cs.take k ∧ c.name = nm)) := by
  have e : ((cs.map colD).take k).drop 0 = (cs.take k).map colD := by simp [List.map_take]
  rw [e]
  have c1 := indexCols (cs.take k) (by rw [List.length_take]; omega) nm
  refine ent_of tok mixed (f := 150) Tryz.func150 (by kernel_rfl) (keep := false) ?_
  repeat' ((conv => whnf) <;> (first | ((with_reducible refine isCall ?_) <;> (first | (refine ⟨_, c1, ?_⟩; rintro _ _ ⟨n, rfl, rfl, hn⟩) | fail)) | ((with_reducible refine isCut ?_) <;> (first | refine ⟨⟨none⟩, ?_⟩)) | ((first | with_reducible refine isEx ?_ | with_reducible refine isAnd ?_ | with_reducible refine isOr ?_) <;> (first | ((with_reducible refine isSmall ?_) <;> (refine ⟨?_, ?_⟩; kernel_rfl)) | refine ⟨rfl, ?_⟩ | refine ⟨Int.natCast_nonneg _, ?_⟩)) | with_reducible refine Both.mk ?_ ?_ | rintro _ rfl | exact rfl | (split <;> (rename_i h; first | (simp only [beq_self_eq_true, eq_self, decide_true, Bool.not_true, Bool.false_eq_true] at h; done) | (try rw [h])))))
  all_goals (conv => whnf)
  all_goals exact ⟨_, rfl, rfl, hn⟩
theorem idxBad (i : Idx) (hi : i.cols.length ≤ maxLen) (s : Schema) (hs : s.cols.length ≤ maxLen) : Ent Tryz.prog 152 [.d (idxD i), .ptr 0 0] [.var (schC s)] (.d (.b (!dec (colsP i.cols (s.cols.map colD).length)))) [.var (schC s)] := by
  have c1 := implColumns s.name (s.cols.map colD) (s.keys.map i64D) (s.idxs.map idxD) (by rw [List.length_map]; exact hs) i.cols hi
  generalize dec (colsP i.cols (s.cols.map colD).length) = u at *
  refine ent_of tok mixed (f := 152) Tryz.func152 (by kernel_rfl) (keep := false) ?_
  repeat' ((conv => whnf) <;> (first | ((with_reducible refine isCall ?_) <;> (first | (refine ⟨_, c1, ?_⟩; rintro _ _ ⟨rfl, rfl⟩) | fail)) | ((with_reducible refine isCut ?_) <;> (first | refine ⟨⟨none⟩, ?_⟩)) | ((first | with_reducible refine isEx ?_ | with_reducible refine isAnd ?_ | with_reducible refine isOr ?_) <;> (first | ((with_reducible refine isSmall ?_) <;> (refine ⟨?_, ?_⟩; kernel_rfl)) | refine ⟨rfl, ?_⟩ | refine ⟨Int.natCast_nonneg _, ?_⟩)) | with_reducible refine Both.mk ?_ ?_ | rintro _ rfl | exact rfl | (split <;> (rename_i h; first | (simp only [beq_self_eq_true, eq_self, decide_true, Bool.not_true, Bool.false_eq_true] at h; done) | (try rw [h])))))
set_option maxHeartbeats 1000000 in
theorem indexIdx (s : Schema) (hs : s.fits) : EntQ Tryz.prog 185 [.d (.sl false (s.idxs.map idxD)), .fn 152 [.ptr 0 0]] [.var (schC s)]
    (fun R O => ∃ n : Int, R = .d (.i .i64 n) ∧ O = [.var (schC s)] ∧ decide (n ≥ 0) = dec (∃ i, i ∈ s.idxs ∧ ¬ colsP i.cols (s.cols.map colD).length)) := by
  have hl := hs.idxs
  refine ent_of tok mixed (f := 185) Tryz.func185 (by kernel_rfl) (keep := false) ?_
  repeat' ((conv => whnf) <;> (first | ((with_reducible refine isCall ?_) <;> (first | (refine ⟨_, c1, ?_⟩; rintro _ _ ⟨rfl, rfl⟩) | fail)) | ((with_reducible refine isLoop ?_) <;> (first | (refine ⟨[8, 7, 0, 1], [0], fun st => ∃ (k : Nat) (n : Int), n = k ∧ k ≤ s.idxs.length ∧ (∀ i, i ∈ s.idxs.take k → ¬ ¬ colsP i.cols (s.cols.map colD).length) ∧ st = ⟨[(8, .d (.i .i64 n)), (7, .d (.i .i64 ((s.idxs.map idxD).length : Int))), (0, .d (.sl false (s.idxs.map idxD))), (1, .fn 152 [.ptr 0 0])], [(0, .var (schC s))]⟩, fun st => match look 8 st.env with | some (.d (.i _ n)) => s.idxs.length - n.toNat | _ => 0, rfl, ⟨0, _, rfl, Nat.zero_le _, (fun x hx => by simp at hx), rfl⟩, ?_⟩; rintro st ⟨k, n, rfl, hk, hv, rfl⟩) | fail)) | ((with_reducible refine isCut ?_) <;> (first | refine ⟨⟨none⟩, ?_⟩)) | ((first | with_reducible refine isEx ?_ | with_reducible refine isAnd ?_ | with_reducible refine isOr ?_) <;> (first | ((with_reducible refine isGet (xs := s.idxs.map idxD) (i := ((k : Nat) : Int).toNat) ?_); obtain ⟨i, hi⟩ := get_ex (ss := s.idxs) (k := k) (lt_of_dec (by assumption)); have c1 := idxBad i (hs.lists i (get_mem hi)) s hs.cols; refine ⟨_, get_map' hi, ?_⟩) | ((with_reducible refine isSmall ?_) <;> (refine ⟨?_, ?_⟩; kernel_rfl)) | refine ⟨rfl, ?_⟩ | refine ⟨Int.natCast_nonneg _, ?_⟩)) | with_reducible refine Both.mk ?_ ?_ | rintro _ rfl | exact rfl | (split <;> (rename_i h; first | (simp only [beq_self_eq_true, eq_self, decide_true, Bool.not_true, Bool.false_eq_true] at h; done) | (try rw [h])))))
  all_goals (conv => whnf)
  · refine ⟨_, rfl, rfl, ?_⟩
    rw [dec_true ⟨i, get_mem hi, of_ndec (not_ok' h)⟩]
    exact decide_eq_true (Int.natCast_nonneg k)
  · exact ⟨⟨k + 1, _, step_up (get_lt hi) hl, get_lt hi, any_no hv hi (fun hn => hn (of_dec (not_ok h))), rfl⟩, mu_up (get_lt hi) hl⟩
  · refine ⟨_, rfl, rfl, ?_⟩
    have e : k = s.idxs.length := by have := of_decide_eq_false h; rw [List.length_map] at this; omega
    rw [e, List.take_length] at hv
    rw [dec_false fun ⟨c, h1, h2⟩ => hv c h1 h2]; rfl
theorem containsIdx (s : Schema) (hs : s.fits) : Ent Tryz.prog 151 [.d (.sl false (s.idxs.map idxD)), .fn 152 [.ptr 0 0]] [.var (schC s)]
    (.d (.b (dec (∃ i, i ∈ s.idxs ∧ ¬ colsP i.cols (s.cols.map colD).length)))) [.var (schC s)] := by
  have c1 := indexIdx s hs
  refine ent_of tok mixed (f := 151) Tryz.func151 (by kernel_rfl) (keep := false) ?_
  repeat' ((conv => whnf) <;> (first | ((with_reducible refine isCall ?_) <;> (first | (refine ⟨_, c1, ?_⟩; rintro _ _ ⟨n, rfl, rfl, hn⟩) | fail)) | ((with_reducible refine isCut ?_) <;> (first | refine ⟨⟨none⟩, ?_⟩)) | ((first | with_reducible refine isEx ?_ | with_reducible refine isAnd ?_ | with_reducible refine isOr ?_) <;> (first | ((with_reducible refine isSmall ?_) <;> (refine ⟨?_, ?_⟩; kernel_rfl)) | refine ⟨rfl, ?_⟩ | refine ⟨Int.natCast_nonneg _, ?_⟩)) | with_reducible refine Both.mk ?_ ?_ | rintro _ rfl | exact rfl | (split <;> (rename_i h; first | (simp only [beq_self_eq_true, eq_self, decide_true, Bool.not_true, Bool.false_eq_true] at h; done) | (try rw [h])))))
  all_goals (conv => whnf)
  all_goals (rw [← hn]; exact ⟨rfl, rfl⟩)
end Go.Pm.Tryz
namespace Go.Pm.Tryz
open Go Go.Proofs
set_option linter.unusedVariables false
set_option linter.unusedSimpArgs false
set_option maxRecDepth 100000
theorem threes (cs : List Col) : ∀ x, x ∈ cs.map colD → x.cells.length = 3 := by
  intro x hx
  obtain ⟨n, _, rfl⟩ := List.mem_map.1 hx
  rfl
set_option maxHeartbeats 4000000 in
theorem implSchemaRight (s : Schema) (hs : s.fits) : Ent Tryz.prog 118 [.d (schemaD s)] [] (.d (.b (dec (schemaP s)))) [] := by
  obtain ⟨o, ho⟩ : ∃ o, o = dec (schemaP s) := ⟨_, rfl⟩
  rw [← ho]
  have hcl : (s.cols.map colD).length = s.cols.length := List.length_map ..
  have hil : (s.idxs.map idxD).length = s.idxs.length := List.length_map ..
  have hkl : (s.keys.map i64D).length = s.keys.length := List.length_map ..
  have c1 := implNameRight s.name hs.name
  have c2 := implColumns s.name (s.cols.map colD) (s.keys.map i64D) (s.idxs.map idxD) (by rw [hcl]; exact hs.cols) s.keys hs.keys
  have c5 := containsIdx s hs
  refine ent_of tok mixed (f := 118) Tryz.func118 (by kernel_rfl) (keep := false) ?_
  repeat' ((conv => whnf) <;> (first | ((with_reducible refine isCall ?_) <;> (first | (refine ⟨_, c1, ?_⟩; rintro _ _ ⟨rfl, rfl⟩) | (refine ⟨_, c2, ?_⟩; rintro _ _ ⟨rfl, rfl⟩) | (refine ⟨_, c5, ?_⟩; rintro _ _ ⟨rfl, rfl⟩) | (refine ⟨_, c3, ?_⟩; rintro _ _ ⟨rfl, rfl⟩) | (refine ⟨_, c6, ?_⟩; rintro _ _ ⟨rfl, rfl⟩) | (refine ⟨_, c4, ?_⟩; rintro _ _ ⟨n, rfl, rfl, hn⟩) | (refine ⟨_, within _ _ _, ?_⟩; rintro _ _ ⟨rfl, rfl⟩) | refine ⟨_, get_map' hc, ?_⟩ | refine ⟨_, get_map' hy, ?_⟩ | refine ⟨⟨threes _, by decide⟩, ?_⟩ | refine ⟨⟨Int.natCast_nonneg _, (by have := get_lt hc; rw [List.length_map]; omega)⟩, ?_⟩ | refine ⟨hyr.1, ?_⟩ | fail)) | ((with_reducible refine isLoop ?_) <;> (first | (refine ⟨[34, 33, 32, 1], [10001], fun st => ∃ (k : Nat) (i : Int), i = k ∧ k ≤ s.cols.length ∧ (nameOk s.name = true ∧ 1 ≤ s.cols.length ∧ s.cols.length ≤ 10 ∧ s.idxs.length ≤ 4 ∧ colsP s.keys s.cols.length) ∧ (∀ (j : Nat) (c : Col), j < k → s.cols[j]? = some c → nameOk c.name = true ∧ (1 ≤ c.kind ∧ c.kind ≤ 3) ∧ ∀ d, d ∈ s.cols.take j → d.name ≠ c.name) ∧ st = ⟨[(34, .d (.i .i64 i)), (33, .d (.i .i64 ((s.cols.map colD).length : Int))), (32, .d (.sl false (s.cols.map colD))), (1, .ptr 10001 0)], [(10001, .var (schC s))]⟩, fun st => match look 34 st.env with | some (.d (.i _ i)) => s.cols.length - i.toNat | _ => 0, rfl, ⟨0, _, rfl, Nat.zero_le _, ?_, (fun j c hj => absurd hj (Nat.not_lt_zero _)), rfl⟩, ?_⟩; rotate_left; rintro st ⟨k, i, rfl, hk, hP0, hv, rfl⟩) | (refine ⟨[64, 63, 62, 1], [10001], fun st => ∃ (k : Nat) (i : Int), i = k ∧ k ≤ s.keys.length ∧ (∀ x, x ∈ s.keys.take k → ∀ c, s.cols[x.toNat]? = some c → c.uniq = false) ∧ st = ⟨[(64, .d (.i .i64 i)), (63, .d (.i .i64 ((s.keys.map i64D).length : Int))), (62, .d (.sl false (s.keys.map i64D))), (1, .ptr 10001 0)], [(10001, .var (schC s))]⟩, fun st => match look 64 st.env with | some (.d (.i _ i)) => s.keys.length - i.toNat | _ => 0, rfl, ⟨0, _, rfl, Nat.zero_le _, (fun x hx => by simp at hx), rfl⟩, ?_⟩; rintro st ⟨k2, i, rfl, hk2, hv2, rfl⟩) | refine ⟨_, get_map' hc, ?_⟩ | refine ⟨_, get_map' hy, ?_⟩ | refine ⟨⟨threes _, by decide⟩, ?_⟩ | refine ⟨⟨Int.natCast_nonneg _, (by have := get_lt hc; rw [List.length_map]; omega)⟩, ?_⟩ | refine ⟨hyr.1, ?_⟩ | fail)) | ((with_reducible refine isCut ?_) <;> (first | refine ⟨⟨none⟩, ?_⟩)) | ((first | with_reducible refine isEx ?_ | with_reducible refine isAnd ?_ | with_reducible refine isOr ?_) <;> (first | refine ⟨_, get_map' hc, ?_⟩ | refine ⟨_, get_map' hy, ?_⟩ | ((with_reducible refine isGet (xs := s.keys.map i64D) (i := ((k2 : Nat) : Int).toNat) ?_); obtain ⟨y, hy⟩ := get_ex (ss := s.keys) (k := k2) (lt_of_dec (by assumption)); have hyr := (hP0.2.2.2.2.2 k2 y hy).1; obtain ⟨c, hc⟩ := get_ex (ss := s.cols) (k := y.toNat) (by omega); refine ⟨_, get_map' hy, ?_⟩) | ((with_reducible refine isGet (xs := s.cols.map colD) (i := ((k : Nat) : Int).toNat) ?_); obtain ⟨c, hc⟩ := get_ex (ss := s.cols) (k := k) (lt_of_dec (by assumption)); have c3 := implNameRight c.name (hs.names c (get_mem hc)); have c4 := columnOf [] s.cols hs.cols k [] [] c.name; have c6 := within c.kind 1 3; obtain ⟨u3, hu3⟩ : ∃ u, u = nameOk c.name := ⟨_, rfl⟩; obtain ⟨u6, hu6⟩ : ∃ u, u = inside c.kind 1 3 := ⟨_, rfl⟩; rw [← hu3] at c3; rw [← hu6] at c6; cases u3 <;> cases u6 <;> refine ⟨_, get_map' hc, ?_⟩) | refine ⟨⟨threes _, by decide⟩, ?_⟩ | refine ⟨⟨Int.natCast_nonneg _, (by have := get_lt hc; rw [List.length_map]; omega)⟩, ?_⟩ | refine ⟨hyr.1, ?_⟩ | ((with_reducible refine isSmall ?_) <;> (refine ⟨?_, ?_⟩; kernel_rfl)) | refine ⟨rfl, ?_⟩ | refine ⟨Int.natCast_nonneg _, ?_⟩)) | with_reducible refine Both.mk ?_ ?_ | rintro _ rfl | exact rfl | (split <;> (rename_i h; first | (simp only [beq_self_eq_true, eq_self, decide_true, Bool.not_true, Bool.false_eq_true] at h; done) | (try rw [h])))))
  all_goals (conv => whnf)
  all_goals first
    | exact ret_false ho fun hP => by have := not_ok' h; rw [hP.name] at this; cases this
    | exact ret_false ho fun hP => by have := not_ok' h; rw [(inside_iff _ _ _).2 ⟨by rw [hcl]; have := hP.lo; omega, by rw [hcl]; have := hP.hi; omega⟩] at this; cases this
    | exact ret_false ho fun hP => by have := of_decide_eq_true h; have := hP.lo; have := hP.hi; have := hP.idx; omega
    | exact ret_false ho fun hP => by have := of_ndec (not_ok' h); rw [hcl] at this; exact this hP.keys
    | exact ret_false ho fun hP => Bool.noConfusion (hu3.trans (hP.cols k c hc).1 : false = true)
    | exact ret_false ho fun hP => Bool.noConfusion (hu6.trans ((inside_iff _ _ _).2 (hP.cols k c hc).2.1) : false = true)
    | (rw [hn] at h; exact ret_false ho fun hP => (of_dec h).elim fun d hd => (hP.cols k c hc).2.2 d hd.1 hd.2)
    | exact ret_false ho fun hP => by rw [hP.uniq y (get_mem hy) c hc] at h; cases h
    | (rw [hn] at h
       exact ⟨⟨k + 1, _, step_up (get_lt hc) hs.cols, get_lt hc, hP0, cols_up hv hc ⟨hu3.symm, (inside_iff _ _ _).1 hu6.symm, fun d hd he => of_ndec h ⟨d, hd, he⟩⟩, rfl⟩, mu_up (get_lt hc) hs.cols⟩)
    | exact ⟨⟨k2 + 1, _, step_up (get_lt hy) hs.keys, get_lt hy, take_all hv2 hy (fun c' hc' => by rw [hc] at hc'; cases hc'; exact h), rfl⟩, mu_up (get_lt hy) hs.keys⟩
    | (have e : k = s.cols.length := by have := of_decide_eq_false (by assumption : decide ((k : Int) < ((s.cols.map colD).length : Int)) = false); omega
       have e2 : k2 = s.keys.length := by have := of_decide_eq_false (by assumption : decide ((k2 : Int) < ((s.keys.map i64D).length : Int)) = false); omega
       rw [e2, List.take_length] at hv2
       refine ret_b ho ⟨fun hb => ?_, fun hP => ?_⟩
       · have hno := of_ndec (not_ok' hb)
         exact ⟨hP0.1, hP0.2.1, hP0.2.2.1, hP0.2.2.2.1, hP0.2.2.2.2, fun j c hj => hv j c (by rw [e]; exact get_lt hj) hj, hv2, fun i hi => Classical.byContradiction fun hc => hno ⟨i, hi, by rw [hcl]; exact hc⟩⟩
       · rw [dec_false fun ⟨i, hi, hc⟩ => hc (by rw [hcl]; exact hP.idxs i hi)]; rfl)
    | (refine ⟨not_ok (by assumption), ?_, ?_, ?_, ?_⟩
       · have := (inside_iff _ _ _).1 (not_ok (by assumption : (!inside ((s.cols.map colD).length : Int) 1 10) = false)); omega
       · have := (inside_iff _ _ _).1 (not_ok (by assumption : (!inside ((s.cols.map colD).length : Int) 1 10) = false)); omega
       · have := of_decide_eq_false (by assumption : decide (((s.idxs.map idxD).length : Int) > 4) = false); omega
       · have := of_dec (not_ok (by assumption : (!dec (colsP s.keys (s.cols.map colD).length)) = false)); rw [hcl] at this; exact this)
    | trace_state
end Go.Pm.Tryz
namespace Go.Pm.Tryz
open Go Go.Proofs
set_option linter.unusedVariables false
set_option linter.unusedSimpArgs false
set_option maxRecDepth 100000
structure Val where
  kind : Int
  n : Int
  text : List UInt8
def valD (v : Val) : D := .agg [.i .i64 v.kind, .i .i64 v.n, .s v.text]
def valueP (v : Val) : Prop := (v.kind = 0 ∧ v.n = 0 ∧ v.text = []) ∨ (v.kind = 1 ∧ (0 ≤ v.n ∧ v.n ≤ 1) ∧ v.text = []) ∨ (v.kind = 2 ∧ v.text = []) ∨ (v.kind = 3 ∧ v.n = 0 ∧ v.text.length ≤ 200)
theorem specValueRight (v : Val) : Ent Tryz.prog 167 [.d (valD v)] [] (.d (.b (dec (valueP v)))) [] := by
  obtain ⟨o, ho⟩ : ∃ o, o = dec (valueP v) := ⟨_, rfl⟩
  rw [← ho]
  rcases v with ⟨k, n, t⟩
  refine ent_of tok mixed (f := 167) Tryz.func167 (by kernel_rfl) (keep := false) ?_
  repeat' ((conv => whnf) <;> (first | ((with_reducible refine isCall ?_) <;> (first | fail)) | ((with_reducible refine isCut ?_) <;> (first | refine ⟨⟨none⟩, ?_⟩)) | ((first | with_reducible refine isEx ?_ | with_reducible refine isAnd ?_ | with_reducible refine isOr ?_) <;> (first | ((with_reducible refine isSmall ?_) <;> (refine ⟨?_, ?_⟩; kernel_rfl)) | refine ⟨rfl, ?_⟩ | refine ⟨Int.natCast_nonneg _, ?_⟩)) | with_reducible refine Both.mk ?_ ?_ | rintro _ rfl | exact rfl | (split <;> (rename_i h; first | (simp only [beq_self_eq_true, eq_self, decide_true, Bool.not_true, Bool.false_eq_true] at h; done) | (try rw [h])))))
  all_goals (conv => whnf)
  all_goals (refine ret_b ho ?_; simp only [valueP] at *; simp_all <;> omega)
theorem implValueRight (v : Val) : Ent Tryz.prog 198 [.d (valD v)] [] (.d (.b (dec (valueP v)))) [] := by
  obtain ⟨o, ho⟩ : ∃ o, o = dec (valueP v) := ⟨_, rfl⟩
  rw [← ho]
  rcases v with ⟨k, n, t⟩
  refine ent_of tok mixed (f := 198) Tryz.func198 (by kernel_rfl) (keep := false) ?_
  repeat' ((conv => whnf) <;> (first | ((with_reducible refine isCall ?_) <;> (first | (refine ⟨_, within _ _ _, ?_⟩; rintro _ _ ⟨rfl, rfl⟩) | fail)) | ((with_reducible refine isCut ?_) <;> (first | refine ⟨⟨none⟩, ?_⟩)) | ((first | with_reducible refine isEx ?_ | with_reducible refine isAnd ?_ | with_reducible refine isOr ?_) <;> (first | ((with_reducible refine isSmall ?_) <;> (refine ⟨?_, ?_⟩; kernel_rfl)) | refine ⟨rfl, ?_⟩ | refine ⟨Int.natCast_nonneg _, ?_⟩)) | with_reducible refine Both.mk ?_ ?_ | rintro _ rfl | exact rfl | (split <;> (rename_i h; first | (simp only [beq_self_eq_true, eq_self, decide_true, Bool.not_true, Bool.false_eq_true] at h; done) | (try rw [h])))))
  all_goals (conv => whnf)
  all_goals (refine ret_b ho ?_; simp only [valueP] at *; simp_all [inside] <;> omega)
def valuesP (vs : List Val) : Prop := vs.length ≤ 12 ∧ ∀ v, v ∈ vs → valueP v
theorem twelve {n : Nat} (h : n ≤ 12) : n ≤ maxLen := Nat.le_trans h (Nat.le_of_ble_eq_true rfl)
theorem erase_cols : ∀ l : List Col, eraseL (l.map colD) = l.map colD
  | [] => rfl
  | x :: l => by simp only [List.map_cons, eraseL, erase_cols l]; rfl
theorem erase_vals : ∀ l : List Val, eraseL (l.map valD) = l.map valD
  | [] => rfl
  | x :: l => by simp only [List.map_cons, eraseL, erase_vals l]; rfl
end Go.Pm.Tryz
namespace Go.Pm.Tryz
open Go Go.Proofs
set_option linter.unusedVariables false
set_option linter.unusedSimpArgs false
set_option maxRecDepth 100000
theorem nodup_le : ∀ (n : Nat) (l : List Nat), l.Nodup → (∀ x, x ∈ l → x < n) → l.length ≤ n
  | 0, l, _, h => by
    cases l with
    | nil => exact Nat.le_refl _
    | cons x l => exact absurd (h x (List.mem_cons_self ..)) (Nat.not_lt_zero _)
  | n + 1, l, hd, h => by
    have h1 := nodup_le n (l.erase n) (hd.erase n) (fun x hx => by
      have hm := List.mem_of_mem_erase hx
      have := h x hm
      have hne : x ≠ n := fun e => by
        subst e
        exact absurd hx (hd.not_mem_erase)
      omega)
    by_cases hm : n ∈ l
    · rw [List.length_erase_of_mem hm] at h1; omega
    · rw [List.erase_of_not_mem hm] at h1; omega
theorem colsP_len {ks : List Int} {n : Nat} (h : colsP ks n) : ks.length ≤ n := by
  have := nodup_le n (ks.map Int.toNat) (List.pairwise_iff_getElem.2 fun i j hi hj hij e => by
      rw [List.length_map] at hi hj
      simp only [List.getElem_map] at e
      have h1 := h.2 i _ (List.getElem?_eq_getElem hi)
      have h2 := h.2 j _ (List.getElem?_eq_getElem hj)
      refine h2.2 (List.mem_of_getElem? (i := i) ?_)
      rw [List.getElem?_take, if_pos hij, List.getElem?_eq_getElem hi]
      congr 1
      omega) (fun x hx => by
      obtain ⟨y, hy, rfl⟩ := List.mem_map.1 hx
      obtain ⟨k, hk⟩ := List.getElem?_of_mem hy
      have := (h.2 k y hk).1
      omega)
  rwa [List.length_map] at this
theorem colsP_in {ks : List Int} {n : Nat} (h : colsP ks n) {x : Int} (hx : x ∈ ks) : 0 ≤ x ∧ x < n := by
  obtain ⟨k, hk⟩ := List.getElem?_of_mem hx
  exact (h.2 k x hk).1
def pickM (row : List Val) (cols : List Int) : List Val := cols.map fun c => row.getD c.toNat ⟨0, 0, []⟩
def inRow (row : List Val) (cols : List Int) : Prop := ∀ c, c ∈ cols → 0 ≤ c ∧ c < row.length
theorem pickM_len (row : List Val) (cols : List Int) : (pickM row cols).length = cols.length := List.length_map ..
theorem pick_up {row : List Val} {cols : List Int} {k : Nat} {y : Int} {v : Val} (hy : cols[k]? = some y) (hv : row[y.toNat]? = some v) : pickM row (cols.take (k + 1)) = pickM row (cols.take k) ++ [v] := by
  rw [take_up hy, pickM, List.map_append]
  simp only [pickM, List.map_cons, List.map_nil, List.getD_eq_getElem?_getD, hv, Option.getD_some]
set_option maxHeartbeats 1000000 in
theorem implPick (row : List Val) (cols : List Int) (hl : cols.length ≤ 1000) (hi : inRow row cols) : Ent Tryz.prog 201 [.d (.sl false (row.map valD)), .d (.sl false (cols.map i64D))] [] (.d (.sl false ((pickM row cols).map valD))) [] := by
  obtain ⟨o, ho⟩ : ∃ o, o = pickM row cols := ⟨_, rfl⟩
  rw [← ho]
  refine ent_of tok mixed (f := 201) Tryz.func201 (by kernel_rfl) (keep := false) ?_
  repeat' ((conv => whnf) <;> (first | ((with_reducible refine isCall ?_) <;> (first | refine ⟨_, get_map' hv, ?_⟩ | refine ⟨hyr.1, ?_⟩ | (refine ⟨⟨by decide, rfl, rfl, room_add (by rw [hx, List.length_map, pickM_len, List.length_take]; omega) (by decide)⟩, ?_⟩) | fail)) | ((with_reducible refine isLoop ?_) <;> (first | (refine ⟨[0, 5, 9, 10, 11], [10008], fun st => ∃ (k : Nat) (i : Int) (xs : List D), i = k ∧ k ≤ cols.length ∧ xs = (pickM row (cols.take k)).map valD ∧ st = ⟨[(0, .d (.sl false (row.map valD))), (5, .own 10008), (9, .d (.sl false (cols.map i64D))), (10, .d (.i .i64 ((cols.map i64D).length : Int))), (11, .d (.i .i64 i))], [(10008, .arr 3 false xs)]⟩, fun st => match look 11 st.env with | some (.d (.i _ i)) => cols.length - i.toNat | _ => 0, rfl, ⟨0, _, _, rfl, Nat.zero_le _, rfl, rfl⟩, ?_⟩; rintro st ⟨k, i, xs, rfl, hk, hx, rfl⟩) | refine ⟨_, get_map' hv, ?_⟩ | refine ⟨hyr.1, ?_⟩ | (refine ⟨⟨by decide, rfl, rfl, room_add (by rw [hx, List.length_map, pickM_len, List.length_take]; omega) (by decide)⟩, ?_⟩) | fail)) | ((with_reducible refine isCut ?_) <;> (first | refine ⟨⟨none⟩, ?_⟩)) | ((first | with_reducible refine isEx ?_ | with_reducible refine isAnd ?_ | with_reducible refine isOr ?_) <;> (first | refine ⟨_, get_map' hv, ?_⟩ | refine ⟨hyr.1, ?_⟩ | ((with_reducible refine isGet (xs := cols.map i64D) (i := ((k : Nat) : Int).toNat) ?_); obtain ⟨y, hy⟩ := get_ex (ss := cols) (k := k) (lt_of_dec (by assumption)); have hyr := hi y (get_mem hy); obtain ⟨v, hv⟩ := get_ex (ss := row) (k := y.toNat) (by omega); refine ⟨_, get_map' hy, ?_⟩) | (refine ⟨⟨by decide, rfl, rfl, room_add (by rw [hx, List.length_map, pickM_len, List.length_take]; omega) (by decide)⟩, ?_⟩) | ((with_reducible refine isSmall ?_) <;> (refine ⟨?_, ?_⟩; kernel_rfl)) | refine ⟨rfl, ?_⟩ | refine ⟨Int.natCast_nonneg _, ?_⟩)) | with_reducible refine Both.mk ?_ ?_ | rintro _ rfl | exact rfl | (split <;> (rename_i h; first | (simp only [beq_self_eq_true, eq_self, decide_true, Bool.not_true, Bool.false_eq_true] at h; done) | (try rw [h])))))
  all_goals (conv => whnf)
  · exact ⟨⟨k + 1, _, _, step_up (n := 1000) (by have := get_lt hy; omega) (Nat.le_of_ble_eq_true rfl), get_lt hy, by rw [pick_up hy hv, List.map_append, ← hx]; rfl, rfl⟩, mu_up (get_lt hy) (Nat.le_trans hl (Nat.le_of_ble_eq_true rfl))⟩
  · have e : k = cols.length := by have := of_decide_eq_false h; rw [List.length_map] at this; omega
    rw [e, List.take_length] at hx
    rw [ho, ← hx]; exact ⟨rfl, rfl⟩
def cellP (v : Val) (c : Col) : Prop := valueP v ∧ (v.kind = c.kind ∨ (v.kind = 0 ∧ c.uniq = true))
def rowP (cs : List Col) (row : List Val) : Prop := row.length = cs.length ∧ ∀ (k : Nat) (v : Val) (c : Col), row[k]? = some v → cs[k]? = some c → cellP v c
theorem row_up {cs : List Col} {row : List Val} {k : Nat} {v : Val} {c : Col} (h : ∀ (j : Nat) (v : Val) (c : Col), j < k → row[j]? = some v → cs[j]? = some c → cellP v c) (hv : row[k]? = some v) (hc : cs[k]? = some c) (h1 : cellP v c) : ∀ (j : Nat) (v : Val) (c : Col), j < k + 1 → row[j]? = some v → cs[j]? = some c → cellP v c := by
  intro j v' c' hj hv' hc'
  by_cases e : j = k
  · subst e; rw [hv] at hv'; rw [hc] at hc'; cases hv'; cases hc'; exact h1
  · exact h j v' c' (by omega) hv' hc'
set_option maxHeartbeats 4000000 in
theorem specRow (s : Schema) (row : List Val) (hr : row.length ≤ maxLen) : Ent Tryz.prog 139 [.d (schemaD s), .d (.sl false (row.map valD))] [] (.d (.b (dec (rowP s.cols row)))) [] := by
  obtain ⟨o, ho⟩ : ∃ o, o = dec (rowP s.cols row) := ⟨_, rfl⟩
  rw [← ho]
  have hrl : (row.map valD).length = row.length := List.length_map ..
  have hcl : (s.cols.map colD).length = s.cols.length := List.length_map ..
  refine ent_of tok mixed (f := 139) Tryz.func139 (by kernel_rfl) (keep := false) ?_
  repeat' ((conv => whnf) <;> (first | ((with_reducible refine isCall ?_) <;> (first | (refine ⟨_, specValueRight _, ?_⟩; rintro _ _ ⟨rfl, rfl⟩) | refine ⟨_, get_map' hx, ?_⟩ | refine ⟨_, get_map' hy, ?_⟩ | fail)) | ((with_reducible refine isLoop ?_) <;> (first | (refine ⟨[1, 2, 5], [10002], fun st => ∃ (k : Nat) (i : Int), i = k ∧ k ≤ row.length ∧ row.length = s.cols.length ∧ (∀ (j : Nat) (v : Val) (c : Col), j < k → row[j]? = some v → s.cols[j]? = some c → cellP v c) ∧ st = ⟨[(1, .d (.sl false (row.map valD))), (2, .ptr 10002 0), (5, .d (.i .i64 i))], [(10002, .var (schC s))]⟩, fun st => match look 5 st.env with | some (.d (.i _ i)) => row.length - i.toNat | _ => 0, rfl, ⟨0, _, rfl, Nat.zero_le _, (by have := of_decide_eq_true (not_ok (by assumption)); omega), (fun j v c hj => absurd hj (Nat.not_lt_zero _)), rfl⟩, ?_⟩; rintro st ⟨k, i, rfl, hk, heq, hv, rfl⟩) | refine ⟨_, get_map' hx, ?_⟩ | refine ⟨_, get_map' hy, ?_⟩ | fail)) | ((with_reducible refine isCut ?_) <;> (first | refine ⟨⟨none⟩, ?_⟩)) | ((first | with_reducible refine isEx ?_ | with_reducible refine isAnd ?_ | with_reducible refine isOr ?_) <;> (first | refine ⟨_, get_map' hx, ?_⟩ | refine ⟨_, get_map' hy, ?_⟩ | ((with_reducible refine isGet (xs := row.map valD) (i := ((k : Nat) : Int).toNat) ?_); obtain ⟨x, hx⟩ := get_ex (ss := row) (k := k) (lt_of_dec (by assumption)); refine ⟨_, get_map' hx, ?_⟩) | ((with_reducible refine isGet (xs := s.cols.map colD) (i := ((k : Nat) : Int).toNat) ?_); obtain ⟨y, hy⟩ := get_ex (ss := s.cols) (k := k) (by have := lt_of_dec (ss := row) (k := k) (f := valD) (by assumption); omega); refine ⟨_, get_map' hy, ?_⟩) | ((with_reducible refine isSmall ?_) <;> (refine ⟨?_, ?_⟩; kernel_rfl)) | refine ⟨rfl, ?_⟩ | refine ⟨Int.natCast_nonneg _, ?_⟩)) | with_reducible refine Both.mk ?_ ?_ | rintro _ rfl | exact rfl | (split <;> (rename_i h; first | (simp only [beq_self_eq_true, eq_self, decide_true, Bool.not_true, Bool.false_eq_true] at h; done) | (try rw [h])))))
  all_goals (conv => whnf)
  all_goals first
    | exact ret_false ho fun hP => by have := of_decide_eq_false (not_ok' h); have := hP.1; omega
    | (obtain ⟨y, hy⟩ := get_ex (ss := s.cols) (k := k) (by have := get_lt hx; omega)
       exact ret_false ho fun hP => of_ndec (not_ok' h) (hP.2 k x y hx hy).1)
    | exact ret_false ho fun hP => (hP.2 k x y hx hy).2.elim (fun e => of_decide_eq_false (not_ok' (by assumption : (!decide (x.kind = y.kind)) = true)) e) (fun e => of_decide_eq_false (not_ok' h) e.1)
    | exact ret_false ho fun hP => (hP.2 k x y hx hy).2.elim (fun e => of_decide_eq_false (not_ok' (by assumption : (!decide (x.kind = y.kind)) = true)) e) (fun e => Bool.noConfusion ((not_ok' h).symm.trans e.2 : false = true))
    | exact ret_false ho fun hP => (hP.2 k x y hx hy).2.elim (fun e => of_decide_eq_false (not_ok' (by assumption : (!decide (x.kind = y.kind)) = true)) e) (fun e => of_decide_eq_false h e.1)
    | exact ret_false ho fun hP => (hP.2 k x y hx hy).2.elim (fun e => of_decide_eq_false (not_ok' (by assumption : (!decide (x.kind = y.kind)) = true)) e) (fun e => Bool.noConfusion (h.symm.trans e.2 : false = true))
    | exact ⟨⟨k + 1, _, step_up (get_lt hx) hr, get_lt hx, heq, row_up hv hx hy ⟨of_dec (not_ok (by assumption)), .inr ⟨of_decide_eq_true (not_ok (by assumption : (!decide (x.kind = 0)) = false)), not_ok h⟩⟩, rfl⟩, mu_up (get_lt hx) hr⟩
    | exact ⟨⟨k + 1, _, step_up (get_lt hx) hr, get_lt hx, heq, row_up hv hx hy ⟨of_dec (not_ok (by assumption)), .inr ⟨of_decide_eq_true h, by assumption⟩⟩, rfl⟩, mu_up (get_lt hx) hr⟩
    | exact ⟨⟨k + 1, _, step_up (get_lt hx) hr, get_lt hx, heq, row_up hv hx hy ⟨of_dec (not_ok (by assumption)), .inr ⟨of_decide_eq_true (not_ok h), by assumption⟩⟩, rfl⟩, mu_up (get_lt hx) hr⟩
    | exact ⟨⟨k + 1, _, step_up (get_lt hx) hr, get_lt hx, heq, row_up hv hx hy ⟨of_dec (not_ok (by assumption)), .inl (of_decide_eq_true (not_ok h))⟩, rfl⟩, mu_up (get_lt hx) hr⟩
    | (have e : k = row.length := by have := of_decide_eq_false h; omega
       exact ret_true ho ⟨heq, fun j v c hj hc => hv j v c (by rw [e]; exact get_lt hj) hj hc⟩)
    | trace_state
set_option maxHeartbeats 4000000 in
theorem implRow (s : Schema) (row : List Val) (hr : row.length ≤ maxLen) : Ent Tryz.prog 172 [.d (schemaD s), .d (.sl false (row.map valD))] [] (.d (.b (dec (rowP s.cols row)))) [] := by
  obtain ⟨o, ho⟩ : ∃ o, o = dec (rowP s.cols row) := ⟨_, rfl⟩
  rw [← ho]
  have hrl : (row.map valD).length = row.length := List.length_map ..
  have hcl : (s.cols.map colD).length = s.cols.length := List.length_map ..
  refine ent_of tok mixed (f := 172) Tryz.func172 (by kernel_rfl) (keep := false) ?_
  repeat' ((conv => whnf) <;> (first | ((with_reducible refine isCall ?_) <;> (first | (refine ⟨_, implValueRight _, ?_⟩; rintro _ _ ⟨rfl, rfl⟩) | refine ⟨_, get_map' hx, ?_⟩ | refine ⟨_, get_map' hy, ?_⟩ | fail)) | ((with_reducible refine isLoop ?_) <;> (first | (refine ⟨[2, 14, 15, 16], [10002], fun st => ∃ (k : Nat) (i : Int), i = k ∧ k ≤ row.length ∧ row.length = s.cols.length ∧ (∀ (j : Nat) (v : Val) (c : Col), j < k → row[j]? = some v → s.cols[j]? = some c → cellP v c) ∧ st = ⟨[(2, .ptr 10002 0), (14, .d (.sl false (row.map valD))), (15, .d (.i .i64 ((row.map valD).length : Int))), (16, .d (.i .i64 i))], [(10002, .var (schC s))]⟩, fun st => match look 16 st.env with | some (.d (.i _ i)) => row.length - i.toNat | _ => 0, rfl, ⟨0, _, rfl, Nat.zero_le _, (by have := of_decide_eq_true (not_ok (by assumption)); omega), (fun j v c hj => absurd hj (Nat.not_lt_zero _)), rfl⟩, ?_⟩; rintro st ⟨k, i, rfl, hk, heq, hv, rfl⟩) | refine ⟨_, get_map' hx, ?_⟩ | refine ⟨_, get_map' hy, ?_⟩ | fail)) | ((with_reducible refine isCut ?_) <;> (first | refine ⟨⟨none⟩, ?_⟩)) | ((first | with_reducible refine isEx ?_ | with_reducible refine isAnd ?_ | with_reducible refine isOr ?_) <;> (first | refine ⟨_, get_map' hx, ?_⟩ | refine ⟨_, get_map' hy, ?_⟩ | ((with_reducible refine isGet (xs := row.map valD) (i := ((k : Nat) : Int).toNat) ?_); obtain ⟨x, hx⟩ := get_ex (ss := row) (k := k) (lt_of_dec (by assumption)); refine ⟨_, get_map' hx, ?_⟩) | ((with_reducible refine isGet (xs := s.cols.map colD) (i := ((k : Nat) : Int).toNat) ?_); obtain ⟨y, hy⟩ := get_ex (ss := s.cols) (k := k) (by have := lt_of_dec (ss := row) (k := k) (f := valD) (by assumption); omega); refine ⟨_, get_map' hy, ?_⟩) | ((with_reducible refine isSmall ?_) <;> (refine ⟨?_, ?_⟩; kernel_rfl)) | refine ⟨rfl, ?_⟩ | refine ⟨Int.natCast_nonneg _, ?_⟩)) | with_reducible refine Both.mk ?_ ?_ | rintro _ rfl | exact rfl | (split <;> (rename_i h; first | (simp only [beq_self_eq_true, eq_self, decide_true, Bool.not_true, Bool.false_eq_true] at h; done) | (try rw [h])))))
  all_goals (conv => whnf)
  all_goals first
    | exact ret_false ho fun hP => by have := of_decide_eq_false (not_ok' h); have := hP.1; omega
    | (obtain ⟨y, hy⟩ := get_ex (ss := s.cols) (k := k) (by have := get_lt hx; omega)
       exact ret_false ho fun hP => of_ndec (not_ok' h) (hP.2 k x y hx hy).1)
    | exact ret_false ho fun hP => (hP.2 k x y hx hy).2.elim (fun e => of_decide_eq_false (not_ok' (by assumption : (!decide (x.kind = y.kind)) = true)) e) (fun e => of_decide_eq_false (not_ok' h) e.1)
    | exact ret_false ho fun hP => (hP.2 k x y hx hy).2.elim (fun e => of_decide_eq_false (not_ok' (by assumption : (!decide (x.kind = y.kind)) = true)) e) (fun e => Bool.noConfusion ((not_ok' h).symm.trans e.2 : false = true))
    | exact ret_false ho fun hP => (hP.2 k x y hx hy).2.elim (fun e => of_decide_eq_false (not_ok' (by assumption : (!decide (x.kind = y.kind)) = true)) e) (fun e => of_decide_eq_false h e.1)
    | exact ret_false ho fun hP => (hP.2 k x y hx hy).2.elim (fun e => of_decide_eq_false (not_ok' (by assumption : (!decide (x.kind = y.kind)) = true)) e) (fun e => Bool.noConfusion (h.symm.trans e.2 : false = true))
    | exact ⟨⟨k + 1, _, step_up (get_lt hx) hr, get_lt hx, heq, row_up hv hx hy ⟨of_dec (not_ok (by assumption)), .inr ⟨of_decide_eq_true (not_ok (by assumption : (!decide (x.kind = 0)) = false)), not_ok h⟩⟩, rfl⟩, mu_up (get_lt hx) hr⟩
    | exact ⟨⟨k + 1, _, step_up (get_lt hx) hr, get_lt hx, heq, row_up hv hx hy ⟨of_dec (not_ok (by assumption)), .inr ⟨of_decide_eq_true h, by assumption⟩⟩, rfl⟩, mu_up (get_lt hx) hr⟩
    | exact ⟨⟨k + 1, _, step_up (get_lt hx) hr, get_lt hx, heq, row_up hv hx hy ⟨of_dec (not_ok (by assumption)), .inr ⟨of_decide_eq_true (not_ok h), by assumption⟩⟩, rfl⟩, mu_up (get_lt hx) hr⟩
    | exact ⟨⟨k + 1, _, step_up (get_lt hx) hr, get_lt hx, heq, row_up hv hx hy ⟨of_dec (not_ok (by assumption)), .inl (of_decide_eq_true (not_ok h))⟩, rfl⟩, mu_up (get_lt hx) hr⟩
    | (have e : k = row.length := by have := of_decide_eq_false h; omega
       exact ret_true ho ⟨heq, fun j v c hj hc => hv j v c (by rw [e]; exact get_lt hj) hj hc⟩)
    | trace_state
end Go.Pm.Tryz
namespace Go.Proofs
set_option linter.unusedVariables false
set_option linter.unusedSimpArgs false
set_option maxHeartbeats 1000000 in
set_option maxRecDepth 100000 in
theorem Tryz.bytealg_CompareString (a b : ByteArray) (w : World) :
    Calls Tryz.prog 220 #[.string a, .string b] w fun e w' => e = .returned (.int .i64 (Lib.compareBytes a.data.toList b.data.toList)) ∧ w' = w := by
  go_enter Tryz.func220, Tryz.ntmps220
  go_wp2
  rw [run_callFunc_extern Tryz.func221 (by kernel_rfl) (by kernel_rfl) (by kernel_rfl) (e := Extern.BytealgCompare.compare) (by kernel_rfl), Lib.run_compareString]
  simp only [Result.andThen]
  rw [Oper.upon_value]
  go_wp2
  go_ret
  exact ⟨rfl, rfl⟩
end Go.Proofs
namespace Go.Pm.Tryz
open Go Go.Proofs
set_option linter.unusedVariables false
set_option linter.unusedSimpArgs false
set_option maxRecDepth 100000
def cmpS (a b : List UInt8) : Int := if Op.bytesLess a b then -1 else if a = b then 0 else 1
theorem compareString (a b : List UInt8) : Ent Tryz.prog 220 [.d (.s a), .d (.s b)] [] (.d (.i .i64 (cmpS a b))) [] := by
  refine ent_of_calls ⟨_, Tryz.func220, by kernel_rfl, by kernel_rfl⟩ fun X J w vs hr => ?_
  simp only [AV.repL, AV.rep, D.rep] at hr
  obtain ⟨v, vs1, h1, ⟨rfl, _⟩, v2, vs2, h2, ⟨rfl, _⟩, h3⟩ := hr
  subst h3 h2
  have e : vs = #[.string ⟨a.toArray⟩, .string ⟨b.toArray⟩] := Array.toList_inj.1 h1
  subst e
  refine (Tryz.bytealg_CompareString _ _ w).mono ?_
  rintro e w' ⟨rfl, rfl⟩
  refine ⟨rfl, _, rfl, ?_⟩
  simp only [AV.rep, D.rep, cmpS, compare_less, and_true]
theorem compareStrings (a b : List UInt8) : Ent Tryz.prog 216 [.d (.s a), .d (.s b)] [] (.d (.i .i64 (cmpS a b))) [] := by
  refine ent_of tok mixed (f := 216) Tryz.func216 (by kernel_rfl) (keep := false) ?_
  repeat' ((conv => whnf) <;> (first
    | refine ⟨⟨none⟩, ?_⟩
    | refine Both.mk ?_ ?_
    | refine ⟨rfl, ?_⟩
    | exact rfl
    | (refine ⟨_, compareString _ _, ?_⟩; rintro _ _ ⟨rfl, rfl⟩)
    | (split <;> (rename_i h; try rw [h]))))
def cmpI (a b : Int) : Int := if a < b then -1 else if a > b then 1 else 0
theorem isNaN (a : Int) : Ent Tryz.prog 219 [.d (.i .i64 a)] [] (.d (.b false)) [] := by
  refine ent_of tok mixed (f := 219) Tryz.func219 (by kernel_rfl) (keep := false) ?_
  repeat' ((conv => whnf) <;> (first
    | refine ⟨⟨none⟩, ?_⟩
    | refine Both.mk ?_ ?_
    | refine ⟨rfl, ?_⟩
    | exact rfl
    | (split <;> (rename_i h; try rw [h]))))
  all_goals (conv => whnf)
  all_goals (refine ⟨congrArg (fun b => AV.d (D.b b)) ?_, rfl⟩; simp)
theorem compareInt (a b : Int) : Ent Tryz.prog 215 [.d (.i .i64 a), .d (.i .i64 b)] [] (.d (.i .i64 (cmpI a b))) [] := by
  refine ent_of tok mixed (f := 215) Tryz.func215 (by kernel_rfl) (keep := false) ?_
  repeat' ((conv => whnf) <;> (first
    | refine ⟨⟨none⟩, ?_⟩
    | refine Both.mk ?_ ?_
    | refine ⟨rfl, ?_⟩
    | exact rfl
    | (refine ⟨_, isNaN _, ?_⟩; rintro _ _ ⟨rfl, rfl⟩)
    | (split <;> (rename_i h; try rw [h]))))
  all_goals (conv => whnf)
  all_goals (refine ⟨congrArg (fun b => AV.d (D.i .i64 b)) ?_, rfl⟩; simp only [decide_eq_true_eq, decide_eq_false_iff_not] at *; simp only [cmpI]; split <;> try split)
  all_goals first | rfl | omega
def orI : List Int → Int
  | [] => 0
  | x :: r => if x = 0 then orI r else x
theorem or_drop {ns : List Int} {k : Nat} {t : Int} (h : ns[k]? = some t) (h1 : (!decide (t = 0)) = false) : orI (ns.drop k) = orI (ns.drop (k + 1)) := by
  obtain ⟨hk, rfl⟩ := List.getElem?_eq_some_iff.1 h
  rw [List.drop_eq_getElem_cons hk]
  simp only [Bool.not_eq_false', decide_eq_true_eq] at h1
  simp only [orI, h1, if_true]
theorem or_hit {ns : List Int} {k : Nat} {t : Int} (h : ns[k]? = some t) (h1 : (!decide (t = 0)) = true) : orI (ns.drop k) = t := by
  obtain ⟨hk, rfl⟩ := List.getElem?_eq_some_iff.1 h
  rw [List.drop_eq_getElem_cons hk]
  simp only [Bool.not_eq_true', decide_eq_false_iff_not] at h1
  simp only [orI, h1, if_false]
def intD (n : Int) : D := .i .i64 n
theorem orInt (ns : List Int) (hs : ns.length ≤ maxLen) : Ent Tryz.prog 214 [.d (.sl false (ns.map intD))] [] (.d (.i .i64 (orI ns))) [] := by
  refine ent_of tok mixed (f := 214) Tryz.func214 (by kernel_rfl) (keep := false) ?_
  repeat' ((conv => whnf) <;> (first
    | (refine ⟨[8, 7, 6, 3], [], fun s => ∃ (k : Nat) (n : Int), n = k ∧ k ≤ ns.length ∧ orI ns = orI (ns.drop k) ∧ s = ⟨[(8, .d (.i .i64 n)), (7, .d (.i .i64 ((ns.map intD).length : Int))), (6, .d (.sl false (ns.map intD))), (3, .d (.i .i64 0))], []⟩,
        fun s => match look 8 s.env with | some (.d (.i _ n)) => ns.length - n.toNat | _ => 0, rfl, ⟨0, _, rfl, Nat.zero_le _, rfl, rfl⟩, ?_⟩; rintro s ⟨k, n, rfl, hk, hu, rfl⟩)
    | (obtain ⟨t, ht⟩ := get_ex (k := k) (lt_of_dec (by assumption)); refine ⟨_, get_map' ht, ?_⟩)
    | exact ⟨rfl, ⟨k + 1, _, step_up (get_lt ht) hs, get_lt ht, (by rw [hu]; exact or_drop ht (by assumption)), rfl⟩, mu_up (get_lt ht) hs⟩
    | refine ⟨⟨none⟩, ?_⟩
    | refine Both.mk ?_ ?_
    | refine ⟨rfl, ?_⟩
    | refine ⟨Int.natCast_nonneg _, ?_⟩
    | exact rfl
    | (split <;> (rename_i h; try rw [h]))))
  all_goals (conv => whnf)
  all_goals (refine ⟨congrArg (fun b => AV.d (D.i .i64 b)) ?_, rfl⟩; rw [hu])
  · exact (or_hit ht h).symm
  · rw [List.drop_eq_nil_of_le]
    · rfl
    · have := of_decide_eq_false h; rw [List.length_map] at this; omega
def cmpV (a b : Val) : Int := orI [cmpI a.kind b.kind, cmpI a.n b.n, cmpS a.text b.text]
theorem l02One (a b : Val) : Ent Tryz.prog 161 [.d (valD a), .d (valD b)] [] (.d (.i .i64 (cmpV a b))) [] := by
  refine ent_of tok mixed (f := 161) Tryz.func161 (by kernel_rfl) (keep := false) ?_
  repeat' ((conv => whnf) <;> (first
    | refine ⟨⟨none⟩, ?_⟩
    | refine Both.mk ?_ ?_
    | refine ⟨rfl, ?_⟩
    | exact rfl
    | (split <;> (rename_i h; try rw [h]))))
  all_goals (conv => whnf)
  all_goals (refine ⟨congrArg (fun b => AV.d (D.i .i64 b)) ?_, rfl⟩)
  all_goals simp only [cmpV, orI, cmpI, cmpS]
  all_goals simp_all
  all_goals (repeat' split)
  all_goals first | rfl | omega | (simp_all; done) | (simp_all; omega)
set_option maxHeartbeats 4000000 in
theorem compareValue (a b : Val) : Ent Tryz.prog 200 [.d (valD a), .d (valD b)] [] (.d (.i .i64 (cmpV a b))) [] := by
  obtain ⟨u1, hu1⟩ : ∃ u, u = cmpI a.kind b.kind := ⟨_, rfl⟩
  obtain ⟨u2, hu2⟩ : ∃ u, u = cmpI a.n b.n := ⟨_, rfl⟩
  obtain ⟨u3, hu3⟩ : ∃ u, u = cmpS a.text b.text := ⟨_, rfl⟩
  have c1 := compareInt a.kind b.kind
  have c2 := compareInt a.n b.n
  have c3 := compareStrings a.text b.text
  rw [cmpV]
  rw [← hu1] at c1 ⊢
  rw [← hu2] at c2 ⊢
  rw [← hu3] at c3 ⊢
  refine ent_of tok mixed (f := 200) Tryz.func200 (by kernel_rfl) (keep := false) ?_
  repeat' ((conv => whnf) <;> (first
    | refine ⟨⟨none⟩, ?_⟩
    | refine Both.mk ?_ ?_
    | refine ⟨rfl, ?_⟩
    | exact rfl
    | (refine ⟨_, c1, ?_⟩; rintro _ _ ⟨rfl, rfl⟩)
    | (refine ⟨_, c2, ?_⟩; rintro _ _ ⟨rfl, rfl⟩)
    | (refine ⟨_, c3, ?_⟩; rintro _ _ ⟨rfl, rfl⟩)
    | (refine ⟨_, orInt [u1, u2, u3] (Nat.le_of_ble_eq_true rfl), ?_⟩; rintro _ _ ⟨rfl, rfl⟩)
    | (split <;> (rename_i h; try rw [h]))))
theorem cmpI_zero {a b : Int} : cmpI a b = 0 ↔ a = b := by
  unfold cmpI
  by_cases h : a < b
  · rw [if_pos h]; omega
  · rw [if_neg h]
    by_cases h2 : a > b
    · rw [if_pos h2]; omega
    · rw [if_neg h2]; omega
theorem cmpS_zero {a b : List UInt8} : cmpS a b = 0 ↔ a = b := by
  unfold cmpS
  by_cases h : Op.bytesLess a b = true
  · rw [if_pos h]
    refine ⟨fun e => absurd e (by decide), fun e => ?_⟩
    rw [e, less_irrefl] at h; cases h
  · rw [if_neg h]
    by_cases h2 : a = b
    · rw [if_pos h2]; exact ⟨fun _ => h2, fun _ => rfl⟩
    · rw [if_neg h2]; exact ⟨fun e => absurd e (by decide), fun e => absurd e h2⟩
theorem cmpV_zero {a b : Val} : cmpV a b = 0 ↔ a = b := by
  rcases a with ⟨k, n, t⟩
  rcases b with ⟨k', n', t'⟩
  simp only [cmpV, orI]
  constructor
  · intro h
    by_cases h1 : cmpI k k' = 0
    · rw [if_pos h1] at h
      by_cases h2 : cmpI n n' = 0
      · rw [if_pos h2] at h
        by_cases h3 : cmpS t t' = 0
        · rw [cmpI_zero.1 h1, cmpI_zero.1 h2, cmpS_zero.1 h3]
        · rw [if_neg h3] at h; exact absurd h h3
      · rw [if_neg h2] at h; exact absurd h h2
    · rw [if_neg h1] at h; exact absurd h h1
  · intro h
    cases h
    rw [if_pos (cmpI_zero.2 rfl), if_pos (cmpI_zero.2 rfl), if_pos (cmpS_zero.2 rfl)]
def cmpL : List Val → List Val → Int
  | [], [] => 0
  | [], _ :: _ => -1
  | _ :: _, [] => 1
  | x :: a, y :: b => if cmpV x y = 0 then cmpL a b else cmpV x y
theorem cmpL_zero : ∀ {a b : List Val}, cmpL a b = 0 ↔ a = b
  | [], [] => by simp [cmpL]
  | [], _ :: _ => by simp [cmpL]
  | _ :: _, [] => by simp [cmpL]
  | x :: a, y :: b => by
    rw [cmpL]
    by_cases h : cmpV x y = 0
    · rw [if_pos h, cmpL_zero, cmpV_zero.1 h]; simp
    · rw [if_neg h]
      refine ⟨fun e => absurd e h, fun e => ?_⟩
      cases e; exact absurd (cmpV_zero.2 rfl) h
theorem cmpL_next {a b : List Val} {k : Nat} {x y : Val} (hx : a[k]? = some x) (hy : b[k]? = some y) (h : cmpV x y = 0) : cmpL (a.drop k) (b.drop k) = cmpL (a.drop (k + 1)) (b.drop (k + 1)) := by
  obtain ⟨h1, rfl⟩ := List.getElem?_eq_some_iff.1 hx
  obtain ⟨h2, rfl⟩ := List.getElem?_eq_some_iff.1 hy
  rw [List.drop_eq_getElem_cons h1, List.drop_eq_getElem_cons h2, cmpL, if_pos h]
theorem cmpL_here {a b : List Val} {k : Nat} {x y : Val} (hx : a[k]? = some x) (hy : b[k]? = some y) (h : ¬ cmpV x y = 0) : cmpL (a.drop k) (b.drop k) = cmpV x y := by
  obtain ⟨h1, rfl⟩ := List.getElem?_eq_some_iff.1 hx
  obtain ⟨h2, rfl⟩ := List.getElem?_eq_some_iff.1 hy
  rw [List.drop_eq_getElem_cons h1, List.drop_eq_getElem_cons h2, cmpL, if_neg h]
theorem cmpL_lt {a b : List Val} {k : Nat} (h1 : a.length ≤ k) (h2 : k < b.length) : cmpL (a.drop k) (b.drop k) = -1 := by
  rw [List.drop_eq_nil_of_le h1, List.drop_eq_getElem_cons h2]; rfl
theorem cmpL_gt {a b : List Val} {k : Nat} (h1 : k < a.length) (h2 : b.length ≤ k) : cmpL (a.drop k) (b.drop k) = 1 := by
  rw [List.drop_eq_nil_of_le h2, List.drop_eq_getElem_cons h1]; rfl
theorem cmpL_eq {a b : List Val} {k : Nat} (h1 : a.length ≤ k) (h2 : b.length ≤ k) : cmpL (a.drop k) (b.drop k) = 0 := by
  rw [List.drop_eq_nil_of_le h1, List.drop_eq_nil_of_le h2]; rfl
set_option maxHeartbeats 1000000 in
theorem l02Compare (a b : List Val) (ha : a.length ≤ maxLen) (hb : b.length ≤ maxLen) : Ent Tryz.prog 134 [.d (.sl false (a.map valD)), .d (.sl false (b.map valD))] [] (.d (.i .i64 (cmpL a b))) [] := by
  obtain ⟨o, ho⟩ : ∃ o, o = cmpL a b := ⟨_, rfl⟩
  rw [← ho]
  have hla : (a.map valD).length = a.length := List.length_map ..
  have hlb : (b.map valD).length = b.length := List.length_map ..
  refine ent_of tok mixed (f := 134) Tryz.func134 (by kernel_rfl) (keep := false) ?_
  repeat' ((conv => whnf) <;> (first | ((with_reducible refine isCall ?_) <;> (first | (refine ⟨_, l02One _ _, ?_⟩; rintro _ _ ⟨rfl, rfl⟩) | refine ⟨_, get_map' hx, ?_⟩ | refine ⟨_, get_map' hy, ?_⟩ | fail)) | ((with_reducible refine isLoop ?_) <;> (first | (refine ⟨[0, 1, 5], [], fun st => ∃ (k : Nat) (i : Int), i = k ∧ k ≤ a.length ∧ k ≤ b.length ∧ o = cmpL (a.drop k) (b.drop k) ∧ st = ⟨[(0, .d (.sl false (a.map valD))), (1, .d (.sl false (b.map valD))), (5, .d (.i .i64 i))], []⟩, fun st => match look 5 st.env with | some (.d (.i _ i)) => a.length - i.toNat | _ => 0, rfl, ⟨0, _, rfl, Nat.zero_le _, Nat.zero_le _, ho, rfl⟩, ?_⟩; rintro st ⟨k, i, rfl, hka, hkb, hu, rfl⟩) | refine ⟨_, get_map' hx, ?_⟩ | refine ⟨_, get_map' hy, ?_⟩ | fail)) | ((with_reducible refine isCut ?_) <;> (first | refine ⟨⟨none⟩, ?_⟩)) | ((first | with_reducible refine isEx ?_ | with_reducible refine isAnd ?_ | with_reducible refine isOr ?_) <;> (first | refine ⟨_, get_map' hx, ?_⟩ | refine ⟨_, get_map' hy, ?_⟩ | ((with_reducible refine isGet (xs := a.map valD) (i := ((k : Nat) : Int).toNat) ?_); obtain ⟨x, hx⟩ := get_ex (ss := a) (k := k) (lt_of_dec (by assumption)); refine ⟨_, get_map' hx, ?_⟩) | ((with_reducible refine isGet (xs := b.map valD) (i := ((k : Nat) : Int).toNat) ?_); obtain ⟨y, hy⟩ := get_ex (ss := b) (k := k) (lt_of_dec (by assumption)); refine ⟨_, get_map' hy, ?_⟩) | ((with_reducible refine isSmall ?_) <;> (refine ⟨?_, ?_⟩; kernel_rfl)) | refine ⟨rfl, ?_⟩ | refine ⟨Int.natCast_nonneg _, ?_⟩)) | with_reducible refine Both.mk ?_ ?_ | rintro _ rfl | exact rfl | (split <;> (rename_i h; first | (simp only [beq_self_eq_true, eq_self, decide_true, Bool.not_true, Bool.false_eq_true] at h; done) | (try rw [h])))))
  all_goals (conv => whnf)
  all_goals first
    | (rw [hu, cmpL_here hx hy (of_decide_eq_false (not_ok' h))]; exact ⟨rfl, rfl⟩)
    | exact ⟨⟨k + 1, _, step_up (get_lt hx) ha, get_lt hx, get_lt hy, hu.trans (cmpL_next hx hy (of_decide_eq_true (not_ok h))), rfl⟩, mu_up (get_lt hx) ha⟩
    | (clear ho; simp only [decide_eq_true_eq, decide_eq_false_iff_not, List.length_map] at *
       rw [hu, cmpL_lt (by omega) (by omega)]; exact ⟨rfl, trivial⟩)
    | (clear ho; simp only [decide_eq_true_eq, decide_eq_false_iff_not, List.length_map] at *
       rw [hu, cmpL_gt (by omega) (by omega)]; exact ⟨rfl, trivial⟩)
    | (clear ho; simp only [decide_eq_true_eq, decide_eq_false_iff_not, List.length_map] at *
       rw [hu, cmpL_eq (by omega) (by omega)]; exact ⟨rfl, trivial⟩)
    | trace_state
set_option maxHeartbeats 1000000 in
theorem compareFunc (a b : List Val) (ha : a.length ≤ maxLen) (hb : b.length ≤ maxLen) : Ent Tryz.prog 199 [.d (.sl false (a.map valD)), .d (.sl false (b.map valD)), .fn 200 []] [] (.d (.i .i64 (cmpL a b))) [] := by
  obtain ⟨o, ho⟩ : ∃ o, o = cmpL a b := ⟨_, rfl⟩
  rw [← ho]
  have hla : (a.map valD).length = a.length := List.length_map ..
  have hlb : (b.map valD).length = b.length := List.length_map ..
  refine ent_of tok mixed (f := 199) Tryz.func199 (by kernel_rfl) (keep := false) ?_
  repeat' ((conv => whnf) <;> (first | ((with_reducible refine isCall ?_) <;> (first | (refine ⟨_, compareValue _ _, ?_⟩; rintro _ _ ⟨rfl, rfl⟩) | refine ⟨_, get_map' hx, ?_⟩ | refine ⟨_, get_map' hy, ?_⟩ | fail)) | ((with_reducible refine isLoop ?_) <;> (first | (refine ⟨[0, 1, 2, 11, 12, 13], [], fun st => ∃ (k : Nat) (i : Int), i = k ∧ k ≤ a.length ∧ k ≤ b.length ∧ o = cmpL (a.drop k) (b.drop k) ∧ st = ⟨[(0, .d (.sl false (a.map valD))), (1, .d (.sl false (b.map valD))), (2, .fn 200 []), (11, .d (.sl false (a.map valD))), (12, .d (.i .i64 ((a.map valD).length : Int))), (13, .d (.i .i64 i))], []⟩, fun st => match look 13 st.env with | some (.d (.i _ i)) => a.length - i.toNat | _ => 0, rfl, ⟨0, _, rfl, Nat.zero_le _, Nat.zero_le _, ho, rfl⟩, ?_⟩; rintro st ⟨k, i, rfl, hka, hkb, hu, rfl⟩) | refine ⟨_, get_map' hx, ?_⟩ | refine ⟨_, get_map' hy, ?_⟩ | fail)) | ((with_reducible refine isCut ?_) <;> (first | refine ⟨⟨none⟩, ?_⟩)) | ((first | with_reducible refine isEx ?_ | with_reducible refine isAnd ?_ | with_reducible refine isOr ?_) <;> (first | refine ⟨_, get_map' hx, ?_⟩ | refine ⟨_, get_map' hy, ?_⟩ | ((with_reducible refine isGet (xs := a.map valD) (i := ((k : Nat) : Int).toNat) ?_); obtain ⟨x, hx⟩ := get_ex (ss := a) (k := k) (lt_of_dec (by assumption)); refine ⟨_, get_map' hx, ?_⟩) | ((with_reducible refine isGet (xs := b.map valD) (i := ((k : Nat) : Int).toNat) ?_); obtain ⟨y, hy⟩ := get_ex (ss := b) (k := k) (by have := of_decide_eq_false (by assumption : decide ((k : Int) ≥ ((b.map valD).length : Int)) = false); omega); refine ⟨_, get_map' hy, ?_⟩) | ((with_reducible refine isSmall ?_) <;> (refine ⟨?_, ?_⟩; kernel_rfl)) | refine ⟨rfl, ?_⟩ | refine ⟨Int.natCast_nonneg _, ?_⟩)) | with_reducible refine Both.mk ?_ ?_ | rintro _ rfl | exact rfl | (split <;> (rename_i h; first | (simp only [beq_self_eq_true, eq_self, decide_true, Bool.not_true, Bool.false_eq_true] at h; done) | (try rw [h])))))
  all_goals (conv => whnf)
  all_goals first
    | (rw [hu, cmpL_here hx hy (of_decide_eq_false (not_ok' h))]; exact ⟨rfl, rfl⟩)
    | exact ⟨⟨k + 1, _, step_up (get_lt hx) ha, get_lt hx, get_lt hy, hu.trans (cmpL_next hx hy (of_decide_eq_true (not_ok h))), rfl⟩, mu_up (get_lt hx) ha⟩
    | (clear ho; simp only [decide_eq_true_eq, decide_eq_false_iff_not, List.length_map] at *
       rw [hu, cmpL_lt (by omega) (by omega)]; exact ⟨rfl, trivial⟩)
    | (clear ho; simp only [decide_eq_true_eq, decide_eq_false_iff_not, List.length_map] at *
       rw [hu, cmpL_gt (by omega) (by omega)]; exact ⟨rfl, trivial⟩)
    | (clear ho; simp only [decide_eq_true_eq, decide_eq_false_iff_not, List.length_map] at *
       rw [hu, cmpL_eq (by omega) (by omega)]; exact ⟨rfl, trivial⟩)
    | trace_state
theorem implCompare (a b : List Val) (ha : a.length ≤ maxLen) (hb : b.length ≤ maxLen) : Ent Tryz.prog 173 [.d (.sl false (a.map valD)), .d (.sl false (b.map valD))] [] (.d (.i .i64 (cmpL a b))) [] := by
  have c1 := compareFunc a b ha hb
  refine ent_of tok mixed (f := 173) Tryz.func173 (by kernel_rfl) (keep := false) ?_
  repeat' ((conv => whnf) <;> (first | ((with_reducible refine isCall ?_) <;> (first | (refine ⟨_, c1, ?_⟩; rintro _ _ ⟨rfl, rfl⟩) | fail)) | ((with_reducible refine isCut ?_) <;> (first | refine ⟨⟨none⟩, ?_⟩)) | ((first | with_reducible refine isEx ?_ | with_reducible refine isAnd ?_ | with_reducible refine isOr ?_) <;> (first | ((with_reducible refine isSmall ?_) <;> (refine ⟨?_, ?_⟩; kernel_rfl)) | refine ⟨rfl, ?_⟩ | refine ⟨Int.natCast_nonneg _, ?_⟩)) | with_reducible refine Both.mk ?_ ?_ | rintro _ rfl | exact rfl | (split <;> (rename_i h; first | (simp only [beq_self_eq_true, eq_self, decide_true, Bool.not_true, Bool.false_eq_true] at h; done) | (try rw [h])))))
end Go.Pm.Tryz
namespace Go.Pm.Tryz
open Go Go.Proofs
set_option linter.unusedVariables false
set_option linter.unusedSimpArgs false
set_option maxRecDepth 100000
set_option maxHeartbeats 1000000 in
theorem specPick (row : List Val) (cols : List Int) (hl : cols.length ≤ 1000) (hi : inRow row cols) : Ent Tryz.prog 162 [.d (.sl false (row.map valD)), .d (.sl false (cols.map i64D))] [] (.d (.sl false ((pickM row cols).map valD))) [] := by
  obtain ⟨o, ho⟩ : ∃ o, o = pickM row cols := ⟨_, rfl⟩
  rw [← ho]
  refine ent_of tok mixed (f := 162) Tryz.func162 (by kernel_rfl) (keep := false) ?_
  repeat' ((conv => whnf) <;> (first | ((with_reducible refine isCall ?_) <;> (first | refine ⟨_, get_map' hv, ?_⟩ | refine ⟨hyr.1, ?_⟩ | (refine ⟨⟨by decide, rfl, rfl, room_add (by rw [hx, List.length_map, pickM_len, List.length_take]; omega) (by decide)⟩, ?_⟩) | fail)) | ((with_reducible refine isLoop ?_) <;> (first | (refine ⟨[0, 1, 5, 6], [10007], fun st => ∃ (k : Nat) (i : Int) (xs : List D), i = k ∧ k ≤ cols.length ∧ xs = (pickM row (cols.take k)).map valD ∧ st = ⟨[(0, .d (.sl false (row.map valD))), (1, .d (.sl false (cols.map i64D))), (5, .own 10007), (6, .d (.i .i64 i))], [(10007, .arr 3 false xs)]⟩, fun st => match look 6 st.env with | some (.d (.i _ i)) => cols.length - i.toNat | _ => 0, rfl, ⟨0, _, _, rfl, Nat.zero_le _, rfl, rfl⟩, ?_⟩; rintro st ⟨k, i, xs, rfl, hk, hx, rfl⟩) | refine ⟨_, get_map' hv, ?_⟩ | refine ⟨hyr.1, ?_⟩ | (refine ⟨⟨by decide, rfl, rfl, room_add (by rw [hx, List.length_map, pickM_len, List.length_take]; omega) (by decide)⟩, ?_⟩) | fail)) | ((with_reducible refine isCut ?_) <;> (first | refine ⟨⟨none⟩, ?_⟩)) | ((first | with_reducible refine isEx ?_ | with_reducible refine isAnd ?_ | with_reducible refine isOr ?_) <;> (first | refine ⟨_, get_map' hv, ?_⟩ | refine ⟨hyr.1, ?_⟩ | ((with_reducible refine isGet (xs := cols.map i64D) (i := ((k : Nat) : Int).toNat) ?_); obtain ⟨y, hy⟩ := get_ex (ss := cols) (k := k) (lt_of_dec (by assumption)); have hyr := hi y (get_mem hy); obtain ⟨v, hv⟩ := get_ex (ss := row) (k := y.toNat) (by omega); refine ⟨_, get_map' hy, ?_⟩) | (refine ⟨⟨by decide, rfl, rfl, room_add (by rw [hx, List.length_map, pickM_len, List.length_take]; omega) (by decide)⟩, ?_⟩) | ((with_reducible refine isSmall ?_) <;> (refine ⟨?_, ?_⟩; kernel_rfl)) | refine ⟨rfl, ?_⟩ | refine ⟨Int.natCast_nonneg _, ?_⟩)) | with_reducible refine Both.mk ?_ ?_ | rintro _ rfl | exact rfl | (split <;> (rename_i h; first | (simp only [beq_self_eq_true, eq_self, decide_true, Bool.not_true, Bool.false_eq_true] at h; done) | (try rw [h])))))
  all_goals (conv => whnf)
  · exact ⟨⟨k + 1, _, _, step_up (n := 1000) (by have := get_lt hy; omega) (Nat.le_of_ble_eq_true rfl), get_lt hy, by rw [pick_up hy hv, List.map_append, ← hx]; rfl, rfl⟩, mu_up (get_lt hy) (Nat.le_trans hl (Nat.le_of_ble_eq_true rfl))⟩
  · have e : k = cols.length := by have := of_decide_eq_false h; rw [List.length_map] at this; omega
    rw [e, List.take_length] at hx
    rw [ho, ← hx]; exact ⟨rfl, rfl⟩
theorem specKey (s : Schema) (row : List Val) (hl : s.keys.length ≤ 1000) (hi : inRow row s.keys) : Ent Tryz.prog 135 [.d (schemaD s), .d (.sl false (row.map valD))] [] (.d (.sl false ((pickM row s.keys).map valD))) [] := by
  have c1 := specPick row s.keys hl hi
  refine ent_of tok mixed (f := 135) Tryz.func135 (by kernel_rfl) (keep := false) ?_
  repeat' ((conv => whnf) <;> (first | ((with_reducible refine isCall ?_) <;> (first | (refine ⟨_, c1, ?_⟩; rintro _ _ ⟨rfl, rfl⟩) | fail)) | ((with_reducible refine isCut ?_) <;> (first | refine ⟨⟨none⟩, ?_⟩)) | ((first | with_reducible refine isEx ?_ | with_reducible refine isAnd ?_ | with_reducible refine isOr ?_) <;> (first | ((with_reducible refine isSmall ?_) <;> (refine ⟨?_, ?_⟩; kernel_rfl)) | refine ⟨rfl, ?_⟩ | refine ⟨Int.natCast_nonneg _, ?_⟩)) | with_reducible refine Both.mk ?_ ?_ | rintro _ rfl | exact rfl | (split <;> (rename_i h; first | (simp only [beq_self_eq_true, eq_self, decide_true, Bool.not_true, Bool.false_eq_true] at h; done) | (try rw [h])))))
theorem implKey (s : Schema) (row : List Val) (hl : s.keys.length ≤ 1000) (hi : inRow row s.keys) : Ent Tryz.prog 174 [.d (schemaD s), .d (.sl false (row.map valD))] [] (.d (.sl false ((pickM row s.keys).map valD))) [] := by
  have c1 := implPick row s.keys hl hi
  refine ent_of tok mixed (f := 174) Tryz.func174 (by kernel_rfl) (keep := false) ?_
  repeat' ((conv => whnf) <;> (first | ((with_reducible refine isCall ?_) <;> (first | (refine ⟨_, c1, ?_⟩; rintro _ _ ⟨rfl, rfl⟩) | fail)) | ((with_reducible refine isCut ?_) <;> (first | refine ⟨⟨none⟩, ?_⟩)) | ((first | with_reducible refine isEx ?_ | with_reducible refine isAnd ?_ | with_reducible refine isOr ?_) <;> (first | ((with_reducible refine isSmall ?_) <;> (refine ⟨?_, ?_⟩; kernel_rfl)) | refine ⟨rfl, ?_⟩ | refine ⟨Int.natCast_nonneg _, ?_⟩)) | with_reducible refine Both.mk ?_ ?_ | rintro _ rfl | exact rfl | (split <;> (rename_i h; first | (simp only [beq_self_eq_true, eq_self, decide_true, Bool.not_true, Bool.false_eq_true] at h; done) | (try rw [h])))))
end Go.Pm.Tryz
namespace Go.Pm.Tryz
open Go Go.Proofs
set_option linter.unusedVariables false
set_option linter.unusedSimpArgs false
set_option maxRecDepth 100000
def noNull (vs : List Val) : Prop := ∀ v, v ∈ vs → ¬ v.kind = 0
def clashX (x : Idx) (a b : List Val) : Prop := x.uniq = true ∧ noNull (pickM a x.cols) ∧ pickM a x.cols = pickM b x.cols
def clashP (is : List Idx) (a b : List Val) : Prop := ∃ x, x ∈ is ∧ clashX x a b
theorem clash_symm {is : List Idx} {a b : List Val} : clashP is a b ↔ clashP is b a := by
  constructor <;> (rintro ⟨x, hx, h1, h2, h3⟩; exact ⟨x, hx, h1, h3 ▸ h2, h3.symm⟩)
def idxIn (is : List Idx) (a : List Val) : Prop := ∀ x, x ∈ is → x.cols.length ≤ 1000 ∧ inRow a x.cols
def nullB (vs : List Val) : Bool := vs.any fun v => decide (v.kind = 0)
theorem nullB_iff {vs : List Val} : nullB vs = false ↔ noNull vs := by
  simp only [nullB, List.any_eq_false, decide_eq_true_eq, noNull]
theorem null_up {vs : List Val} {m : Nat} {v : Val} (h : vs[m]? = some v) : nullB (vs.take (m + 1)) = (nullB (vs.take m) || decide (v.kind = 0)) := by
  simp only [nullB, take_up h, List.any_append, List.any_cons, List.any_nil, Bool.or_false]
set_option maxHeartbeats 4000000 in
theorem specClash (s : Schema) (a b : List Val) (hi : s.idxs.length ≤ maxLen) (ha : idxIn s.idxs a) (hb : idxIn s.idxs b) : Ent Tryz.prog 140 [.d (schemaD s), .d (.sl false (a.map valD)), .d (.sl false (b.map valD))] [] (.d (.b (dec (clashP s.idxs a b)))) [] := by
  obtain ⟨o, ho⟩ : ∃ o, o = dec (clashP s.idxs a b) := ⟨_, rfl⟩
  rw [← ho]
  have hil : (s.idxs.map idxD).length = s.idxs.length := List.length_map ..
  refine ent_of tok mixed (f := 140) Tryz.func140 (by kernel_rfl) (keep := false) ?_
  repeat' ((conv => whnf) <;> (first | ((with_reducible refine isCall ?_) <;> (first | (refine ⟨_, c1, ?_⟩; rintro _ _ ⟨rfl, rfl⟩) | (refine ⟨_, c2, ?_⟩; rintro _ _ ⟨rfl, rfl⟩) | (refine ⟨_, c3, ?_⟩; rintro _ _ ⟨rfl, rfl⟩) | refine ⟨_, get_map' hx, ?_⟩ | refine ⟨_, get_map' hy, ?_⟩ | fail)) | ((with_reducible refine isLoop ?_) <;> (first | (refine ⟨[1, 2, 3, 7], [10003], fun st => ∃ (k : Nat) (i : Int), i = k ∧ k ≤ s.idxs.length ∧ (∀ x, x ∈ s.idxs.take k → ¬ clashX x a b) ∧ st = ⟨[(1, .d (.sl false (a.map valD))), (2, .d (.sl false (b.map valD))), (3, .ptr 10003 0), (7, .d (.i .i64 i))], [(10003, .var (schC s))]⟩, fun st => match look 7 st.env with | some (.d (.i _ i)) => s.idxs.length - i.toNat | _ => 0, rfl, ⟨0, _, rfl, Nat.zero_le _, (fun x hx => by simp at hx), rfl⟩, ?_⟩; rintro st ⟨k, i, rfl, hk, hv, rfl⟩) | (refine ⟨[1, 2, 3, 7, 8, 9, 10], [10003], fun st => ∃ (m : Nat) (i : Int) (u : Bool), i = m ∧ m ≤ (pickM a x.cols).length ∧ x.uniq = true ∧ u = nullB ((pickM a x.cols).take m) ∧ st = ⟨[(1, .d (.sl false (a.map valD))), (2, .d (.sl false (b.map valD))), (3, .ptr 10003 0), (7, .d (.i .i64 k)), (8, .d (.sl false ((pickM a x.cols).map valD))), (9, .d (.b u)), (10, .d (.i .i64 i))], [(10003, .var (schC s))]⟩, fun st => match look 10 st.env with | some (.d (.i _ i)) => (pickM a x.cols).length - i.toNat | _ => 0, rfl, ⟨0, _, _, rfl, Nat.zero_le _, not_ok (by assumption), rfl, rfl⟩, ?_⟩; rintro st ⟨m, i, u, rfl, hm, hun, hu, rfl⟩) | refine ⟨_, get_map' hx, ?_⟩ | refine ⟨_, get_map' hy, ?_⟩ | fail)) | ((with_reducible refine isCut ?_) <;> (first | refine ⟨⟨none⟩, ?_⟩)) | ((first | with_reducible refine isEx ?_ | with_reducible refine isAnd ?_ | with_reducible refine isOr ?_) <;> (first | refine ⟨_, get_map' hx, ?_⟩ | refine ⟨_, get_map' hy, ?_⟩ | ((with_reducible refine isGet (xs := s.idxs.map idxD) (i := ((k : Nat) : Int).toNat) ?_); obtain ⟨x, hx⟩ := get_ex (ss := s.idxs) (k := k) (lt_of_dec (by assumption)); have c1 := specPick a x.cols (ha x (get_mem hx)).1 (ha x (get_mem hx)).2; have c2 := specPick b x.cols (hb x (get_mem hx)).1 (hb x (get_mem hx)).2; have hpl : (pickM a x.cols).length ≤ maxLen := (by rw [pickM_len]; exact Nat.le_trans (ha x (get_mem hx)).1 (Nat.le_of_ble_eq_true rfl)); have c3 := l02Compare (pickM a x.cols) (pickM b x.cols) hpl (by rw [pickM_len]; exact Nat.le_trans (hb x (get_mem hx)).1 (Nat.le_of_ble_eq_true rfl)); refine ⟨_, get_map' hx, ?_⟩) | ((with_reducible refine isGet (xs := (pickM a x.cols).map valD) (i := ((m : Nat) : Int).toNat) ?_); obtain ⟨y, hy⟩ := get_ex (ss := pickM a x.cols) (k := m) (lt_of_dec (by assumption)); refine ⟨_, get_map' hy, ?_⟩) | ((with_reducible refine isSmall ?_) <;> (refine ⟨?_, ?_⟩; kernel_rfl)) | refine ⟨rfl, ?_⟩ | refine ⟨Int.natCast_nonneg _, ?_⟩)) | with_reducible refine Both.mk ?_ ?_ | rintro _ rfl | exact rfl | (split <;> (rename_i h; first | (simp only [beq_self_eq_true, eq_self, decide_true, Bool.not_true, Bool.false_eq_true] at h; done) | (try rw [h])))))
  all_goals (conv => whnf)
  all_goals first
    | exact ⟨⟨k + 1, _, step_up (get_lt hx) hi, get_lt hx, take_all hv hx (fun hc => Bool.noConfusion ((not_ok' h).symm.trans hc.1 : false = true)), rfl⟩, mu_up (get_lt hx) hi⟩
    | (obtain ⟨y, hy⟩ := get_ex (ss := pickM a x.cols) (k := m) (lt_of_dec (by assumption))
       exact ⟨⟨m + 1, _, _, step_up (get_lt hy) hpl, get_lt hy, hun, (by rw [null_up hy, ← hu]; rfl), rfl⟩, mu_up (get_lt hy) hpl⟩)
    | exact ⟨⟨m + 1, _, _, step_up (get_lt hy) hpl, get_lt hy, hun, (by rw [null_up hy, ← hu]; rfl), rfl⟩, mu_up (get_lt hy) hpl⟩
    | (have e : m = (pickM a x.cols).length := by have := of_decide_eq_false (by assumption : decide ((m : Int) < (((pickM a x.cols).map valD).length : Int)) = false); rw [List.length_map] at this; omega
       rw [e, List.take_length] at hu
       first
         | exact ret_true ho ⟨x, get_mem hx, hun, nullB_iff.1 (hu.symm.trans (not_ok' (by assumption : (!u) = true))), cmpL_zero.1 (of_decide_eq_true h)⟩
         | exact ⟨⟨k + 1, _, step_up (get_lt hx) hi, get_lt hx, take_all hv hx (fun hc => of_decide_eq_false h (cmpL_zero.2 hc.2.2)), rfl⟩, mu_up (get_lt hx) hi⟩
         | exact ⟨⟨k + 1, _, step_up (get_lt hx) hi, get_lt hx, take_all hv hx (fun hc => Bool.noConfusion ((not_ok h).symm.trans (hu.trans (nullB_iff.2 hc.2.1)) : true = false)), rfl⟩, mu_up (get_lt hx) hi⟩)
    | (have e : k = s.idxs.length := by have := of_decide_eq_false h; omega
       rw [e, List.take_length] at hv
       exact ret_false ho fun ⟨x, hx, hc⟩ => hv x hx hc)
    | trace_state
theorem val_null {v : Val} (h : valueP v) : v = ⟨0, 0, []⟩ ↔ v.kind = 0 := by
  constructor
  · intro e; rw [e]
  · intro e
    rcases h with ⟨_, h2, h3⟩ | ⟨h1, _⟩ | ⟨h1, _⟩ | ⟨h1, _⟩
    · rcases v with ⟨k, n, t⟩; simp only at e h2 h3; rw [e, h2, h3]
    all_goals omega
theorem eqv_true {w x : Val} (h : (decide (w.kind = x.kind) && (decide (w.n = x.n) && (decide (w.text = x.text) && true))) = true) : w = x := by
  simp only [Bool.and_true, Bool.and_eq_true, decide_eq_true_eq] at h
  rcases w with ⟨k, n, t⟩
  rcases x with ⟨k', n', t'⟩
  obtain ⟨h1, h2, h3⟩ := h
  simp only at h1 h2 h3
  rw [h1, h2, h3]
theorem eqv_false {w x : Val} (h : (decide (w.kind = x.kind) && (decide (w.n = x.n) && (decide (w.text = x.text) && true))) = false) : ¬ w = x := by
  intro e
  subst e
  simp at h
set_option maxHeartbeats 1000000 in
theorem indexVal (vs : List Val) (hl : vs.length ≤ maxLen) (w : Val) : EntQ Tryz.prog 217 [.d (.sl false (vs.map valD)), .d (valD w)] [] (fun R O => ∃ n : Int, R = .d (.i .i64 n) ∧ O = [] ∧ decide (n ≥ 0) = dec (w ∈ vs)) := by
  refine ent_of tok mixed (f := 217) Tryz.func217 (by kernel_rfl) (keep := false) ?_
  repeat' ((conv => whnf) <;> (first | ((with_reducible refine isCall ?_) <;> (first | refine ⟨_, get_map' hx, ?_⟩ | fail)) | ((with_reducible refine isLoop ?_) <;> (first | (refine ⟨[0, 3, 7, 8], [10003], fun st => ∃ (k : Nat) (n : Int), n = k ∧ k ≤ vs.length ∧ (∀ i, i ∈ vs.take k → ¬ i = w) ∧ st = ⟨[(0, .d (.sl false (vs.map valD))), (3, .ptr 10003 0), (7, .d (.i .i64 ((vs.map valD).length : Int))), (8, .d (.i .i64 n))], [(10003, .var (AV.d (valD w)).cells)]⟩, fun st => match look 8 st.env with | some (.d (.i _ n)) => vs.length - n.toNat | _ => 0, rfl, ⟨0, _, rfl, Nat.zero_le _, (fun x hx => by simp at hx), rfl⟩, ?_⟩; rintro st ⟨k, n, rfl, hk, hv, rfl⟩) | refine ⟨_, get_map' hx, ?_⟩ | fail)) | ((with_reducible refine isCut ?_) <;> (first | refine ⟨⟨none⟩, ?_⟩)) | ((first | with_reducible refine isEx ?_ | with_reducible refine isAnd ?_ | with_reducible refine isOr ?_) <;> (first | refine ⟨_, get_map' hx, ?_⟩ | ((with_reducible refine isGet (xs := vs.map valD) (i := ((k : Nat) : Int).toNat) ?_); obtain ⟨x, hx⟩ := get_ex (ss := vs) (k := k) (lt_of_dec (by assumption)); refine ⟨_, get_map' hx, ?_⟩) | ((with_reducible refine isSmall ?_) <;> (refine ⟨?_, ?_⟩; kernel_rfl)) | refine ⟨rfl, ?_⟩ | refine ⟨Int.natCast_nonneg _, ?_⟩)) | with_reducible refine Both.mk ?_ ?_ | rintro _ rfl | exact rfl | (split <;> (rename_i h; first | (simp only [beq_self_eq_true, eq_self, decide_true, Bool.not_true, Bool.false_eq_true] at h; done) | (try rw [h])))))
  all_goals (conv => whnf)
  · refine ⟨_, rfl, rfl, ?_⟩
    rw [dec_true (eqv_true h ▸ get_mem hx)]
    exact decide_eq_true (Int.natCast_nonneg k)
  · exact ⟨⟨k + 1, _, step_up (get_lt hx) hl, get_lt hx, any_no hv hx (fun e => eqv_false h e.symm), rfl⟩, mu_up (get_lt hx) hl⟩
  · refine ⟨_, rfl, rfl, ?_⟩
    have e : k = vs.length := by have := of_decide_eq_false h; rw [List.length_map] at this; omega
    rw [e, List.take_length] at hv
    rw [dec_false fun hm => hv w hm rfl]; rfl
theorem containsVal (vs : List Val) (hl : vs.length ≤ maxLen) (w : Val) : Ent Tryz.prog 204 [.d (.sl false (vs.map valD)), .d (valD w)] [] (.d (.b (dec (w ∈ vs)))) [] := by
  have c1 := indexVal vs hl w
  refine ent_of tok mixed (f := 204) Tryz.func204 (by kernel_rfl) (keep := false) ?_
  repeat' ((conv => whnf) <;> (first | ((with_reducible refine isCall ?_) <;> (first | (refine ⟨_, c1, ?_⟩; rintro _ _ ⟨n, rfl, rfl, hn⟩) | fail)) | ((with_reducible refine isCut ?_) <;> (first | refine ⟨⟨none⟩, ?_⟩)) | ((first | with_reducible refine isEx ?_ | with_reducible refine isAnd ?_ | with_reducible refine isOr ?_) <;> (first | ((with_reducible refine isSmall ?_) <;> (refine ⟨?_, ?_⟩; kernel_rfl)) | refine ⟨rfl, ?_⟩ | refine ⟨Int.natCast_nonneg _, ?_⟩)) | with_reducible refine Both.mk ?_ ?_ | rintro _ rfl | exact rfl | (split <;> (rename_i h; first | (simp only [beq_self_eq_true, eq_self, decide_true, Bool.not_true, Bool.false_eq_true] at h; done) | (try rw [h])))))
  all_goals (conv => whnf)
  all_goals (rw [hn]; exact ⟨rfl, rfl⟩)
set_option maxHeartbeats 1000000 in
theorem equalVals (a b : List Val) (ha : a.length ≤ maxLen) : Ent Tryz.prog 205 [.d (.sl false (a.map valD)), .d (.sl false (b.map valD))] [] (.d (.b (dec (a = b)))) [] := by
  obtain ⟨o, ho⟩ : ∃ o, o = dec (a = b) := ⟨_, rfl⟩
  rw [← ho]
  have hla : (a.map valD).length = a.length := List.length_map ..
  have hlb : (b.map valD).length = b.length := List.length_map ..
  refine ent_of tok mixed (f := 205) Tryz.func205 (by kernel_rfl) (keep := false) ?_
  repeat' ((conv => whnf) <;> (first | ((with_reducible refine isCall ?_) <;> (first | refine ⟨_, get_map' hx, ?_⟩ | refine ⟨_, get_map' hy, ?_⟩ | fail)) | ((with_reducible refine isLoop ?_) <;> (first | (refine ⟨[0, 1, 12, 13], [], fun st => ∃ (k : Nat) (n : Int), n = k ∧ k ≤ a.length ∧ a.length = b.length ∧ a.take k = b.take k ∧ st = ⟨[(0, .d (.sl false (a.map valD))), (1, .d (.sl false (b.map valD))), (12, .d (.i .i64 ((a.map valD).length : Int))), (13, .d (.i .i64 n))], []⟩, fun st => match look 13 st.env with | some (.d (.i _ n)) => a.length - n.toNat | _ => 0, rfl, ⟨0, _, rfl, Nat.zero_le _, (by have := of_decide_eq_true (not_ok (by assumption)); omega), rfl, rfl⟩, ?_⟩; rintro st ⟨k, n, rfl, hk, heq, hv, rfl⟩) | refine ⟨_, get_map' hx, ?_⟩ | refine ⟨_, get_map' hy, ?_⟩ | fail)) | ((with_reducible refine isCut ?_) <;> (first | refine ⟨⟨none⟩, ?_⟩)) | ((first | with_reducible refine isEx ?_ | with_reducible refine isAnd ?_ | with_reducible refine isOr ?_) <;> (first | refine ⟨_, get_map' hx, ?_⟩ | refine ⟨_, get_map' hy, ?_⟩ | ((with_reducible refine isGet (xs := a.map valD) (i := ((k : Nat) : Int).toNat) ?_); obtain ⟨x, hx⟩ := get_ex (ss := a) (k := k) (lt_of_dec (by assumption)); refine ⟨_, get_map' hx, ?_⟩) | ((with_reducible refine isGet (xs := b.map valD) (i := ((k : Nat) : Int).toNat) ?_); obtain ⟨y, hy⟩ := get_ex (ss := b) (k := k) (by have := lt_of_dec (ss := a) (k := k) (f := valD) (by assumption); omega); refine ⟨_, get_map' hy, ?_⟩) | ((with_reducible refine isSmall ?_) <;> (refine ⟨?_, ?_⟩; kernel_rfl)) | refine ⟨rfl, ?_⟩ | refine ⟨Int.natCast_nonneg _, ?_⟩)) | with_reducible refine Both.mk ?_ ?_ | rintro _ rfl | exact rfl | (split <;> (rename_i h; first | (simp only [beq_self_eq_true, eq_self, decide_true, Bool.not_true, Bool.false_eq_true] at h; done) | (try rw [h])))))
  all_goals (conv => whnf)
  all_goals first
    | exact ret_false ho fun e => of_decide_eq_false (not_ok' h) (by rw [hla, hlb, e])
    | exact ret_false ho fun e => eqv_false (not_ok' h) (by rw [e, hy] at hx; cases hx; rfl)
    | exact ⟨⟨k + 1, _, step_up (get_lt hx) ha, get_lt hx, heq, (by rw [take_up hx, take_up hy, hv, eqv_true (not_ok h)]), rfl⟩, mu_up (get_lt hx) ha⟩
    | (have e : k = a.length := by have := of_decide_eq_false h; omega
       rw [e, List.take_length, heq, List.take_length] at hv
       exact ret_true ho hv)
    | trace_state
theorem pick_mem {row : List Val} {cols : List Int} (h : inRow row cols) {v : Val} (hv : v ∈ pickM row cols) : v ∈ row := by
  obtain ⟨c, hc, rfl⟩ := List.mem_map.1 hv
  have := h c hc
  have e : row.getD c.toNat ⟨0, 0, []⟩ = row[c.toNat]'(by omega) := by rw [List.getD_eq_getElem?_getD, List.getElem?_eq_getElem (by omega)]; rfl
  rw [e]; exact List.getElem_mem _
theorem no_null {row : List Val} {cols : List Int} (h : inRow row cols) (hp : ∀ v, v ∈ row → valueP v) : ¬ (⟨0, 0, []⟩ : Val) ∈ pickM row cols ↔ noNull (pickM row cols) := by
  constructor
  · intro hn v hv hk
    exact hn ((val_null (hp v (pick_mem h hv))).2 hk ▸ hv)
  · exact fun hn hm => hn _ hm rfl
set_option maxHeartbeats 1000000 in
theorem clashOne (x : Idx) (a b : List Val) (hc : x.cols.length ≤ 1000) (ha : inRow a x.cols) (hb : inRow b x.cols) (hp : ∀ v, v ∈ a → valueP v) :
    Ent Tryz.prog 203 [.d (idxD x), .ptr 0 0, .ptr 1 0] [.var [.d (.sl false (a.map valD))], .var [.d (.sl false (b.map valD))]] (.d (.b (dec (clashX x a b)))) [.var [.d (.sl false (a.map valD))], .var [.d (.sl false (b.map valD))]] := by
  obtain ⟨o, ho⟩ : ∃ o, o = dec (clashX x a b) := ⟨_, rfl⟩
  rw [← ho]
  have hpl : (pickM a x.cols).length ≤ maxLen := by rw [pickM_len]; exact Nat.le_trans hc (Nat.le_of_ble_eq_true rfl)
  have c1 := implPick a x.cols hc ha
  have c2 := implPick b x.cols hc hb
  have c3 := containsVal (pickM a x.cols) hpl ⟨0, 0, []⟩
  have c4 := equalVals (pickM a x.cols) (pickM b x.cols) hpl
  have hn := no_null ha hp
  refine ent_of tok mixed (f := 203) Tryz.func203 (by kernel_rfl) (keep := false) ?_
  repeat' ((conv => whnf) <;> (first | ((with_reducible refine isCall ?_) <;> (first | (refine ⟨_, c1, ?_⟩; rintro _ _ ⟨rfl, rfl⟩) | (refine ⟨_, c2, ?_⟩; rintro _ _ ⟨rfl, rfl⟩) | (refine ⟨_, c3, ?_⟩; rintro _ _ ⟨rfl, rfl⟩) | (refine ⟨_, c4, ?_⟩; rintro _ _ ⟨rfl, rfl⟩) | fail)) | ((with_reducible refine isCut ?_) <;> (first | refine ⟨⟨none⟩, ?_⟩)) | ((first | with_reducible refine isEx ?_ | with_reducible refine isAnd ?_ | with_reducible refine isOr ?_) <;> (first | ((with_reducible refine isSmall ?_) <;> (refine ⟨?_, ?_⟩; kernel_rfl)) | refine ⟨rfl, ?_⟩ | refine ⟨Int.natCast_nonneg _, ?_⟩)) | with_reducible refine Both.mk ?_ ?_ | rintro _ rfl | exact rfl | (split <;> (rename_i h; first | (simp only [beq_self_eq_true, eq_self, decide_true, Bool.not_true, Bool.false_eq_true] at h; done) | (try rw [h])))))
  all_goals (conv => whnf)
  all_goals first
    | exact ret_false ho fun hP => Bool.noConfusion (h.symm.trans hP.1 : false = true)
    | exact ret_false ho fun hP => hn.2 hP.2.1 (of_dec (not_ok h))
    | exact ret_b ho ⟨fun e => ⟨by assumption, hn.1 (of_ndec (not_ok' h)), of_dec e⟩, fun hP => dec_true hP.2.2⟩
    | trace_state
set_option maxHeartbeats 1000000 in
theorem indexClash (is : List Idx) (a b : List Val) (hl : is.length ≤ maxLen) (ha : idxIn is a) (hb : idxIn is b) (hp : ∀ v, v ∈ a → valueP v) : EntQ Tryz.prog 185 [.d (.sl false (is.map idxD)), .fn 203 [.ptr 0 0, .ptr 1 0]] [.var [.d (.sl false (a.map valD))], .var [.d (.sl false (b.map valD))]]
    (fun R O => ∃ n : Int, R = .d (.i .i64 n) ∧ O = [.var [.d (.sl false (a.map valD))], .var [.d (.sl false (b.map valD))]] ∧ decide (n ≥ 0) = dec (clashP is a b)) := by
  refine ent_of tok mixed (f := 185) Tryz.func185 (by kernel_rfl) (keep := false) ?_
  repeat' ((conv => whnf) <;> (first | ((with_reducible refine isCall ?_) <;> (first | (refine ⟨_, c1, ?_⟩; rintro _ _ ⟨rfl, rfl⟩) | fail)) | ((with_reducible refine isLoop ?_) <;> (first | (refine ⟨[8, 7, 0, 1], [0, 1], fun st => ∃ (k : Nat) (n : Int), n = k ∧ k ≤ is.length ∧ (∀ i, i ∈ is.take k → ¬ clashX i a b) ∧ st = ⟨[(8, .d (.i .i64 n)), (7, .d (.i .i64 ((is.map idxD).length : Int))), (0, .d (.sl false (is.map idxD))), (1, .fn 203 [.ptr 0 0, .ptr 1 0])], [(0, .var [.d (.sl false (a.map valD))]), (1, .var [.d (.sl false (b.map valD))])]⟩, fun st => match look 8 st.env with | some (.d (.i _ n)) => is.length - n.toNat | _ => 0, rfl, ⟨0, _, rfl, Nat.zero_le _, (fun x hx => by simp at hx), rfl⟩, ?_⟩; rintro st ⟨k, n, rfl, hk, hv, rfl⟩) | fail)) | ((with_reducible refine isCut ?_) <;> (first | refine ⟨⟨none⟩, ?_⟩)) | ((first | with_reducible refine isEx ?_ | with_reducible refine isAnd ?_ | with_reducible refine isOr ?_) <;> (first | ((with_reducible refine isGet (xs := is.map idxD) (i := ((k : Nat) : Int).toNat) ?_); obtain ⟨i, hi⟩ := get_ex (ss := is) (k := k) (lt_of_dec (by assumption)); have c1 := clashOne i a b (ha i (get_mem hi)).1 (ha i (get_mem hi)).2 (hb i (get_mem hi)).2 hp; refine ⟨_, get_map' hi, ?_⟩) | ((with_reducible refine isSmall ?_) <;> (refine ⟨?_, ?_⟩; kernel_rfl)) | refine ⟨rfl, ?_⟩ | refine ⟨Int.natCast_nonneg _, ?_⟩)) | with_reducible refine Both.mk ?_ ?_ | rintro _ rfl | exact rfl | (split <;> (rename_i h; first | (simp only [beq_self_eq_true, eq_self, decide_true, Bool.not_true, Bool.false_eq_true] at h; done) | (try rw [h])))))
  all_goals (conv => whnf)
  · refine ⟨_, rfl, rfl, ?_⟩
    rw [dec_true (p := clashP is a b) ⟨i, get_mem hi, of_dec h⟩]
    exact decide_eq_true (Int.natCast_nonneg k)
  · exact ⟨⟨k + 1, _, step_up (get_lt hi) hl, get_lt hi, any_no hv hi (of_ndec h), rfl⟩, mu_up (get_lt hi) hl⟩
  · refine ⟨_, rfl, rfl, ?_⟩
    have e : k = is.length := by have := of_decide_eq_false h; rw [List.length_map] at this; omega
    rw [e, List.take_length] at hv
    rw [dec_false (p := clashP is a b) fun ⟨c, h1, h2⟩ => hv c h1 h2]; rfl
theorem containsClash (is : List Idx) (a b : List Val) (hl : is.length ≤ maxLen) (ha : idxIn is a) (hb : idxIn is b) (hp : ∀ v, v ∈ a → valueP v) : Ent Tryz.prog 151 [.d (.sl false (is.map idxD)), .fn 203 [.ptr 0 0, .ptr 1 0]] [.var [.d (.sl false (a.map valD))], .var [.d (.sl false (b.map valD))]]
    (.d (.b (dec (clashP is a b)))) [.var [.d (.sl false (a.map valD))], .var [.d (.sl false (b.map valD))]] := by
  have c1 := indexClash is a b hl ha hb hp
  refine ent_of tok mixed (f := 151) Tryz.func151 (by kernel_rfl) (keep := false) ?_
  repeat' ((conv => whnf) <;> (first | ((with_reducible refine isCall ?_) <;> (first | (refine ⟨_, c1, ?_⟩; rintro _ _ ⟨n, rfl, rfl, hn⟩) | fail)) | ((with_reducible refine isCut ?_) <;> (first | refine ⟨⟨none⟩, ?_⟩)) | ((first | with_reducible refine isEx ?_ | with_reducible refine isAnd ?_ | with_reducible refine isOr ?_) <;> (first | ((with_reducible refine isSmall ?_) <;> (refine ⟨?_, ?_⟩; kernel_rfl)) | refine ⟨rfl, ?_⟩ | refine ⟨Int.natCast_nonneg _, ?_⟩)) | with_reducible refine Both.mk ?_ ?_ | rintro _ rfl | exact rfl | (split <;> (rename_i h; first | (simp only [beq_self_eq_true, eq_self, decide_true, Bool.not_true, Bool.false_eq_true] at h; done) | (try rw [h])))))
  all_goals (conv => whnf)
  all_goals (rw [hn]; exact ⟨rfl, rfl⟩)
theorem implClash (s : Schema) (a b : List Val) (hl : s.idxs.length ≤ maxLen) (ha : idxIn s.idxs a) (hb : idxIn s.idxs b) (hp : ∀ v, v ∈ a → valueP v) : Ent Tryz.prog 177 [.d (schemaD s), .d (.sl false (a.map valD)), .d (.sl false (b.map valD))] [] (.d (.b (dec (clashP s.idxs a b)))) [] := by
  have c1 := containsClash s.idxs a b hl ha hb hp
  refine ent_of tok mixed (f := 177) Tryz.func177 (by kernel_rfl) (keep := false) ?_
  repeat' ((conv => whnf) <;> (first | ((with_reducible refine isCall ?_) <;> (first | (refine ⟨_, c1, ?_⟩; rintro _ _ ⟨rfl, rfl⟩) | fail)) | ((with_reducible refine isCut ?_) <;> (first | refine ⟨⟨none⟩, ?_⟩)) | ((first | with_reducible refine isEx ?_ | with_reducible refine isAnd ?_ | with_reducible refine isOr ?_) <;> (first | ((with_reducible refine isSmall ?_) <;> (refine ⟨?_, ?_⟩; kernel_rfl)) | refine ⟨rfl, ?_⟩ | refine ⟨Int.natCast_nonneg _, ?_⟩)) | with_reducible refine Both.mk ?_ ?_ | rintro _ rfl | exact rfl | (split <;> (rename_i h; first | (simp only [beq_self_eq_true, eq_self, decide_true, Bool.not_true, Bool.false_eq_true] at h; done) | (try rw [h])))))
end Go.Pm.Tryz
