/-
A part of the proof (packed).
-/
import Derived.Lib.Strings
import Derived.Lib.Slices
import Derived.Lib.Walk
import Derived.Lib.Bytealg
import Derived.Test.YtgkejadimafgdaaGreatKqg
namespace Go.Pm.Tryz
open Go Go.Proofs
set_option linter.unusedVariables false
set_option linter.unusedSimpArgs false
set_option maxRecDepth 100000
theorem nodup_le : ∀ (n : Nat) (l : List Nat), l.Nodup → (∀ x, x ∈ l → x < n) → l.length ≤ n
  | 0, l, _, h => by
    cases l with
    | nil => exact Nat.le_refl _
    | cons x l => exact absurd (h x (List.mem_cons_self ..)) (Nat.not_lt_zero _)
  | n + 1, l, hd, h => by
    have h1 := nodup_le n (l.erase n) (hd.erase n) (fun x hx => by
      have hm := List.mem_of_mem_erase hx
      have := h x hm
      have hne : x ≠ n := fun e => by
        subst e
        exact absurd hx (hd.not_mem_erase)
      omega)
    by_cases hm : n ∈ l
    · rw [List.length_erase_of_mem hm] at h1; omega
    · rw [List.erase_of_not_mem hm] at h1; omega
theorem colsP_len {ks : List Int} {n : Nat} (h : colsP ks n) : ks.length ≤ n := by
  have := nodup_le n (ks.map Int.toNat) (List.pairwise_iff_getElem.2 fun i j hi hj hij e => by
      rw [List.length_map] at hi hj
      simp only [List.getElem_map] at e
      have h1 := h.2 i _ (List.getElem?_eq_getElem hi)
      have h2 := h.2 j _ (List.getElem?_eq_getElem hj)
      refine h2.2 (List.mem_of_getElem? (i := i) ?_)
      rw [List.getElem?_take, if_pos hij, List.getElem?_eq_getElem hi]
      congr 1
      omega) (fun x hx => by
      obtain ⟨y, hy, rfl⟩ := List.mem_map.1 hx
      obtain ⟨k, hk⟩ := List.getElem?_of_mem hy
      have := (h.2 k y hk).1
      omega)
  rwa [List.length_map] at this
theorem colsP_in {ks : List Int} {n : Nat} (h : colsP ks n) {x : Int} (hx : x ∈ ks) : 0 ≤ x ∧ x < n := by
  obtain ⟨k, hk⟩ := List.getElem?_of_mem hx
  exact (h.2 k x hk).1
def pickM (row : List Val) (cols : List Int) : List Val := cols.map fun c => row.getD c.toNat ⟨0, 0, []⟩
def inRow (row : List Val) (cols : List Int) : Prop := ∀ c, c ∈ cols → 0 ≤ c ∧ c < row.length
theorem pickM_len (row : List Val) (cols : List Int) : (pickM row cols).length = cols.length := List.length_map ..
theorem pick_up {row : List Val} {cols : List Int} {k : Nat} {y : Int} {v : Val} (hy : cols[k]? = some y) (hv : row[y.toNat]? = some v) : pickM row (cols.take (k + 1)) = pickM row (cols.take k) ++ [v] := by
  rw [take_up hy, pickM, List.map_append]
  simp only [pickM, List.map_cons, List.map_nil, List.getD_eq_getElem?_getD, hv, Option.getD_some]
set_option maxHeartbeats 1000000 in
theorem implPick (row : List Val) (cols : List Int) (hl : cols.length ≤ 1000) (hi : inRow row cols) : Ent Tryz.prog 114 [.d (.sl false (row.map valD)), .d (.sl false (cols.map i64D))] [] (.d (.sl false ((pickM row cols).map valD))) [] := by
  obtain ⟨o, ho⟩ : ∃ o, o = pickM row cols := ⟨_, rfl⟩
  rw [← ho]
  refine ent_of tok mixed (f := 114) Tryz.func114 (by kernel_rfl) (keep := false) ?_
  repeat' ((conv => whnf) <;> (first | ((with_reducible refine isCall ?_) <;> (first | refine ⟨_, get_map' hv, ?_⟩ | refine ⟨hyr.1, ?_⟩ | (refine ⟨⟨by decide, rfl, rfl, room_add (by rw [hx, List.length_map, pickM_len, List.length_take]; omega) (by decide)⟩, ?_⟩) | fail)) | ((with_reducible refine isLoop ?_) <;> (first | (refine ⟨[0, 5, 9, 10, 11], [10008], fun st => ∃ (k : Nat) (i : Int) (xs : List D), i = k ∧ k ≤ cols.length ∧ xs = (pickM row (cols.take k)).map valD ∧ st = ⟨[(0, .d (.sl false (row.map valD))), (5, .own 10008), (9, .d (.sl false (cols.map i64D))), (10, .d (.i .i64 ((cols.map i64D).length : Int))), (11, .d (.i .i64 i))], [(10008, .arr 3 false xs)]⟩, fun st => match look 11 st.env with | some (.d (.i _ i)) => cols.length - i.toNat | _ => 0, rfl, ⟨0, _, _, rfl, Nat.zero_le _, rfl, rfl⟩, ?_⟩; rintro st ⟨k, i, xs, rfl, hk, hx, rfl⟩) | refine ⟨_, get_map' hv, ?_⟩ | refine ⟨hyr.1, ?_⟩ | (refine ⟨⟨by decide, rfl, rfl, room_add (by rw [hx, List.length_map, pickM_len, List.length_take]; omega) (by decide)⟩, ?_⟩) | fail)) | ((with_reducible refine isCut ?_) <;> (first | refine ⟨⟨none⟩, ?_⟩)) | ((first | with_reducible refine isEx ?_ | with_reducible refine isAnd ?_ | with_reducible refine isOr ?_) <;> (first | refine ⟨_, get_map' hv, ?_⟩ | refine ⟨hyr.1, ?_⟩ | ((with_reducible refine isGet (xs := cols.map i64D) (i := ((k : Nat) : Int).toNat) ?_); obtain ⟨y, hy⟩ := get_ex (ss := cols) (k := k) (lt_of_dec (by assumption)); have hyr := hi y (get_mem hy); obtain ⟨v, hv⟩ := get_ex (ss := row) (k := y.toNat) (by omega); refine ⟨_, get_map' hy, ?_⟩) | (refine ⟨⟨by decide, rfl, rfl, room_add (by rw [hx, List.length_map, pickM_len, List.length_take]; omega) (by decide)⟩, ?_⟩) | ((with_reducible refine isSmall ?_) <;> (refine ⟨?_, ?_⟩; kernel_rfl)) | refine ⟨rfl, ?_⟩ | refine ⟨Int.natCast_nonneg _, ?_⟩)) | with_reducible refine Both.mk ?_ ?_ | rintro _ rfl | exact rfl | (split <;> (rename_i h; first | (simp only [beq_self_eq_true, eq_self, decide_true, Bool.not_true, Bool.false_eq_true] at h; done) | (try rw [h])))))
  all_goals (conv => whnf)
  · exact ⟨⟨k + 1, _, _, step_up (n := 1000) (by have := get_lt hy; omega) (Nat.le_of_ble_eq_true rfl), get_lt hy, by rw [pick_up hy hv, List.map_append, ← hx]; rfl, rfl⟩, mu_up (get_lt hy) (Nat.le_trans hl (Nat.le_of_ble_eq_true rfl))⟩
  · have e : k = cols.length := by have := of_decide_eq_false h; rw [List.length_map] at this; omega
    rw [e, List.take_length] at hx
    rw [ho, ← hx]; exact ⟨rfl, rfl⟩
def cellP (v : Val) (c : Col) : Prop := valueP v ∧ (v.kind = c.kind ∨ (v.kind = 0 ∧ c.uniq = true))
def rowP (cs : List Col) (row : List Val) : Prop := row.length = cs.length ∧ ∀ (k : Nat) (v : Val) (c : Col), row[k]? = some v → cs[k]? = some c → cellP v c
theorem row_up {cs : List Col} {row : List Val} {k : Nat} {v : Val} {c : Col} (h : ∀ (j : Nat) (v : Val) (c : Col), j < k → row[j]? = some v → cs[j]? = some c → cellP v c) (hv : row[k]? = some v) (hc : cs[k]? = some c) (h1 : cellP v c) : ∀ (j : Nat) (v : Val) (c : Col), j < k + 1 → row[j]? = some v → cs[j]? = some c → cellP v c := by
  intro j v' c' hj hv' hc'
  by_cases e : j = k
  · subst e; rw [hv] at hv'; rw [hc] at hc'; cases hv'; cases hc'; exact h1
  · exact h j v' c' (by omega) hv' hc'
set_option maxHeartbeats 4000000 in
theorem specRow (s : Schema) (row : List Val) (hr : row.length ≤ maxLen) : Ent Tryz.prog 68 [.d (schemaD s), .d (.sl false (row.map valD))] [] (.d (.b (dec (rowP s.cols row)))) [] := by
  obtain ⟨o, ho⟩ : ∃ o, o = dec (rowP s.cols row) := ⟨_, rfl⟩
  rw [← ho]
  have hrl : (row.map valD).length = row.length := List.length_map ..
  have hcl : (s.cols.map colD).length = s.cols.length := List.length_map ..
  refine ent_of tok mixed (f := 68) Tryz.func68 (by kernel_rfl) (keep := false) ?_
  repeat' ((conv => whnf) <;> (first | ((with_reducible refine isCall ?_) <;> (first | (refine ⟨_, specValueRight _, ?_⟩; rintro _ _ ⟨rfl, rfl⟩) | refine ⟨_, get_map' hx, ?_⟩ | refine ⟨_, get_map' hy, ?_⟩ | fail)) | ((with_reducible refine isLoop ?_) <;> (first | (refine ⟨[1, 2, 5], [10002], fun st => ∃ (k : Nat) (i : Int), i = k ∧ k ≤ row.length ∧ row.length = s.cols.length ∧ (∀ (j : Nat) (v : Val) (c : Col), j < k → row[j]? = some v → s.cols[j]? = some c → cellP v c) ∧ st = ⟨[(1, .d (.sl false (row.map valD))), (2, .ptr 10002 0), (5, .d (.i .i64 i))], [(10002, .var (schC s))]⟩, fun st => match look 5 st.env with | some (.d (.i _ i)) => row.length - i.toNat | _ => 0, rfl, ⟨0, _, rfl, Nat.zero_le _, (by have := of_decide_eq_true (not_ok (by assumption)); omega), (fun j v c hj => absurd hj (Nat.not_lt_zero _)), rfl⟩, ?_⟩; rintro st ⟨k, i, rfl, hk, heq, hv, rfl⟩) | refine ⟨_, get_map' hx, ?_⟩ | refine ⟨_, get_map' hy, ?_⟩ | fail)) | ((with_reducible refine isCut ?_) <;> (first | refine ⟨⟨none⟩, ?_⟩)) | ((first | with_reducible refine isEx ?_ | with_reducible refine isAnd ?_ | with_reducible refine isOr ?_) <;> (first | refine ⟨_, get_map' hx, ?_⟩ | refine ⟨_, get_map' hy, ?_⟩ | ((with_reducible refine isGet (xs := row.map valD) (i := ((k : Nat) : Int).toNat) ?_); obtain ⟨x, hx⟩ := get_ex (ss := row) (k := k) (lt_of_dec (by assumption)); refine ⟨_, get_map' hx, ?_⟩) | ((with_reducible refine isGet (xs := s.cols.map colD) (i := ((k : Nat) : Int).toNat) ?_); obtain ⟨y, hy⟩ := get_ex (ss := s.cols) (k := k) (by have := lt_of_dec (ss := row) (k := k) (f := valD) (by assumption); omega); refine ⟨_, get_map' hy, ?_⟩) | ((with_reducible refine isSmall ?_) <;> (refine ⟨?_, ?_⟩; kernel_rfl)) | refine ⟨rfl, ?_⟩ | refine ⟨Int.natCast_nonneg _, ?_⟩)) | with_reducible refine Both.mk ?_ ?_ | rintro _ rfl | exact rfl | (split <;> (rename_i h; first | (simp only [beq_self_eq_true, eq_self, decide_true, Bool.not_true, Bool.false_eq_true] at h; done) | (try rw [h])))))
  all_goals (conv => whnf)
  all_goals first
    | exact ret_false ho fun hP => by have := of_decide_eq_false (not_ok' h); have := hP.1; omega
    | (obtain ⟨y, hy⟩ := get_ex (ss := s.cols) (k := k) (by have := get_lt hx; omega)
       exact ret_false ho fun hP => of_ndec (not_ok' h) (hP.2 k x y hx hy).1)
    | exact ret_false ho fun hP => (hP.2 k x y hx hy).2.elim (fun e => of_decide_eq_false (not_ok' (by assumption : (!decide (x.kind = y.kind)) = true)) e) (fun e => of_decide_eq_false (not_ok' h) e.1)
    | exact ret_false ho fun hP => (hP.2 k x y hx hy).2.elim (fun e => of_decide_eq_false (not_ok' (by assumption : (!decide (x.kind = y.kind)) = true)) e) (fun e => Bool.noConfusion ((not_ok' h).symm.trans e.2 : false = true))
    | exact ret_false ho fun hP => (hP.2 k x y hx hy).2.elim (fun e => of_decide_eq_false (not_ok' (by assumption : (!decide (x.kind = y.kind)) = true)) e) (fun e => of_decide_eq_false h e.1)
    | exact ret_false ho fun hP => (hP.2 k x y hx hy).2.elim (fun e => of_decide_eq_false (not_ok' (by assumption : (!decide (x.kind = y.kind)) = true)) e) (fun e => Bool.noConfusion (h.symm.trans e.2 : false = true))
    | exact ⟨⟨k + 1, _, step_up (get_lt hx) hr, get_lt hx, heq, row_up hv hx hy ⟨of_dec (not_ok (by assumption)), .inr ⟨of_decide_eq_true (not_ok (by assumption : (!decide (x.kind = 0)) = false)), not_ok h⟩⟩, rfl⟩, mu_up (get_lt hx) hr⟩
    | exact ⟨⟨k + 1, _, step_up (get_lt hx) hr, get_lt hx, heq, row_up hv hx hy ⟨of_dec (not_ok (by assumption)), .inr ⟨of_decide_eq_true h, by assumption⟩⟩, rfl⟩, mu_up (get_lt hx) hr⟩
    | exact ⟨⟨k + 1, _, step_up (get_lt hx) hr, get_lt hx, heq, row_up hv hx hy ⟨of_dec (not_ok (by assumption)), .inr ⟨of_decide_eq_true (not_ok h), by assumption⟩⟩, rfl⟩, mu_up (get_lt hx) hr⟩
    | exact ⟨⟨k + 1, _, step_up (get_lt hx) hr, get_lt hx, heq, row_up hv hx hy ⟨of_dec (not_ok (by assumption)), .inl (of_decide_eq_true (not_ok h))⟩, rfl⟩, mu_up (get_lt hx) hr⟩
    | (have e : k = row.length := by have := of_decide_eq_false h; omega
       exact ret_true ho ⟨heq, fun j v c hj hc => hv j v c (by rw [e]; exact get_lt hj) hj hc⟩)
    | trace_state
set_option maxHeartbeats 4000000 in
theorem implRow (s : Schema) (row : List Val) (hr : row.length ≤ maxLen) : Ent Tryz.prog 79 [.d (schemaD s), .d (.sl false (row.map valD))] [] (.d (.b (dec (rowP s.cols row)))) [] := by
  obtain ⟨o, ho⟩ : ∃ o, o = dec (rowP s.cols row) := ⟨_, rfl⟩
  rw [← ho]
  have hrl : (row.map valD).length = row.length := List.length_map ..
  have hcl : (s.cols.map colD).length = s.cols.length := List.length_map ..
  refine ent_of tok mixed (f := 79) Tryz.func79 (by kernel_rfl) (keep := false) ?_
  repeat' ((conv => whnf) <;> (first | ((with_reducible refine isCall ?_) <;> (first | (refine ⟨_, implValueRight _, ?_⟩; rintro _ _ ⟨rfl, rfl⟩) | refine ⟨_, get_map' hx, ?_⟩ | refine ⟨_, get_map' hy, ?_⟩ | fail)) | ((with_reducible refine isLoop ?_) <;> (first | (refine ⟨[2, 14, 15, 16], [10002], fun st => ∃ (k : Nat) (i : Int), i = k ∧ k ≤ row.length ∧ row.length = s.cols.length ∧ (∀ (j : Nat) (v : Val) (c : Col), j < k → row[j]? = some v → s.cols[j]? = some c → cellP v c) ∧ st = ⟨[(2, .ptr 10002 0), (14, .d (.sl false (row.map valD))), (15, .d (.i .i64 ((row.map valD).length : Int))), (16, .d (.i .i64 i))], [(10002, .var (schC s))]⟩, fun st => match look 16 st.env with | some (.d (.i _ i)) => row.length - i.toNat | _ => 0, rfl, ⟨0, _, rfl, Nat.zero_le _, (by have := of_decide_eq_true (not_ok (by assumption)); omega), (fun j v c hj => absurd hj (Nat.not_lt_zero _)), rfl⟩, ?_⟩; rintro st ⟨k, i, rfl, hk, heq, hv, rfl⟩) | refine ⟨_, get_map' hx, ?_⟩ | refine ⟨_, get_map' hy, ?_⟩ | fail)) | ((with_reducible refine isCut ?_) <;> (first | refine ⟨⟨none⟩, ?_⟩)) | ((first | with_reducible refine isEx ?_ | with_reducible refine isAnd ?_ | with_reducible refine isOr ?_) <;> (first | refine ⟨_, get_map' hx, ?_⟩ | refine ⟨_, get_map' hy, ?_⟩ | ((with_reducible refine isGet (xs := row.map valD) (i := ((k : Nat) : Int).toNat) ?_); obtain ⟨x, hx⟩ := get_ex (ss := row) (k := k) (lt_of_dec (by assumption)); refine ⟨_, get_map' hx, ?_⟩) | ((with_reducible refine isGet (xs := s.cols.map colD) (i := ((k : Nat) : Int).toNat) ?_); obtain ⟨y, hy⟩ := get_ex (ss := s.cols) (k := k) (by have := lt_of_dec (ss := row) (k := k) (f := valD) (by assumption); omega); refine ⟨_, get_map' hy, ?_⟩) | ((with_reducible refine isSmall ?_) <;> (refine ⟨?_, ?_⟩; kernel_rfl)) | refine ⟨rfl, ?_⟩ | refine ⟨Int.natCast_nonneg _, ?_⟩)) | with_reducible refine Both.mk ?_ ?_ | rintro _ rfl | exact rfl | (split <;> (rename_i h; first | (simp only [beq_self_eq_true, eq_self, decide_true, Bool.not_true, Bool.false_eq_true] at h; done) | (try rw [h])))))
  all_goals (conv => whnf)
  all_goals first
    | exact ret_false ho fun hP => by have := of_decide_eq_false (not_ok' h); have := hP.1; omega
    | (obtain ⟨y, hy⟩ := get_ex (ss := s.cols) (k := k) (by have := get_lt hx; omega)
       exact ret_false ho fun hP => of_ndec (not_ok' h) (hP.2 k x y hx hy).1)
    | exact ret_false ho fun hP => (hP.2 k x y hx hy).2.elim (fun e => of_decide_eq_false (not_ok' (by assumption : (!decide (x.kind = y.kind)) = true)) e) (fun e => of_decide_eq_false (not_ok' h) e.1)
    | exact ret_false ho fun hP => (hP.2 k x y hx hy).2.elim (fun e => of_decide_eq_false (not_ok' (by assumption : (!decide (x.kind = y.kind)) = true)) e) (fun e => Bool.noConfusion ((not_ok' h).symm.trans e.2 : false = true))
    | exact ret_false ho fun hP => (hP.2 k x y hx hy).2.elim (fun e => of_decide_eq_false (not_ok' (by assumption : (!decide (x.kind = y.kind)) = true)) e) (fun e => of_decide_eq_false h e.1)
    | exact ret_false ho fun hP => (hP.2 k x y hx hy).2.elim (fun e => of_decide_eq_false (not_ok' (by assumption : (!decide (x.kind = y.kind)) = true)) e) (fun e => Bool.noConfusion (h.symm.trans e.2 : false = true))
    | exact ⟨⟨k + 1, _, step_up (get_lt hx) hr, get_lt hx, heq, row_up hv hx hy ⟨of_dec (not_ok (by assumption)), .inr ⟨of_decide_eq_true (not_ok (by assumption : (!decide (x.kind = 0)) = false)), not_ok h⟩⟩, rfl⟩, mu_up (get_lt hx) hr⟩
    | exact ⟨⟨k + 1, _, step_up (get_lt hx) hr, get_lt hx, heq, row_up hv hx hy ⟨of_dec (not_ok (by assumption)), .inr ⟨of_decide_eq_true h, by assumption⟩⟩, rfl⟩, mu_up (get_lt hx) hr⟩
    | exact ⟨⟨k + 1, _, step_up (get_lt hx) hr, get_lt hx, heq, row_up hv hx hy ⟨of_dec (not_ok (by assumption)), .inr ⟨of_decide_eq_true (not_ok h), by assumption⟩⟩, rfl⟩, mu_up (get_lt hx) hr⟩
    | exact ⟨⟨k + 1, _, step_up (get_lt hx) hr, get_lt hx, heq, row_up hv hx hy ⟨of_dec (not_ok (by assumption)), .inl (of_decide_eq_true (not_ok h))⟩, rfl⟩, mu_up (get_lt hx) hr⟩
    | (have e : k = row.length := by have := of_decide_eq_false h; omega
       exact ret_true ho ⟨heq, fun j v c hj hc => hv j v c (by rw [e]; exact get_lt hj) hj hc⟩)
    | trace_state
end Go.Pm.Tryz
namespace Go.Proofs
set_option linter.unusedVariables false
set_option linter.unusedSimpArgs false
set_option maxHeartbeats 1000000 in
set_option maxRecDepth 100000 in
theorem Tryz.bytealg_CompareString (a b : ByteArray) (w : World) :
    Calls Tryz.prog 141 #[.string a, .string b] w fun e w' => e = .returned (.int .i64 (Lib.compareBytes a.data.toList b.data.toList)) ∧ w' = w := by
  go_enter Tryz.func141, Tryz.ntmps141
  go_wp2
  rw [run_callFunc_extern Tryz.func146 (by kernel_rfl) (by kernel_rfl) (by kernel_rfl) (e := Extern.BytealgCompare.compare) (by kernel_rfl), Lib.run_compareString]
  simp only [Result.andThen]
  rw [Oper.upon_value]
  go_wp2
  go_ret
  exact ⟨rfl, rfl⟩
end Go.Proofs
namespace Go.Pm.Tryz
open Go Go.Proofs
set_option linter.unusedVariables false
set_option linter.unusedSimpArgs false
set_option maxRecDepth 100000
def cmpS (a b : List UInt8) : Int := if Op.bytesLess a b then -1 else if a = b then 0 else 1
theorem compareString (a b : List UInt8) : Ent Tryz.prog 141 [.d (.s a), .d (.s b)] [] (.d (.i .i64 (cmpS a b))) [] := by
  refine ent_of_calls ⟨_, Tryz.func141, by kernel_rfl, by kernel_rfl⟩ fun X J w vs hr => ?_
  simp only [AV.repL, AV.rep, D.rep] at hr
  obtain ⟨v, vs1, h1, ⟨rfl, _⟩, v2, vs2, h2, ⟨rfl, _⟩, h3⟩ := hr
  subst h3 h2
  have e : vs = #[.string ⟨a.toArray⟩, .string ⟨b.toArray⟩] := Array.toList_inj.1 h1
  subst e
  refine (Tryz.bytealg_CompareString _ _ w).mono ?_
  rintro e w' ⟨rfl, rfl⟩
  refine ⟨rfl, _, rfl, ?_⟩
  simp only [AV.rep, D.rep, cmpS, compare_less, and_true]
theorem compareStrings (a b : List UInt8) : Ent Tryz.prog 134 [.d (.s a), .d (.s b)] [] (.d (.i .i64 (cmpS a b))) [] := by
  refine ent_of tok mixed (f := 134) Tryz.func134 (by kernel_rfl) (keep := false) ?_
  repeat' ((conv => whnf) <;> (first
    | refine ⟨⟨none⟩, ?_⟩
    | refine Both.mk ?_ ?_
    | refine ⟨rfl, ?_⟩
    | exact rfl
    | (refine ⟨_, compareString _ _, ?_⟩; rintro _ _ ⟨rfl, rfl⟩)
    | (split <;> (rename_i h; try rw [h]))))
def cmpI (a b : Int) : Int := if a < b then -1 else if a > b then 1 else 0
theorem isNaN (a : Int) : Ent Tryz.prog 140 [.d (.i .i64 a)] [] (.d (.b false)) [] := by
  refine ent_of tok mixed (f := 140) Tryz.func140 (by kernel_rfl) (keep := false) ?_
  repeat' ((conv => whnf) <;> (first
    | refine ⟨⟨none⟩, ?_⟩
    | refine Both.mk ?_ ?_
    | refine ⟨rfl, ?_⟩
    | exact rfl
    | (split <;> (rename_i h; try rw [h]))))
  all_goals (conv => whnf)
  all_goals (refine ⟨congrArg (fun b => AV.d (D.b b)) ?_, rfl⟩; simp)
theorem compareInt (a b : Int) : Ent Tryz.prog 133 [.d (.i .i64 a), .d (.i .i64 b)] [] (.d (.i .i64 (cmpI a b))) [] := by
  refine ent_of tok mixed (f := 133) Tryz.func133 (by kernel_rfl) (keep := false) ?_
  repeat' ((conv => whnf) <;> (first
    | refine ⟨⟨none⟩, ?_⟩
    | refine Both.mk ?_ ?_
    | refine ⟨rfl, ?_⟩
    | exact rfl
    | (refine ⟨_, isNaN _, ?_⟩; rintro _ _ ⟨rfl, rfl⟩)
    | (split <;> (rename_i h; try rw [h]))))
  all_goals (conv => whnf)
  all_goals (refine ⟨congrArg (fun b => AV.d (D.i .i64 b)) ?_, rfl⟩; simp only [decide_eq_true_eq, decide_eq_false_iff_not] at *; simp only [cmpI]; split <;> try split)
  all_goals first | rfl | omega
def orI : List Int → Int
  | [] => 0
  | x :: r => if x = 0 then orI r else x
theorem or_drop {ns : List Int} {k : Nat} {t : Int} (h : ns[k]? = some t) (h1 : (!decide (t = 0)) = false) : orI (ns.drop k) = orI (ns.drop (k + 1)) := by
  obtain ⟨hk, rfl⟩ := List.getElem?_eq_some_iff.1 h
  rw [List.drop_eq_getElem_cons hk]
  simp only [Bool.not_eq_false', decide_eq_true_eq] at h1
  simp only [orI, h1, if_true]
theorem or_hit {ns : List Int} {k : Nat} {t : Int} (h : ns[k]? = some t) (h1 : (!decide (t = 0)) = true) : orI (ns.drop k) = t := by
  obtain ⟨hk, rfl⟩ := List.getElem?_eq_some_iff.1 h
  rw [List.drop_eq_getElem_cons hk]
  simp only [Bool.not_eq_true', decide_eq_false_iff_not] at h1
  simp only [orI, h1, if_false]
def intD (n : Int) : D := .i .i64 n
theorem orInt (ns : List Int) (hs : ns.length ≤ maxLen) : Ent Tryz.prog 132 [.d (.sl false (ns.map intD))] [] (.d (.i .i64 (orI ns))) [] := by
  refine ent_of tok mixed (f := 132) Tryz.func132 (by kernel_rfl) (keep := false) ?_
  repeat' ((conv => whnf) <;> (first
    | (refine ⟨[8, 7, 6, 3], [], fun s => ∃ (k : Nat) (n : Int), n = k ∧ k ≤ ns.length ∧ orI ns = orI (ns.drop k) ∧ s = ⟨[(8, .d (.i .i64 n)), (7, .d (.i .i64 ((ns.map intD).length : Int))), (6, .d (.sl false (ns.map intD))), (3, .d (.i .i64 0))], []⟩,
        fun s => match look 8 s.env with | some (.d (.i _ n)) => ns.length - n.toNat | _ => 0, rfl, ⟨0, _, rfl, Nat.zero_le _, rfl, rfl⟩, ?_⟩; rintro s ⟨k, n, rfl, hk, hu, rfl⟩)
    | (obtain ⟨t, ht⟩ := get_ex (k := k) (lt_of_dec (by assumption)); refine ⟨_, get_map' ht, ?_⟩)
    | exact ⟨rfl, ⟨k + 1, _, step_up (get_lt ht) hs, get_lt ht, (by rw [hu]; exact or_drop ht (by assumption)), rfl⟩, mu_up (get_lt ht) hs⟩
    | refine ⟨⟨none⟩, ?_⟩
    | refine Both.mk ?_ ?_
    | refine ⟨rfl, ?_⟩
    | refine ⟨Int.natCast_nonneg _, ?_⟩
    | exact rfl
    | (split <;> (rename_i h; try rw [h]))))
  all_goals (conv => whnf)
  all_goals (refine ⟨congrArg (fun b => AV.d (D.i .i64 b)) ?_, rfl⟩; rw [hu])
  · exact (or_hit ht h).symm
  · rw [List.drop_eq_nil_of_le]
    · rfl
    · have := of_decide_eq_false h; rw [List.length_map] at this; omega
def cmpV (a b : Val) : Int := orI [cmpI a.kind b.kind, cmpI a.n b.n, cmpS a.text b.text]
theorem l02One (a b : Val) : Ent Tryz.prog 101 [.d (valD a), .d (valD b)] [] (.d (.i .i64 (cmpV a b))) [] := by
  refine ent_of tok mixed (f := 101) Tryz.func101 (by kernel_rfl) (keep := false) ?_
  repeat' ((conv => whnf) <;> (first
    | refine ⟨⟨none⟩, ?_⟩
    | refine Both.mk ?_ ?_
    | refine ⟨rfl, ?_⟩
    | exact rfl
    | (split <;> (rename_i h; try rw [h]))))
  all_goals (conv => whnf)
  all_goals (refine ⟨congrArg (fun b => AV.d (D.i .i64 b)) ?_, rfl⟩)
  all_goals simp only [cmpV, orI, cmpI, cmpS]
  all_goals simp_all
  all_goals (repeat' split)
  all_goals first | rfl | omega | (simp_all; done) | (simp_all; omega)
set_option maxHeartbeats 4000000 in
theorem compareValue (a b : Val) : Ent Tryz.prog 113 [.d (valD a), .d (valD b)] [] (.d (.i .i64 (cmpV a b))) [] := by
  obtain ⟨u1, hu1⟩ : ∃ u, u = cmpI a.kind b.kind := ⟨_, rfl⟩
  obtain ⟨u2, hu2⟩ : ∃ u, u = cmpI a.n b.n := ⟨_, rfl⟩
  obtain ⟨u3, hu3⟩ : ∃ u, u = cmpS a.text b.text := ⟨_, rfl⟩
  have c1 := compareInt a.kind b.kind
  have c2 := compareInt a.n b.n
  have c3 := compareStrings a.text b.text
  rw [cmpV]
  rw [← hu1] at c1 ⊢
  rw [← hu2] at c2 ⊢
  rw [← hu3] at c3 ⊢
  refine ent_of tok mixed (f := 113) Tryz.func113 (by kernel_rfl) (keep := false) ?_
  repeat' ((conv => whnf) <;> (first
    | refine ⟨⟨none⟩, ?_⟩
    | refine Both.mk ?_ ?_
    | refine ⟨rfl, ?_⟩
    | exact rfl
    | (refine ⟨_, c1, ?_⟩; rintro _ _ ⟨rfl, rfl⟩)
    | (refine ⟨_, c2, ?_⟩; rintro _ _ ⟨rfl, rfl⟩)
    | (refine ⟨_, c3, ?_⟩; rintro _ _ ⟨rfl, rfl⟩)
    | (refine ⟨_, orInt [u1, u2, u3] (Nat.le_of_ble_eq_true rfl), ?_⟩; rintro _ _ ⟨rfl, rfl⟩)
    | (split <;> (rename_i h; try rw [h]))))
theorem cmpI_zero {a b : Int} : cmpI a b = 0 ↔ a = b := by
  unfold cmpI
  by_cases h : a < b
  · rw [if_pos h]; omega
  · rw [if_neg h]
    by_cases h2 : a > b
    · rw [if_pos h2]; omega
    · rw [if_neg h2]; omega
theorem cmpS_zero {a b : List UInt8} : cmpS a b = 0 ↔ a = b := by
  unfold cmpS
  by_cases h : Op.bytesLess a b = true
  · rw [if_pos h]
    refine ⟨fun e => absurd e (by decide), fun e => ?_⟩
    rw [e, less_irrefl] at h; cases h
  · rw [if_neg h]
    by_cases h2 : a = b
    · rw [if_pos h2]; exact ⟨fun _ => h2, fun _ => rfl⟩
    · rw [if_neg h2]; exact ⟨fun e => absurd e (by decide), fun e => absurd e h2⟩
theorem cmpV_zero {a b : Val} : cmpV a b = 0 ↔ a = b := by
  rcases a with ⟨k, n, t⟩
  rcases b with ⟨k', n', t'⟩
  simp only [cmpV, orI]
  constructor
  · intro h
    by_cases h1 : cmpI k k' = 0
    · rw [if_pos h1] at h
      by_cases h2 : cmpI n n' = 0
      · rw [if_pos h2] at h
        by_cases h3 : cmpS t t' = 0
        · rw [cmpI_zero.1 h1, cmpI_zero.1 h2, cmpS_zero.1 h3]
        · rw [if_neg h3] at h; exact absurd h h3
      · rw [if_neg h2] at h; exact absurd h h2
    · rw [if_neg h1] at h; exact absurd h h1
  · intro h
    cases h
    rw [if_pos (cmpI_zero.2 rfl), if_pos (cmpI_zero.2 rfl), if_pos (cmpS_zero.2 rfl)]
def cmpL : List Val → List Val → Int
  | [], [] => 0
  | [], _ :: _ => -1
  | _ :: _, [] => 1
  | x :: a, y :: b => if cmpV x y = 0 then cmpL a b else cmpV x y
theorem cmpL_zero : ∀ {a b : List Val}, cmpL a b = 0 ↔ a = b
  | [], [] => by simp [cmpL]
  | [], _ :: _ => by simp [cmpL]
  | _ :: _, [] => by simp [cmpL]
  | x :: a, y :: b => by
    rw [cmpL]
    by_cases h : cmpV x y = 0
    · rw [if_pos h, cmpL_zero, cmpV_zero.1 h]; simp
    · rw [if_neg h]
      refine ⟨fun e => absurd e h, fun e => ?_⟩
      cases e; exact absurd (cmpV_zero.2 rfl) h
theorem cmpL_next {a b : List Val} {k : Nat} {x y : Val} (hx : a[k]? = some x) (hy : b[k]? = some y) (h : cmpV x y = 0) : cmpL (a.drop k) (b.drop k) = cmpL (a.drop (k + 1)) (b.drop (k + 1)) := by
  obtain ⟨h1, rfl⟩ := List.getElem?_eq_some_iff.1 hx
  obtain ⟨h2, rfl⟩ := List.getElem?_eq_some_iff.1 hy
  rw [List.drop_eq_getElem_cons h1, List.drop_eq_getElem_cons h2, cmpL, if_pos h]
theorem cmpL_here {a b : List Val} {k : Nat} {x y : Val} (hx : a[k]? = some x) (hy : b[k]? = some y) (h : ¬ cmpV x y = 0) : cmpL (a.drop k) (b.drop k) = cmpV x y := by
  obtain ⟨h1, rfl⟩ := List.getElem?_eq_some_iff.1 hx
  obtain ⟨h2, rfl⟩ := List.getElem?_eq_some_iff.1 hy
  rw [List.drop_eq_getElem_cons h1, List.drop_eq_getElem_cons h2, cmpL, if_neg h]
theorem cmpL_lt {a b : List Val} {k : Nat} (h1 : a.length ≤ k) (h2 : k < b.length) : cmpL (a.drop k) (b.drop k) = -1 := by
  rw [List.drop_eq_nil_of_le h1, List.drop_eq_getElem_cons h2]; rfl
theorem cmpL_gt {a b : List Val} {k : Nat} (h1 : k < a.length) (h2 : b.length ≤ k) : cmpL (a.drop k) (b.drop k) = 1 := by
  rw [List.drop_eq_nil_of_le h2, List.drop_eq_getElem_cons h1]; rfl
theorem cmpL_eq {a b : List Val} {k : Nat} (h1 : a.length ≤ k) (h2 : b.length ≤ k) : cmpL (a.drop k) (b.drop k) = 0 := by
  rw [List.drop_eq_nil_of_le h1, List.drop_eq_nil_of_le h2]; rfl
set_option maxHeartbeats 1000000 in
theorem l02Compare (a b : List Val) (ha : a.length ≤ maxLen) (hb : b.length ≤ maxLen) : Ent Tryz.prog 69 [.d (.sl false (a.map valD)), .d (.sl false (b.map valD))] [] (.d (.i .i64 (cmpL a b))) [] := by
  obtain ⟨o, ho⟩ : ∃ o, o = cmpL a b := ⟨_, rfl⟩
  rw [← ho]
  have hla : (a.map valD).length = a.length := List.length_map ..
  have hlb : (b.map valD).length = b.length := List.length_map ..
  refine ent_of tok mixed (f := 69) Tryz.func69 (by kernel_rfl) (keep := false) ?_
  repeat' ((conv => whnf) <;> (first | ((with_reducible refine isCall ?_) <;> (first | (refine ⟨_, l02One _ _, ?_⟩; rintro _ _ ⟨rfl, rfl⟩) | refine ⟨_, get_map' hx, ?_⟩ | refine ⟨_, get_map' hy, ?_⟩ | fail)) | ((with_reducible refine isLoop ?_) <;> (first | (refine ⟨[0, 1, 5], [], fun st => ∃ (k : Nat) (i : Int), i = k ∧ k ≤ a.length ∧ k ≤ b.length ∧ o = cmpL (a.drop k) (b.drop k) ∧ st = ⟨[(0, .d (.sl false (a.map valD))), (1, .d (.sl false (b.map valD))), (5, .d (.i .i64 i))], []⟩, fun st => match look 5 st.env with | some (.d (.i _ i)) => a.length - i.toNat | _ => 0, rfl, ⟨0, _, rfl, Nat.zero_le _, Nat.zero_le _, ho, rfl⟩, ?_⟩; rintro st ⟨k, i, rfl, hka, hkb, hu, rfl⟩) | refine ⟨_, get_map' hx, ?_⟩ | refine ⟨_, get_map' hy, ?_⟩ | fail)) | ((with_reducible refine isCut ?_) <;> (first | refine ⟨⟨none⟩, ?_⟩)) | ((first | with_reducible refine isEx ?_ | with_reducible refine isAnd ?_ | with_reducible refine isOr ?_) <;> (first | refine ⟨_, get_map' hx, ?_⟩ | refine ⟨_, get_map' hy, ?_⟩ | ((with_reducible refine isGet (xs := a.map valD) (i := ((k : Nat) : Int).toNat) ?_); obtain ⟨x, hx⟩ := get_ex (ss := a) (k := k) (lt_of_dec (by assumption)); refine ⟨_, get_map' hx, ?_⟩) | ((with_reducible refine isGet (xs := b.map valD) (i := ((k : Nat) : Int).toNat) ?_); obtain ⟨y, hy⟩ := get_ex (ss := b) (k := k) (lt_of_dec (by assumption)); refine ⟨_, get_map' hy, ?_⟩) | ((with_reducible refine isSmall ?_) <;> (refine ⟨?_, ?_⟩; kernel_rfl)) | refine ⟨rfl, ?_⟩ | refine ⟨Int.natCast_nonneg _, ?_⟩)) | with_reducible refine Both.mk ?_ ?_ | rintro _ rfl | exact rfl | (split <;> (rename_i h; first | (simp only [beq_self_eq_true, eq_self, decide_true, Bool.not_true, Bool.false_eq_true] at h; done) | (try rw [h])))))
  all_goals (conv => whnf)
  all_goals first
    | (rw [hu, cmpL_here hx hy (of_decide_eq_false (not_ok' h))]; exact ⟨rfl, rfl⟩)
    | exact ⟨⟨k + 1, _, step_up (get_lt hx) ha, get_lt hx, get_lt hy, hu.trans (cmpL_next hx hy (of_decide_eq_true (not_ok h))), rfl⟩, mu_up (get_lt hx) ha⟩
    | (clear ho; simp only [decide_eq_true_eq, decide_eq_false_iff_not, List.length_map] at *
       rw [hu, cmpL_lt (by omega) (by omega)]; exact ⟨rfl, trivial⟩)
    | (clear ho; simp only [decide_eq_true_eq, decide_eq_false_iff_not, List.length_map] at *
       rw [hu, cmpL_gt (by omega) (by omega)]; exact ⟨rfl, trivial⟩)
    | (clear ho; simp only [decide_eq_true_eq, decide_eq_false_iff_not, List.length_map] at *
       rw [hu, cmpL_eq (by omega) (by omega)]; exact ⟨rfl, trivial⟩)
    | trace_state
set_option maxHeartbeats 1000000 in
theorem compareFunc (a b : List Val) (ha : a.length ≤ maxLen) (hb : b.length ≤ maxLen) : Ent Tryz.prog 112 [.d (.sl false (a.map valD)), .d (.sl false (b.map valD)), .fn 113 []] [] (.d (.i .i64 (cmpL a b))) [] := by
  obtain ⟨o, ho⟩ : ∃ o, o = cmpL a b := ⟨_, rfl⟩
  rw [← ho]
  have hla : (a.map valD).length = a.length := List.length_map ..
  have hlb : (b.map valD).length = b.length := List.length_map ..
  refine ent_of tok mixed (f := 112) Tryz.func112 (by kernel_rfl) (keep := false) ?_
  repeat' ((conv => whnf) <;> (first | ((with_reducible refine isCall ?_) <;> (first | (refine ⟨_, compareValue _ _, ?_⟩; rintro _ _ ⟨rfl, rfl⟩) | refine ⟨_, get_map' hx, ?_⟩ | refine ⟨_, get_map' hy, ?_⟩ | fail)) | ((with_reducible refine isLoop ?_) <;> (first | (refine ⟨[0, 1, 2, 11, 12, 13], [], fun st => ∃ (k : Nat) (i : Int), i = k ∧ k ≤ a.length ∧ k ≤ b.length ∧ o = cmpL (a.drop k) (b.drop k) ∧ st = ⟨[(0, .d (.sl false (a.map valD))), (1, .d (.sl false (b.map valD))), (2, .fn 113 []), (11, .d (.sl false (a.map valD))), (12, .d (.i .i64 ((a.map valD).length : Int))), (13, .d (.i .i64 i))], []⟩, fun st => match look 13 st.env with | some (.d (.i _ i)) => a.length - i.toNat | _ => 0, rfl, ⟨0, _, rfl, Nat.zero_le _, Nat.zero_le _, ho, rfl⟩, ?_⟩; rintro st ⟨k, i, rfl, hka, hkb, hu, rfl⟩) | refine ⟨_, get_map' hx, ?_⟩ | refine ⟨_, get_map' hy, ?_⟩ | fail)) | ((with_reducible refine isCut ?_) <;> (first | refine ⟨⟨none⟩, ?_⟩)) | ((first | with_reducible refine isEx ?_ | with_reducible refine isAnd ?_ | with_reducible refine isOr ?_) <;> (first | refine ⟨_, get_map' hx, ?_⟩ | refine ⟨_, get_map' hy, ?_⟩ | ((with_reducible refine isGet (xs := a.map valD) (i := ((k : Nat) : Int).toNat) ?_); obtain ⟨x, hx⟩ := get_ex (ss := a) (k := k) (lt_of_dec (by assumption)); refine ⟨_, get_map' hx, ?_⟩) | ((with_reducible refine isGet (xs := b.map valD) (i := ((k : Nat) : Int).toNat) ?_); obtain ⟨y, hy⟩ := get_ex (ss := b) (k := k) (by have := of_decide_eq_false (by assumption : decide ((k : Int) ≥ ((b.map valD).length : Int)) = false); omega); refine ⟨_, get_map' hy, ?_⟩) | ((with_reducible refine isSmall ?_) <;> (refine ⟨?_, ?_⟩; kernel_rfl)) | refine ⟨rfl, ?_⟩ | refine ⟨Int.natCast_nonneg _, ?_⟩)) | with_reducible refine Both.mk ?_ ?_ | rintro _ rfl | exact rfl | (split <;> (rename_i h; first | (simp only [beq_self_eq_true, eq_self, decide_true, Bool.not_true, Bool.false_eq_true] at h; done) | (try rw [h])))))
  all_goals (conv => whnf)
  all_goals first
    | (rw [hu, cmpL_here hx hy (of_decide_eq_false (not_ok' h))]; exact ⟨rfl, rfl⟩)
    | exact ⟨⟨k + 1, _, step_up (get_lt hx) ha, get_lt hx, get_lt hy, hu.trans (cmpL_next hx hy (of_decide_eq_true (not_ok h))), rfl⟩, mu_up (get_lt hx) ha⟩
    | (clear ho; simp only [decide_eq_true_eq, decide_eq_false_iff_not, List.length_map] at *
       rw [hu, cmpL_lt (by omega) (by omega)]; exact ⟨rfl, trivial⟩)
    | (clear ho; simp only [decide_eq_true_eq, decide_eq_false_iff_not, List.length_map] at *
       rw [hu, cmpL_gt (by omega) (by omega)]; exact ⟨rfl, trivial⟩)
    | (clear ho; simp only [decide_eq_true_eq, decide_eq_false_iff_not, List.length_map] at *
       rw [hu, cmpL_eq (by omega) (by omega)]; exact ⟨rfl, trivial⟩)
    | trace_state
theorem implCompare (a b : List Val) (ha : a.length ≤ maxLen) (hb : b.length ≤ maxLen) : Ent Tryz.prog 80 [.d (.sl false (a.map valD)), .d (.sl false (b.map valD))] [] (.d (.i .i64 (cmpL a b))) [] := by
  have c1 := compareFunc a b ha hb
  refine ent_of tok mixed (f := 80) Tryz.func80 (by kernel_rfl) (keep := false) ?_
  repeat' ((conv => whnf) <;> (first | ((with_reducible refine isCall ?_) <;> (first | (refine ⟨_, c1, ?_⟩; rintro _ _ ⟨rfl, rfl⟩) | fail)) | ((with_reducible refine isCut ?_) <;> (first | refine ⟨⟨none⟩, ?_⟩)) | ((first | with_reducible refine isEx ?_ | with_reducible refine isAnd ?_ | with_reducible refine isOr ?_) <;> (first | ((with_reducible refine isSmall ?_) <;> (refine ⟨?_, ?_⟩; kernel_rfl)) | refine ⟨rfl, ?_⟩ | refine ⟨Int.natCast_nonneg _, ?_⟩)) | with_reducible refine Both.mk ?_ ?_ | rintro _ rfl | exact rfl | (split <;> (rename_i h; first | (simp only [beq_self_eq_true, eq_self, decide_true, Bool.not_true, Bool.false_eq_true] at h; done) | (try rw [h])))))
end Go.Pm.Tryz
namespace Go.Pm.Tryz
open Go Go.Proofs
set_option linter.unusedVariables false
set_option linter.unusedSimpArgs false
set_option maxRecDepth 100000
set_option maxHeartbeats 1000000 in
theorem specPick (row : List Val) (cols : List Int) (hl : cols.length ≤ 1000) (hi : inRow row cols) : Ent Tryz.prog 102 [.d (.sl false (row.map valD)), .d (.sl false (cols.map i64D))] [] (.d (.sl false ((pickM row cols).map valD))) [] := by
  obtain ⟨o, ho⟩ : ∃ o, o = pickM row cols := ⟨_, rfl⟩
  rw [← ho]
  refine ent_of tok mixed (f := 102) Tryz.func102 (by kernel_rfl) (keep := false) ?_
  repeat' ((conv => whnf) <;> (first | ((with_reducible refine isCall ?_) <;> (first | refine ⟨_, get_map' hv, ?_⟩ | refine ⟨hyr.1, ?_⟩ | (refine ⟨⟨by decide, rfl, rfl, room_add (by rw [hx, List.length_map, pickM_len, List.length_take]; omega) (by decide)⟩, ?_⟩) | fail)) | ((with_reducible refine isLoop ?_) <;> (first | (refine ⟨[0, 1, 5, 6], [10007], fun st => ∃ (k : Nat) (i : Int) (xs : List D), i = k ∧ k ≤ cols.length ∧ xs = (pickM row (cols.take k)).map valD ∧ st = ⟨[(0, .d (.sl false (row.map valD))), (1, .d (.sl false (cols.map i64D))), (5, .own 10007), (6, .d (.i .i64 i))], [(10007, .arr 3 false xs)]⟩, fun st => match look 6 st.env with | some (.d (.i _ i)) => cols.length - i.toNat | _ => 0, rfl, ⟨0, _, _, rfl, Nat.zero_le _, rfl, rfl⟩, ?_⟩; rintro st ⟨k, i, xs, rfl, hk, hx, rfl⟩) | refine ⟨_, get_map' hv, ?_⟩ | refine ⟨hyr.1, ?_⟩ | (refine ⟨⟨by decide, rfl, rfl, room_add (by rw [hx, List.length_map, pickM_len, List.length_take]; omega) (by decide)⟩, ?_⟩) | fail)) | ((with_reducible refine isCut ?_) <;> (first | refine ⟨⟨none⟩, ?_⟩)) | ((first | with_reducible refine isEx ?_ | with_reducible refine isAnd ?_ | with_reducible refine isOr ?_) <;> (first | refine ⟨_, get_map' hv, ?_⟩ | refine ⟨hyr.1, ?_⟩ | ((with_reducible refine isGet (xs := cols.map i64D) (i := ((k : Nat) : Int).toNat) ?_); obtain ⟨y, hy⟩ := get_ex (ss := cols) (k := k) (lt_of_dec (by assumption)); have hyr := hi y (get_mem hy); obtain ⟨v, hv⟩ := get_ex (ss := row) (k := y.toNat) (by omega); refine ⟨_, get_map' hy, ?_⟩) | (refine ⟨⟨by decide, rfl, rfl, room_add (by rw [hx, List.length_map, pickM_len, List.length_take]; omega) (by decide)⟩, ?_⟩) | ((with_reducible refine isSmall ?_) <;> (refine ⟨?_, ?_⟩; kernel_rfl)) | refine ⟨rfl, ?_⟩ | refine ⟨Int.natCast_nonneg _, ?_⟩)) | with_reducible refine Both.mk ?_ ?_ | rintro _ rfl | exact rfl | (split <;> (rename_i h; first | (simp only [beq_self_eq_true, eq_self, decide_true, Bool.not_true, Bool.false_eq_true] at h; done) | (try rw [h])))))
  all_goals (conv => whnf)
  · exact ⟨⟨k + 1, _, _, step_up (n := 1000) (by have := get_lt hy; omega) (Nat.le_of_ble_eq_true rfl), get_lt hy, by rw [pick_up hy hv, List.map_append, ← hx]; rfl, rfl⟩, mu_up (get_lt hy) (Nat.le_trans hl (Nat.le_of_ble_eq_true rfl))⟩
  · have e : k = cols.length := by have := of_decide_eq_false h; rw [List.length_map] at this; omega
    rw [e, List.take_length] at hx
    rw [ho, ← hx]; exact ⟨rfl, rfl⟩
theorem specKey (s : Schema) (row : List Val) (hl : s.keys.length ≤ 1000) (hi : inRow row s.keys) : Ent Tryz.prog 70 [.d (schemaD s), .d (.sl false (row.map valD))] [] (.d (.sl false ((pickM row s.keys).map valD))) [] := by
  have c1 := specPick row s.keys hl hi
  refine ent_of tok mixed (f := 70) Tryz.func70 (by kernel_rfl) (keep := false) ?_
  repeat' ((conv => whnf) <;> (first | ((with_reducible refine isCall ?_) <;> (first | (refine ⟨_, c1, ?_⟩; rintro _ _ ⟨rfl, rfl⟩) | fail)) | ((with_reducible refine isCut ?_) <;> (first | refine ⟨⟨none⟩, ?_⟩)) | ((first | with_reducible refine isEx ?_ | with_reducible refine isAnd ?_ | with_reducible refine isOr ?_) <;> (first | ((with_reducible refine isSmall ?_) <;> (refine ⟨?_, ?_⟩; kernel_rfl)) | refine ⟨rfl, ?_⟩ | refine ⟨Int.natCast_nonneg _, ?_⟩)) | with_reducible refine Both.mk ?_ ?_ | rintro _ rfl | exact rfl | (split <;> (rename_i h; first | (simp only [beq_self_eq_true, eq_self, decide_true, Bool.not_true, Bool.false_eq_true] at h; done) | (try rw [h])))))
theorem implKey (s : Schema) (row : List Val) (hl : s.keys.length ≤ 1000) (hi : inRow row s.keys) : Ent Tryz.prog 81 [.d (schemaD s), .d (.sl false (row.map valD))] [] (.d (.sl false ((pickM row s.keys).map valD))) [] := by
  have c1 := implPick row s.keys hl hi
  refine ent_of tok mixed (f := 81) Tryz.func81 (by kernel_rfl) (keep := false) ?_
  repeat' ((conv => whnf) <;> (first | ((with_reducible refine isCall ?_) <;> (first | (refine ⟨_, c1, ?_⟩; rintro _ _ ⟨rfl, rfl⟩) | fail)) | ((with_reducible refine isCut ?_) <;> (first | refine ⟨⟨none⟩, ?_⟩)) | ((first | with_reducible refine isEx ?_ | with_reducible refine isAnd ?_ | with_reducible refine isOr ?_) <;> (first | ((with_reducible refine isSmall ?_) <;> (refine ⟨?_, ?_⟩; kernel_rfl)) | refine ⟨rfl, ?_⟩ | refine ⟨Int.natCast_nonneg _, ?_⟩)) | with_reducible refine Both.mk ?_ ?_ | rintro _ rfl | exact rfl | (split <;> (rename_i h; first | (simp only [beq_self_eq_true, eq_self, decide_true, Bool.not_true, Bool.false_eq_true] at h; done) | (try rw [h])))))
end Go.Pm.Tryz
namespace Go.Pm.Tryz
open Go Go.Proofs
set_option linter.unusedVariables false
set_option linter.unusedSimpArgs false
set_option maxRecDepth 100000
def noNull (vs : List Val) : Prop := ∀ v, v ∈ vs → ¬ v.kind = 0
def clashX (x : Idx) (a b : List Val) : Prop := x.uniq = true ∧ noNull (pickM a x.cols) ∧ pickM a x.cols = pickM b x.cols
def clashP (is : List Idx) (a b : List Val) : Prop := ∃ x, x ∈ is ∧ clashX x a b
theorem clash_symm {is : List Idx} {a b : List Val} : clashP is a b ↔ clashP is b a := by
  constructor <;> (rintro ⟨x, hx, h1, h2, h3⟩; exact ⟨x, hx, h1, h3 ▸ h2, h3.symm⟩)
def idxIn (is : List Idx) (a : List Val) : Prop := ∀ x, x ∈ is → x.cols.length ≤ 1000 ∧ inRow a x.cols
def nullB (vs : List Val) : Bool := vs.any fun v => decide (v.kind = 0)
theorem nullB_iff {vs : List Val} : nullB vs = false ↔ noNull vs := by
  simp only [nullB, List.any_eq_false, decide_eq_true_eq, noNull]
theorem null_up {vs : List Val} {m : Nat} {v : Val} (h : vs[m]? = some v) : nullB (vs.take (m + 1)) = (nullB (vs.take m) || decide (v.kind = 0)) := by
  simp only [nullB, take_up h, List.any_append, List.any_cons, List.any_nil, Bool.or_false]
set_option maxHeartbeats 4000000 in
theorem specClash (s : Schema) (a b : List Val) (hi : s.idxs.length ≤ maxLen) (ha : idxIn s.idxs a) (hb : idxIn s.idxs b) : Ent Tryz.prog 71 [.d (schemaD s), .d (.sl false (a.map valD)), .d (.sl false (b.map valD))] [] (.d (.b (dec (clashP s.idxs a b)))) [] := by
  obtain ⟨o, ho⟩ : ∃ o, o = dec (clashP s.idxs a b) := ⟨_, rfl⟩
  rw [← ho]
  have hil : (s.idxs.map idxD).length = s.idxs.length := List.length_map ..
  refine ent_of tok mixed (f := 71) Tryz.func71 (by kernel_rfl) (keep := false) ?_
  repeat' ((conv => whnf) <;> (first | ((with_reducible refine isCall ?_) <;> (first | (refine ⟨_, c1, ?_⟩; rintro _ _ ⟨rfl, rfl⟩) | (refine ⟨_, c2, ?_⟩; rintro _ _ ⟨rfl, rfl⟩) | (refine ⟨_, c3, ?_⟩; rintro _ _ ⟨rfl, rfl⟩) | refine ⟨_, get_map' hx, ?_⟩ | refine ⟨_, get_map' hy, ?_⟩ | fail)) | ((with_reducible refine isLoop ?_) <;> (first | (refine ⟨[1, 2, 3, 7], [10003], fun st => ∃ (k : Nat) (i : Int), i = k ∧ k ≤ s.idxs.length ∧ (∀ x, x ∈ s.idxs.take k → ¬ clashX x a b) ∧ st = ⟨[(1, .d (.sl false (a.map valD))), (2, .d (.sl false (b.map valD))), (3, .ptr 10003 0), (7, .d (.i .i64 i))], [(10003, .var (schC s))]⟩, fun st => match look 7 st.env with | some (.d (.i _ i)) => s.idxs.length - i.toNat | _ => 0, rfl, ⟨0, _, rfl, Nat.zero_le _, (fun x hx => by simp at hx), rfl⟩, ?_⟩; rintro st ⟨k, i, rfl, hk, hv, rfl⟩) | (refine ⟨[1, 2, 3, 7, 8, 9, 10], [10003], fun st => ∃ (m : Nat) (i : Int) (u : Bool), i = m ∧ m ≤ (pickM a x.cols).length ∧ x.uniq = true ∧ u = nullB ((pickM a x.cols).take m) ∧ st = ⟨[(1, .d (.sl false (a.map valD))), (2, .d (.sl false (b.map valD))), (3, .ptr 10003 0), (7, .d (.i .i64 k)), (8, .d (.sl false ((pickM a x.cols).map valD))), (9, .d (.b u)), (10, .d (.i .i64 i))], [(10003, .var (schC s))]⟩, fun st => match look 10 st.env with | some (.d (.i _ i)) => (pickM a x.cols).length - i.toNat | _ => 0, rfl, ⟨0, _, _, rfl, Nat.zero_le _, not_ok (by assumption), rfl, rfl⟩, ?_⟩; rintro st ⟨m, i, u, rfl, hm, hun, hu, rfl⟩) | refine ⟨_, get_map' hx, ?_⟩ | refine ⟨_, get_map' hy, ?_⟩ | fail)) | ((with_reducible refine isCut ?_) <;> (first | refine ⟨⟨none⟩, ?_⟩)) | ((first | with_reducible refine isEx ?_ | with_reducible refine isAnd ?_ | with_reducible refine isOr ?_) <;> (first | refine ⟨_, get_map' hx, ?_⟩ | refine ⟨_, get_map' hy, ?_⟩ | ((with_reducible refine isGet (xs := s.idxs.map idxD) (i := ((k : Nat) : Int).toNat) ?_); obtain ⟨x, hx⟩ := get_ex (ss := s.idxs) (k := k) (lt_of_dec (by assumption)); have c1 := specPick a x.cols (ha x (get_mem hx)).1 (ha x (get_mem hx)).2; have c2 := specPick b x.cols (hb x (get_mem hx)).1 (hb x (get_mem hx)).2; have hpl : (pickM a x.cols).length ≤ maxLen := (by rw [pickM_len]; exact Nat.le_trans (ha x (get_mem hx)).1 (Nat.le_of_ble_eq_true rfl)); have c3 := l02Compare (pickM a x.cols) (pickM b x.cols) hpl (by rw [pickM_len]; exact Nat.le_trans (hb x (get_mem hx)).1 (Nat.le_of_ble_eq_true rfl)); refine ⟨_, get_map' hx, ?_⟩) | ((with_reducible refine isGet (xs := (pickM a x.cols).map valD) (i := ((m : Nat) : Int).toNat) ?_); obtain ⟨y, hy⟩ := get_ex (ss := pickM a x.cols) (k := m) (lt_of_dec (by assumption)); refine ⟨_, get_map' hy, ?_⟩) | ((with_reducible refine isSmall ?_) <;> (refine ⟨?_, ?_⟩; kernel_rfl)) | refine ⟨rfl, ?_⟩ | refine ⟨Int.natCast_nonneg _, ?_⟩)) | with_reducible refine Both.mk ?_ ?_ | rintro _ rfl | exact rfl | (split <;> (rename_i h; first | (simp only [beq_self_eq_true, eq_self, decide_true, Bool.not_true, Bool.false_eq_true] at h; done) | (try rw [h])))))
  all_goals (conv => whnf)
  all_goals first
    | exact ⟨⟨k + 1, _, step_up (get_lt hx) hi, get_lt hx, take_all hv hx (fun hc => Bool.noConfusion ((not_ok' h).symm.trans hc.1 : false = true)), rfl⟩, mu_up (get_lt hx) hi⟩
    | (obtain ⟨y, hy⟩ := get_ex (ss := pickM a x.cols) (k := m) (lt_of_dec (by assumption))
       exact ⟨⟨m + 1, _, _, step_up (get_lt hy) hpl, get_lt hy, hun, (by rw [null_up hy, ← hu]; rfl), rfl⟩, mu_up (get_lt hy) hpl⟩)
    | exact ⟨⟨m + 1, _, _, step_up (get_lt hy) hpl, get_lt hy, hun, (by rw [null_up hy, ← hu]; rfl), rfl⟩, mu_up (get_lt hy) hpl⟩
    | (have e : m = (pickM a x.cols).length := by have := of_decide_eq_false (by assumption : decide ((m : Int) < (((pickM a x.cols).map valD).length : Int)) = false); rw [List.length_map] at this; omega
       rw [e, List.take_length] at hu
       first
         | exact ret_true ho ⟨x, get_mem hx, hun, nullB_iff.1 (hu.symm.trans (not_ok' (by assumption : (!u) = true))), cmpL_zero.1 (of_decide_eq_true h)⟩
         | exact ⟨⟨k + 1, _, step_up (get_lt hx) hi, get_lt hx, take_all hv hx (fun hc => of_decide_eq_false h (cmpL_zero.2 hc.2.2)), rfl⟩, mu_up (get_lt hx) hi⟩
         | exact ⟨⟨k + 1, _, step_up (get_lt hx) hi, get_lt hx, take_all hv hx (fun hc => Bool.noConfusion ((not_ok h).symm.trans (hu.trans (nullB_iff.2 hc.2.1)) : true = false)), rfl⟩, mu_up (get_lt hx) hi⟩)
    | (have e : k = s.idxs.length := by have := of_decide_eq_false h; omega
       rw [e, List.take_length] at hv
       exact ret_false ho fun ⟨x, hx, hc⟩ => hv x hx hc)
    | trace_state
theorem val_null {v : Val} (h : valueP v) : v = ⟨0, 0, []⟩ ↔ v.kind = 0 := by
  constructor
  · intro e; rw [e]
  · intro e
    rcases h with ⟨_, h2, h3⟩ | ⟨h1, _⟩ | ⟨h1, _⟩ | ⟨h1, _⟩
    · rcases v with ⟨k, n, t⟩; simp only at e h2 h3; rw [e, h2, h3]
    all_goals omega
theorem eqv_true {w x : Val} (h : (decide (w.kind = x.kind) && (decide (w.n = x.n) && (decide (w.text = x.text) && true))) = true) : w = x := by
  simp only [Bool.and_true, Bool.and_eq_true, decide_eq_true_eq] at h
  rcases w with ⟨k, n, t⟩
  rcases x with ⟨k', n', t'⟩
  obtain ⟨h1, h2, h3⟩ := h
  simp only at h1 h2 h3
  rw [h1, h2, h3]
theorem eqv_false {w x : Val} (h : (decide (w.kind = x.kind) && (decide (w.n = x.n) && (decide (w.text = x.text) && true))) = false) : ¬ w = x := by
  intro e
  subst e
  simp at h
set_option maxHeartbeats 1000000 in
theorem indexVal (vs : List Val) (hl : vs.length ≤ maxLen) (w : Val) : EntQ Tryz.prog 135 [.d (.sl false (vs.map valD)), .d (valD w)] [] (fun R O => ∃ n : Int, R = .d (.i .i64 n) ∧ O = [] ∧ decide (n ≥ 0) = dec (w ∈ vs)) := by
  refine ent_of tok mixed (f := 135) Tryz.func135 (by kernel_rfl) (keep := false) ?_
  repeat' ((conv => whnf) <;> (first | ((with_reducible refine isCall ?_) <;> (first | refine ⟨_, get_map' hx, ?_⟩ | fail)) | ((with_reducible refine isLoop ?_) <;> (first | (refine ⟨[0, 3, 7, 8], [10003], fun st => ∃ (k : Nat) (n : Int), n = k ∧ k ≤ vs.length ∧ (∀ i, i ∈ vs.take k → ¬ i = w) ∧ st = ⟨[(0, .d (.sl false (vs.map valD))), (3, .ptr 10003 0), (7, .d (.i .i64 ((vs.map valD).length : Int))), (8, .d (.i .i64 n))], [(10003, .var (AV.d (valD w)).cells)]⟩, fun st => match look 8 st.env with | some (.d (.i _ n)) => vs.length - n.toNat | _ => 0, rfl, ⟨0, _, rfl, Nat.zero_le _, (fun x hx => by simp at hx), rfl⟩, ?_⟩; rintro st ⟨k, n, rfl, hk, hv, rfl⟩) | refine ⟨_, get_map' hx, ?_⟩ | fail)) | ((with_reducible refine isCut ?_) <;> (first | refine ⟨⟨none⟩, ?_⟩)) | ((first | with_reducible refine isEx ?_ | with_reducible refine isAnd ?_ | with_reducible refine isOr ?_) <;> (first | refine ⟨_, get_map' hx, ?_⟩ | ((with_reducible refine isGet (xs := vs.map valD) (i := ((k : Nat) : Int).toNat) ?_); obtain ⟨x, hx⟩ := get_ex (ss := vs) (k := k) (lt_of_dec (by assumption)); refine ⟨_, get_map' hx, ?_⟩) | ((with_reducible refine isSmall ?_) <;> (refine ⟨?_, ?_⟩; kernel_rfl)) | refine ⟨rfl, ?_⟩ | refine ⟨Int.natCast_nonneg _, ?_⟩)) | with_reducible refine Both.mk ?_ ?_ | rintro _ rfl | exact rfl | (split <;> (rename_i h; first | (simp only [beq_self_eq_true, eq_self, decide_true, Bool.not_true, Bool.false_eq_true] at h; done) | (try rw [h])))))
  all_goals (conv => whnf)
  · refine ⟨_, rfl, rfl, ?_⟩
    rw [dec_true (eqv_true h ▸ get_mem hx)]
    exact decide_eq_true (Int.natCast_nonneg k)
  · exact ⟨⟨k + 1, _, step_up (get_lt hx) hl, get_lt hx, any_no hv hx (fun e => eqv_false h e.symm), rfl⟩, mu_up (get_lt hx) hl⟩
  · refine ⟨_, rfl, rfl, ?_⟩
    have e : k = vs.length := by have := of_decide_eq_false h; rw [List.length_map] at this; omega
    rw [e, List.take_length] at hv
    rw [dec_false fun hm => hv w hm rfl]; rfl
theorem containsVal (vs : List Val) (hl : vs.length ≤ maxLen) (w : Val) : Ent Tryz.prog 117 [.d (.sl false (vs.map valD)), .d (valD w)] [] (.d (.b (dec (w ∈ vs)))) [] := by
  have c1 := indexVal vs hl w
  refine ent_of tok mixed (f := 117) Tryz.func117 (by kernel_rfl) (keep := false) ?_
  repeat' ((conv => whnf) <;> (first | ((with_reducible refine isCall ?_) <;> (first | (refine ⟨_, c1, ?_⟩; rintro _ _ ⟨n, rfl, rfl, hn⟩) | fail)) | ((with_reducible refine isCut ?_) <;> (first | refine ⟨⟨none⟩, ?_⟩)) | ((first | with_reducible refine isEx ?_ | with_reducible refine isAnd ?_ | with_reducible refine isOr ?_) <;> (first | ((with_reducible refine isSmall ?_) <;> (refine ⟨?_, ?_⟩; kernel_rfl)) | refine ⟨rfl, ?_⟩ | refine ⟨Int.natCast_nonneg _, ?_⟩)) | with_reducible refine Both.mk ?_ ?_ | rintro _ rfl | exact rfl | (split <;> (rename_i h; first | (simp only [beq_self_eq_true, eq_self, decide_true, Bool.not_true, Bool.false_eq_true] at h; done) | (try rw [h])))))
  all_goals (conv => whnf)
  all_goals (rw [hn]; exact ⟨rfl, rfl⟩)
set_option maxHeartbeats 1000000 in
theorem equalVals (a b : List Val) (ha : a.length ≤ maxLen) : Ent Tryz.prog 118 [.d (.sl false (a.map valD)), .d (.sl false (b.map valD))] [] (.d (.b (dec (a = b)))) [] := by
  obtain ⟨o, ho⟩ : ∃ o, o = dec (a = b) := ⟨_, rfl⟩
  rw [← ho]
  have hla : (a.map valD).length = a.length := List.length_map ..
  have hlb : (b.map valD).length = b.length := List.length_map ..
  refine ent_of tok mixed (f := 118) Tryz.func118 (by kernel_rfl) (keep := false) ?_
  repeat' ((conv => whnf) <;> (first | ((with_reducible refine isCall ?_) <;> (first | refine ⟨_, get_map' hx, ?_⟩ | refine ⟨_, get_map' hy, ?_⟩ | fail)) | ((with_reducible refine isLoop ?_) <;> (first | (refine ⟨[0, 1, 12, 13], [], fun st => ∃ (k : Nat) (n : Int), n = k ∧ k ≤ a.length ∧ a.length = b.length ∧ a.take k = b.take k ∧ st = ⟨[(0, .d (.sl false (a.map valD))), (1, .d (.sl false (b.map valD))), (12, .d (.i .i64 ((a.map valD).length : Int))), (13, .d (.i .i64 n))], []⟩, fun st => match look 13 st.env with | some (.d (.i _ n)) => a.length - n.toNat | _ => 0, rfl, ⟨0, _, rfl, Nat.zero_le _, (by have := of_decide_eq_true (not_ok (by assumption)); omega), rfl, rfl⟩, ?_⟩; rintro st ⟨k, n, rfl, hk, heq, hv, rfl⟩) | refine ⟨_, get_map' hx, ?_⟩ | refine ⟨_, get_map' hy, ?_⟩ | fail)) | ((with_reducible refine isCut ?_) <;> (first | refine ⟨⟨none⟩, ?_⟩)) | ((first | with_reducible refine isEx ?_ | with_reducible refine isAnd ?_ | with_reducible refine isOr ?_) <;> (first | refine ⟨_, get_map' hx, ?_⟩ | refine ⟨_, get_map' hy, ?_⟩ | ((with_reducible refine isGet (xs := a.map valD) (i := ((k : Nat) : Int).toNat) ?_); obtain ⟨x, hx⟩ := get_ex (ss := a) (k := k) (lt_of_dec (by assumption)); refine ⟨_, get_map' hx, ?_⟩) | ((with_reducible refine isGet (xs := b.map valD) (i := ((k : Nat) : Int).toNat) ?_); obtain ⟨y, hy⟩ := get_ex (ss := b) (k := k) (by have := lt_of_dec (ss := a) (k := k) (f := valD) (by assumption); omega); refine ⟨_, get_map' hy, ?_⟩) | ((with_reducible refine isSmall ?_) <;> (refine ⟨?_, ?_⟩; kernel_rfl)) | refine ⟨rfl, ?_⟩ | refine ⟨Int.natCast_nonneg _, ?_⟩)) | with_reducible refine Both.mk ?_ ?_ | rintro _ rfl | exact rfl | (split <;> (rename_i h; first | (simp only [beq_self_eq_true, eq_self, decide_true, Bool.not_true, Bool.false_eq_true] at h; done) | (try rw [h])))))
  all_goals (conv => whnf)
  all_goals first
    | exact ret_false ho fun e => of_decide_eq_false (not_ok' h) (by rw [hla, hlb, e])
    | exact ret_false ho fun e => eqv_false (not_ok' h) (by rw [e, hy] at hx; cases hx; rfl)
    | exact ⟨⟨k + 1, _, step_up (get_lt hx) ha, get_lt hx, heq, (by rw [take_up hx, take_up hy, hv, eqv_true (not_ok h)]), rfl⟩, mu_up (get_lt hx) ha⟩
    | (have e : k = a.length := by have := of_decide_eq_false h; omega
       rw [e, List.take_length, heq, List.take_length] at hv
       exact ret_true ho hv)
    | trace_state
theorem pick_mem {row : List Val} {cols : List Int} (h : inRow row cols) {v : Val} (hv : v ∈ pickM row cols) : v ∈ row := by
  obtain ⟨c, hc, rfl⟩ := List.mem_map.1 hv
  have := h c hc
  have e : row.getD c.toNat ⟨0, 0, []⟩ = row[c.toNat]'(by omega) := by rw [List.getD_eq_getElem?_getD, List.getElem?_eq_getElem (by omega)]; rfl
  rw [e]; exact List.getElem_mem _
theorem no_null {row : List Val} {cols : List Int} (h : inRow row cols) (hp : ∀ v, v ∈ row → valueP v) : ¬ (⟨0, 0, []⟩ : Val) ∈ pickM row cols ↔ noNull (pickM row cols) := by
  constructor
  · intro hn v hv hk
    exact hn ((val_null (hp v (pick_mem h hv))).2 hk ▸ hv)
  · exact fun hn hm => hn _ hm rfl
set_option maxHeartbeats 1000000 in
theorem clashOne (x : Idx) (a b : List Val) (hc : x.cols.length ≤ 1000) (ha : inRow a x.cols) (hb : inRow b x.cols) (hp : ∀ v, v ∈ a → valueP v) :
    Ent Tryz.prog 116 [.d (idxD x), .ptr 0 0, .ptr 1 0] [.var [.d (.sl false (a.map valD))], .var [.d (.sl false (b.map valD))]] (.d (.b (dec (clashX x a b)))) [.var [.d (.sl false (a.map valD))], .var [.d (.sl false (b.map valD))]] := by
  obtain ⟨o, ho⟩ : ∃ o, o = dec (clashX x a b) := ⟨_, rfl⟩
  rw [← ho]
  have hpl : (pickM a x.cols).length ≤ maxLen := by rw [pickM_len]; exact Nat.le_trans hc (Nat.le_of_ble_eq_true rfl)
  have c1 := implPick a x.cols hc ha
  have c2 := implPick b x.cols hc hb
  have c3 := containsVal (pickM a x.cols) hpl ⟨0, 0, []⟩
  have c4 := equalVals (pickM a x.cols) (pickM b x.cols) hpl
  have hn := no_null ha hp
  refine ent_of tok mixed (f := 116) Tryz.func116 (by kernel_rfl) (keep := false) ?_
  repeat' ((conv => whnf) <;> (first | ((with_reducible refine isCall ?_) <;> (first | (refine ⟨_, c1, ?_⟩; rintro _ _ ⟨rfl, rfl⟩) | (refine ⟨_, c2, ?_⟩; rintro _ _ ⟨rfl, rfl⟩) | (refine ⟨_, c3, ?_⟩; rintro _ _ ⟨rfl, rfl⟩) | (refine ⟨_, c4, ?_⟩; rintro _ _ ⟨rfl, rfl⟩) | fail)) | ((with_reducible refine isCut ?_) <;> (first | refine ⟨⟨none⟩, ?_⟩)) | ((first | with_reducible refine isEx ?_ | with_reducible refine isAnd ?_ | with_reducible refine isOr ?_) <;> (first | ((with_reducible refine isSmall ?_) <;> (refine ⟨?_, ?_⟩; kernel_rfl)) | refine ⟨rfl, ?_⟩ | refine ⟨Int.natCast_nonneg _, ?_⟩)) | with_reducible refine Both.mk ?_ ?_ | rintro _ rfl | exact rfl | (split <;> (rename_i h; first | (simp only [beq_self_eq_true, eq_self, decide_true, Bool.not_true, Bool.false_eq_true] at h; done) | (try rw [h])))))
  all_goals (conv => whnf)
  all_goals first
    | exact ret_false ho fun hP => Bool.noConfusion (h.symm.trans hP.1 : false = true)
    | exact ret_false ho fun hP => hn.2 hP.2.1 (of_dec (not_ok h))
    | exact ret_b ho ⟨fun e => ⟨by assumption, hn.1 (of_ndec (not_ok' h)), of_dec e⟩, fun hP => dec_true hP.2.2⟩
    | trace_state
set_option maxHeartbeats 1000000 in
theorem indexClash (is : List Idx) (a b : List Val) (hl : is.length ≤ maxLen) (ha : idxIn is a) (hb : idxIn is b) (hp : ∀ v, v ∈ a → valueP v) : EntQ Tryz.prog 131 [.d (.sl false (is.map idxD)), .fn 116 [.ptr 0 0, .ptr 1 0]] [.var [.d (.sl false (a.map valD))], .var [.d (.sl false (b.map valD))]]
    (fun R O => ∃ n : Int, R = .d (.i .i64 n) ∧ O = [.var [.d (.sl false (a.map valD))], .var [.d (.sl false (b.map valD))]] ∧ decide (n ≥ 0) = dec (clashP is a b)) := by
  refine ent_of tok mixed (f := 131) Tryz.func131 (by kernel_rfl) (keep := false) ?_
  repeat' ((conv => whnf) <;> (first | ((with_reducible refine isCall ?_) <;> (first | (refine ⟨_, c1, ?_⟩; rintro _ _ ⟨rfl, rfl⟩) | fail)) | ((with_reducible refine isLoop ?_) <;> (first | (refine ⟨[8, 7, 0, 1], [0, 1], fun st => ∃ (k : Nat) (n : Int), n = k ∧ k ≤ is.length ∧ (∀ i, i ∈ is.take k → ¬ clashX i a b) ∧ st = ⟨[(8, .d (.i .i64 n)), (7, .d (.i .i64 ((is.map idxD).length : Int))), (0, .d (.sl false (is.map idxD))), (1, .fn 116 [.ptr 0 0, .ptr 1 0])], [(0, .var [.d (.sl false (a.map valD))]), (1, .var [.d (.sl false (b.map valD))])]⟩, fun st => match look 8 st.env with | some (.d (.i _ n)) => is.length - n.toNat | _ => 0, rfl, ⟨0, _, rfl, Nat.zero_le _, (fun x hx => by simp at hx), rfl⟩, ?_⟩; rintro st ⟨k, n, rfl, hk, hv, rfl⟩) | fail)) | ((with_reducible refine isCut ?_) <;> (first | refine ⟨⟨none⟩, ?_⟩)) | ((first | with_reducible refine isEx ?_ | with_reducible refine isAnd ?_ | with_reducible refine isOr ?_) <;> (first | ((with_reducible refine isGet (xs := is.map idxD) (i := ((k : Nat) : Int).toNat) ?_); obtain ⟨i, hi⟩ := get_ex (ss := is) (k := k) (lt_of_dec (by assumption)); have c1 := clashOne i a b (ha i (get_mem hi)).1 (ha i (get_mem hi)).2 (hb i (get_mem hi)).2 hp; refine ⟨_, get_map' hi, ?_⟩) | ((with_reducible refine isSmall ?_) <;> (refine ⟨?_, ?_⟩; kernel_rfl)) | refine ⟨rfl, ?_⟩ | refine ⟨Int.natCast_nonneg _, ?_⟩)) | with_reducible refine Both.mk ?_ ?_ | rintro _ rfl | exact rfl | (split <;> (rename_i h; first | (simp only [beq_self_eq_true, eq_self, decide_true, Bool.not_true, Bool.false_eq_true] at h; done) | (try rw [h])))))
  all_goals (conv => whnf)
  · refine ⟨_, rfl, rfl, ?_⟩
    rw [dec_true (p := clashP is a b) ⟨i, get_mem hi, of_dec h⟩]
    exact decide_eq_true (Int.natCast_nonneg k)
  · exact ⟨⟨k + 1, _, step_up (get_lt hi) hl, get_lt hi, any_no hv hi (of_ndec h), rfl⟩, mu_up (get_lt hi) hl⟩
  · refine ⟨_, rfl, rfl, ?_⟩
    have e : k = is.length := by have := of_decide_eq_false h; rw [List.length_map] at this; omega
    rw [e, List.take_length] at hv
    rw [dec_false (p := clashP is a b) fun ⟨c, h1, h2⟩ => hv c h1 h2]; rfl
theorem containsClash (is : List Idx) (a b : List Val) (hl : is.length ≤ maxLen) (ha : idxIn is a) (hb : idxIn is b) (hp : ∀ v, v ∈ a → valueP v) : Ent Tryz.prog 110 [.d (.sl false (is.map idxD)), .fn 116 [.ptr 0 0, .ptr 1 0]] [.var [.d (.sl false (a.map valD))], .var [.d (.sl false (b.map valD))]]
    (.d (.b (dec (clashP is a b)))) [.var [.d (.sl false (a.map valD))], .var [.d (.sl false (b.map valD))]] := by
  have c1 := indexClash is a b hl ha hb hp
  refine ent_of tok mixed (f := 110) Tryz.func110 (by kernel_rfl) (keep := false) ?_
  repeat' ((conv => whnf) <;> (first | ((with_reducible refine isCall ?_) <;> (first | (refine ⟨_, c1, ?_⟩; rintro _ _ ⟨n, rfl, rfl, hn⟩) | fail)) | ((with_reducible refine isCut ?_) <;> (first | refine ⟨⟨none⟩, ?_⟩)) | ((first | with_reducible refine isEx ?_ | with_reducible refine isAnd ?_ | with_reducible refine isOr ?_) <;> (first | ((with_reducible refine isSmall ?_) <;> (refine ⟨?_, ?_⟩; kernel_rfl)) | refine ⟨rfl, ?_⟩ | refine ⟨Int.natCast_nonneg _, ?_⟩)) | with_reducible refine Both.mk ?_ ?_ | rintro _ rfl | exact rfl | (split <;> (rename_i h; first | (simp only [beq_self_eq_true, eq_self, decide_true, Bool.not_true, Bool.false_eq_true] at h; done) | (try rw [h])))))
  all_goals (conv => whnf)
  all_goals (rw [hn]; exact ⟨rfl, rfl⟩)
theorem implClash (s : Schema) (a b : List Val) (hl : s.idxs.length ≤ maxLen) (ha : idxIn s.idxs a) (hb : idxIn s.idxs b) (hp : ∀ v, v ∈ a → valueP v) : Ent Tryz.prog 84 [.d (schemaD s), .d (.sl false (a.map valD)), .d (.sl false (b.map valD))] [] (.d (.b (dec (clashP s.idxs a b)))) [] := by
  have c1 := containsClash s.idxs a b hl ha hb hp
  refine ent_of tok mixed (f := 84) Tryz.func84 (by kernel_rfl) (keep := false) ?_
  repeat' ((conv => whnf) <;> (first | ((with_reducible refine isCall ?_) <;> (first | (refine ⟨_, c1, ?_⟩; rintro _ _ ⟨rfl, rfl⟩) | fail)) | ((with_reducible refine isCut ?_) <;> (first | refine ⟨⟨none⟩, ?_⟩)) | ((first | with_reducible refine isEx ?_ | with_reducible refine isAnd ?_ | with_reducible refine isOr ?_) <;> (first | ((with_reducible refine isSmall ?_) <;> (refine ⟨?_, ?_⟩; kernel_rfl)) | refine ⟨rfl, ?_⟩ | refine ⟨Int.natCast_nonneg _, ?_⟩)) | with_reducible refine Both.mk ?_ ?_ | rintro _ rfl | exact rfl | (split <;> (rename_i h; first | (simp only [beq_self_eq_true, eq_self, decide_true, Bool.not_true, Bool.false_eq_true] at h; done) | (try rw [h])))))
end Go.Pm.Tryz
namespace Go.Pm.Tryz
open Go Go.Proofs
set_option linter.unusedVariables false
set_option linter.unusedSimpArgs false
set_option maxRecDepth 100000
structure Tab where
  sch : Schema
  rows : List (List Val)
def rowD (r : List Val) : D := .sl false (r.map valD)
def tabD (t : Tab) : D := .agg [.s t.sch.name, .sl false (t.sch.cols.map colD), .sl false (t.sch.keys.map i64D), .sl false (t.sch.idxs.map idxD), .sl false (t.rows.map rowD)]
def tabC (t : Tab) : List AV := [.d (.s t.sch.name), .d (.sl false (t.sch.cols.map colD)), .d (.sl false (t.sch.keys.map i64D)), .d (.sl false (t.sch.idxs.map idxD)), .d (.sl false (t.rows.map rowD))]
structure Tab.fits (t : Tab) : Prop where
  sch : t.sch.fits
  rows : t.rows.length ≤ maxLen
  row : ∀ r, r ∈ t.rows → r.length ≤ maxLen
structure before (s : Schema) (rows : List (List Val)) (k : Nat) (row : List Val) : Prop where
  fit : rowP s.cols row
  ord : ∀ p, 0 < k → rows[k - 1]? = some p → cmpL (pickM p s.keys) (pickM row s.keys) < 0
structure rowOk (s : Schema) (rows : List (List Val)) (k : Nat) (row : List Val) : Prop where
  bef : before s rows k row
  apart : ∀ o, o ∈ rows.take k → ¬ clashP s.idxs row o
structure tableP (t : Tab) : Prop where
  sch : schemaP t.sch
  most : t.rows.length ≤ 60
  rows : ∀ k row, t.rows[k]? = some row → rowOk t.sch t.rows k row
theorem keys_len {s : Schema} (h : schemaP s) : s.keys.length ≤ 1000 := by have := colsP_len h.keys; have := h.hi; omega
theorem keys_in {s : Schema} (h : schemaP s) {row : List Val} (hr : rowP s.cols row) : inRow row s.keys := fun c hc => by
  have := colsP_in h.keys hc
  rw [hr.1]; exact this
theorem idxs_in {s : Schema} (h : schemaP s) {row : List Val} (hr : rowP s.cols row) : idxIn s.idxs row := fun x hx => by
  have h1 := h.idxs x hx
  refine ⟨by have := colsP_len h1; have := h.hi; omega, fun c hc => ?_⟩
  have := colsP_in h1 hc
  rw [hr.1]; exact this
theorem row_vals {cs : List Col} {row : List Val} (h : rowP cs row) : ∀ v, v ∈ row → valueP v := fun v hv => by
  obtain ⟨k, hk⟩ := List.getElem?_of_mem hv
  obtain ⟨c, hc⟩ := get_ex (ss := cs) (k := k) (by have := get_lt hk; have := h.1; omega)
  exact (h.2 k v c hk hc).1
theorem idx_max {s : Schema} (h : schemaP s) : s.idxs.length ≤ maxLen := Nat.le_trans h.idx (Nat.le_of_ble_eq_true rfl)
theorem pick_max {s : Schema} (h : schemaP s) (row : List Val) : (pickM row s.keys).length ≤ maxLen := by rw [pickM_len]; exact Nat.le_trans (keys_len h) (Nat.le_of_ble_eq_true rfl)
theorem le_max2 {n : Nat} (h : n ≤ 2000000) : n ≤ maxLen := Nat.le_trans h (Nat.le_of_ble_eq_true rfl)
theorem wrap_prev {k : Nat} (h0 : decide ((k : Int) > 0) = true) (h : k ≤ 2000000) : IntKind.i64.wrap ((k : Int) - 1) = ((k - 1 : Nat) : Int) := by
  have := of_decide_eq_true h0
  rw [wrap_i64_id _ (by omega) (by omega)]; omega
theorem prevOf {α : Type} {f : α → D} {xs : List α} {k : Nat} (h0 : decide ((k : Int) > 0) = true) (hk : k < xs.length) (hm : k ≤ 2000000) : ∃ p, xs[k - 1]? = some p ∧ (xs.map f)[(IntKind.i64.wrap ((k : Int) - 1)).toNat]? = some (f p) := by
  obtain ⟨p, hp⟩ := get_ex (ss := xs) (k := k - 1) (by omega)
  refine ⟨p, hp, ?_⟩
  rw [wrap_prev h0 hm]
  exact get_map' hp
theorem up_rows {s : Schema} {rows : List (List Val)} {k : Nat} (h : ∀ j r, j < k → rows[j]? = some r → rowOk s rows j r) {row : List Val} (hr : rows[k]? = some row) (h1 : rowOk s rows k row) : ∀ j r, j < k + 1 → rows[j]? = some r → rowOk s rows j r := by
  intro j r hj hjr
  by_cases e : j = k
  · subst e; rw [hr] at hjr; cases hjr; exact h1
  · exact h j r (by omega) hjr
set_option maxHeartbeats 8000000 in
theorem specTableRight (t : Tab) (ht : t.fits) : Ent Tryz.prog 34 [.d (tabD t)] [] (.d (.b (dec (tableP t)))) [] := by
  obtain ⟨o, ho⟩ : ∃ o, o = dec (tableP t) := ⟨_, rfl⟩
  rw [← ho]
  have hrl : (t.rows.map rowD).length = t.rows.length := List.length_map ..
  have c1 := specSchemaRight t.sch ht.sch
  refine ent_of tok mixed (f := 34) Tryz.func34 (by kernel_rfl) (keep := false) ?_
  repeat' ((conv => whnf) <;> (first | ((with_reducible refine isCall ?_) <;> (first | (refine ⟨_, c1, ?_⟩; rintro _ _ ⟨rfl, rfl⟩) | (refine ⟨_, c2, ?_⟩; rintro _ _ ⟨rfl, rfl⟩) | (refine ⟨_, c4 (not_ok (by assumption)), ?_⟩; rintro _ _ ⟨rfl, rfl⟩) | (refine ⟨_, c5, ?_⟩; rintro _ _ ⟨rfl, rfl⟩) | (refine ⟨_, c6, ?_⟩; rintro _ _ ⟨rfl, rfl⟩) | (refine ⟨_, c7, ?_⟩; rintro _ _ ⟨rfl, rfl⟩) | refine ⟨_, get_map' hrow, ?_⟩ | refine ⟨_, get_map' hq, ?_⟩ | (obtain ⟨p, hp, hpi⟩ := prevOf (f := rowD) (xs := t.rows) (k := k) (by assumption) (get_lt hrow) (by omega); have hpR := (hv (k - 1) p (by have := of_decide_eq_true (by assumption : decide ((k : Int) > 0) = true); omega) hp).bef.fit; have c5 := specKey t.sch p hkl (keys_in hS hpR); have c6 := l02Compare (pickM p t.sch.keys) (pickM row t.sch.keys) (hpm p) (hpm row); refine ⟨_, hpi, ?_⟩) | (refine ⟨(by rw [wrap_prev (by assumption) (by omega)]; omega), ?_⟩) | fail)) | ((with_reducible refine isLoop ?_) <;> (first | (refine ⟨[1, 3], [10001], fun st => ∃ (k : Nat) (i : Int), i = k ∧ k ≤ t.rows.length ∧ t.rows.length ≤ 60 ∧ schemaP t.sch ∧ (∀ j r, j < k → t.rows[j]? = some r → rowOk t.sch t.rows j r) ∧ st = ⟨[(1, .ptr 10001 0), (3, .d (.i .i64 i))], [(10001, .var (tabC t))]⟩, fun st => match look 3 st.env with | some (.d (.i _ i)) => t.rows.length - i.toNat | _ => 0, rfl, ⟨0, _, rfl, Nat.zero_le _, (by have := of_decide_eq_false (by assumption : decide (((t.rows.map rowD).length : Int) > 60) = false); omega), of_dec (not_ok (by assumption)), (fun j r hj => absurd hj (Nat.not_lt_zero _)), rfl⟩, ?_⟩; rintro st ⟨k, i, rfl, hk, h60, hS, hv, rfl⟩; have hkl := keys_len hS; have hpm := pick_max hS) | (refine ⟨[1, 3, 4], [10001], fun st => ∃ (m : Nat) (i : Int), i = m ∧ m ≤ k ∧ before t.sch t.rows k row ∧ (∀ o, o ∈ t.rows.take m → ¬ clashP t.sch.idxs row o) ∧ st = ⟨[(1, .ptr 10001 0), (3, .d (.i .i64 k)), (4, .d (.i .i64 i))], [(10001, .var (tabC t))]⟩, fun st => match look 4 st.env with | some (.d (.i _ i)) => k - i.toNat | _ => 0, rfl, ⟨0, _, rfl, Nat.zero_le _, ?_, (fun x hx => by simp at hx), rfl⟩, ?_⟩; rotate_left; rintro st ⟨m, i, rfl, hm, hB, hw, rfl⟩) | refine ⟨_, get_map' hrow, ?_⟩ | refine ⟨_, get_map' hq, ?_⟩ | (obtain ⟨p, hp, hpi⟩ := prevOf (f := rowD) (xs := t.rows) (k := k) (by assumption) (get_lt hrow) (by omega); have hpR := (hv (k - 1) p (by have := of_decide_eq_true (by assumption : decide ((k : Int) > 0) = true); omega) hp).bef.fit; have c5 := specKey t.sch p hkl (keys_in hS hpR); have c6 := l02Compare (pickM p t.sch.keys) (pickM row t.sch.keys) (hpm p) (hpm row); refine ⟨_, hpi, ?_⟩) | (refine ⟨(by rw [wrap_prev (by assumption) (by omega)]; omega), ?_⟩) | fail)) | ((with_reducible refine isCut ?_) <;> (first | refine ⟨⟨none⟩, ?_⟩)) | ((first | with_reducible refine isEx ?_ | with_reducible refine isAnd ?_ | with_reducible refine isOr ?_) <;> (first | refine ⟨_, get_map' hrow, ?_⟩ | refine ⟨_, get_map' hq, ?_⟩ | ((with_reducible refine isGet (xs := t.rows.map rowD) (i := ((m : Nat) : Int).toNat) ?_); obtain ⟨q, hq⟩ := get_ex (ss := t.rows) (k := m) (by have := get_lt hrow; have := lt_of_dec' (by assumption : decide ((m : Int) < (k : Int)) = true); omega); have hqm := lt_of_dec' (by assumption : decide ((m : Int) < (k : Int)) = true); have c7 := specClash t.sch row q (idx_max hS) (idxs_in hS hB.fit) (idxs_in hS (hv m q hqm hq).bef.fit); refine ⟨_, get_map' hq, ?_⟩) | ((with_reducible refine isGet (xs := t.rows.map rowD) (i := ((k : Nat) : Int).toNat) ?_); obtain ⟨row, hrow⟩ := get_ex (ss := t.rows) (k := k) (lt_of_dec (by assumption)); have c2 := specRow t.sch row (ht.row row (get_mem hrow)); have c4 := (fun h : dec (rowP t.sch.cols row) = true => specKey t.sch row hkl (keys_in hS (of_dec h))); refine ⟨_, get_map' hrow, ?_⟩) | (obtain ⟨p, hp, hpi⟩ := prevOf (f := rowD) (xs := t.rows) (k := k) (by assumption) (get_lt hrow) (by omega); have hpR := (hv (k - 1) p (by have := of_decide_eq_true (by assumption : decide ((k : Int) > 0) = true); omega) hp).bef.fit; have c5 := specKey t.sch p hkl (keys_in hS hpR); have c6 := l02Compare (pickM p t.sch.keys) (pickM row t.sch.keys) (hpm p) (hpm row); refine ⟨_, hpi, ?_⟩) | (refine ⟨(by rw [wrap_prev (by assumption) (by omega)]; omega), ?_⟩) | ((with_reducible refine isSmall ?_) <;> (refine ⟨?_, ?_⟩; kernel_rfl)) | refine ⟨rfl, ?_⟩ | refine ⟨Int.natCast_nonneg _, ?_⟩)) | with_reducible refine Both.mk ?_ ?_ | rintro _ rfl | exact rfl | (split <;> (rename_i h; first | (simp only [beq_self_eq_true, eq_self, decide_true, Bool.not_true, Bool.false_eq_true] at h; done) | (try rw [h])))))
  all_goals (conv => whnf)
  all_goals first
    | exact ret_false ho fun hP => of_ndec (not_ok' h) hP.sch
    | exact ret_false ho fun hP => by have := of_decide_eq_true h; have := hP.most; omega
    | exact ret_false ho fun hP => of_ndec (not_ok' h) (hP.rows k row hrow).bef.fit
    | exact ret_false ho fun hP => Int.not_le.2 ((hP.rows k row hrow).bef.ord p (by have := of_decide_eq_true (by assumption : decide ((k : Int) > 0) = true); omega) hp) (of_decide_eq_true h)
    | exact ret_false ho fun hP => (hP.rows k row hrow).apart q (take_mem hq hqm) (of_dec h)
    | exact ⟨⟨m + 1, _, step_up (n := t.rows.length) (by have := get_lt hrow; omega) ht.rows, hqm, hB, take_all hw hq (of_ndec h), rfl⟩, by have := ht.rows; have := get_lt hrow; exact mu_up (n := k) hqm (by omega)⟩
    | (have e : m = k := by have := of_decide_eq_false (by assumption : decide ((m : Int) < (k : Int)) = false); omega
       rw [e] at hw
       exact ⟨⟨k + 1, _, step_up (get_lt hrow) ht.rows, get_lt hrow, h60, hS, up_rows hv hrow ⟨hB, hw⟩, rfl⟩, mu_up (get_lt hrow) ht.rows⟩)
    | exact ⟨of_dec (not_ok (by assumption)), fun p' _ hp' => by rw [hp] at hp'; cases hp'; exact Int.not_le.1 (of_decide_eq_false h)⟩
    | exact ⟨of_dec (not_ok (by assumption)), fun p' h0 _ => by have := of_decide_eq_false h; omega⟩
    | (have e : k = t.rows.length := by have := of_decide_eq_false h; omega
       exact ret_true ho ⟨hS, h60, fun j r hj => hv j r (by rw [e]; exact get_lt hj) hj⟩)
    | trace_state
theorem clashRow (t : Tab) (row o : List Val) (hS : schemaP t.sch) (h1 : rowP t.sch.cols row) (h2 : rowP t.sch.cols o) : Ent Tryz.prog 83 [.d (rowD o), .ptr 0 0, .ptr 1 0] [.var (tabC t), .var [.d (rowD row)]] (.d (.b (dec (clashP t.sch.idxs o row)))) [.var (tabC t), .var [.d (rowD row)]] := by
  have c1 := implClash t.sch o row (idx_max hS) (idxs_in hS h2) (idxs_in hS h1) (row_vals h2)
  generalize dec (clashP t.sch.idxs o row) = u at *
  refine ent_of tok mixed (f := 83) Tryz.func83 (by kernel_rfl) (keep := false) ?_
  repeat' ((conv => whnf) <;> (first | ((with_reducible refine isCall ?_) <;> (first | (refine ⟨_, c1, ?_⟩; rintro _ _ ⟨rfl, rfl⟩) | fail)) | ((with_reducible refine isCut ?_) <;> (first | refine ⟨⟨none⟩, ?_⟩)) | ((first | with_reducible refine isEx ?_ | with_reducible refine isAnd ?_ | with_reducible refine isOr ?_) <;> (first | ((with_reducible refine isSmall ?_) <;> (refine ⟨?_, ?_⟩; kernel_rfl)) | refine ⟨rfl, ?_⟩ | refine ⟨Int.natCast_nonneg _, ?_⟩)) | with_reducible refine Both.mk ?_ ?_ | rintro _ rfl | exact rfl | (split <;> (rename_i h; first | (simp only [beq_self_eq_true, eq_self, decide_true, Bool.not_true, Bool.false_eq_true] at h; done) | (try rw [h])))))
set_option maxHeartbeats 2000000 in
theorem indexRows (t : Tab) (row : List Val) (os : List (List Val)) (hl : os.length ≤ maxLen) (hS : schemaP t.sch) (h1 : rowP t.sch.cols row) (h2 : ∀ o, o ∈ os → rowP t.sch.cols o) : EntQ Tryz.prog 115 [.d (.sl false (os.map rowD)), .fn 83 [.ptr 0 0, .ptr 1 0]] [.var (tabC t), .var [.d (rowD row)]]
    (fun R O => ∃ n : Int, R = .d (.i .i64 n) ∧ O = [.var (tabC t), .var [.d (rowD row)]] ∧ decide (n ≥ 0) = dec (∃ o, o ∈ os ∧ clashP t.sch.idxs o row)) := by
  refine ent_of tok mixed (f := 115) Tryz.func115 (by kernel_rfl) (keep := false) ?_
  repeat' ((conv => whnf) <;> (first | ((with_reducible refine isCall ?_) <;> (first | (refine ⟨_, c1, ?_⟩; rintro _ _ ⟨rfl, rfl⟩) | fail)) | ((with_reducible refine isLoop ?_) <;> (first | (refine ⟨[8, 7, 0, 1], [0, 1], fun st => ∃ (k : Nat) (n : Int), n = k ∧ k ≤ os.length ∧ (∀ i, i ∈ os.take k → ¬ clashP t.sch.idxs i row) ∧ st = ⟨[(8, .d (.i .i64 n)), (7, .d (.i .i64 ((os.map rowD).length : Int))), (0, .d (.sl false (os.map rowD))), (1, .fn 83 [.ptr 0 0, .ptr 1 0])], [(0, .var (tabC t)), (1, .var [.d (rowD row)])]⟩, fun st => match look 8 st.env with | some (.d (.i _ n)) => os.length - n.toNat | _ => 0, rfl, ⟨0, _, rfl, Nat.zero_le _, (fun x hx => by simp at hx), rfl⟩, ?_⟩; rintro st ⟨k, n, rfl, hk, hv, rfl⟩) | fail)) | ((with_reducible refine isCut ?_) <;> (first | refine ⟨⟨none⟩, ?_⟩)) | ((first | with_reducible refine isEx ?_ | with_reducible refine isAnd ?_ | with_reducible refine isOr ?_) <;> (first | ((with_reducible refine isGet (xs := os.map rowD) (i := ((k : Nat) : Int).toNat) ?_); obtain ⟨i, hi⟩ := get_ex (ss := os) (k := k) (lt_of_dec (by assumption)); have c1 := clashRow t row i hS h1 (h2 i (get_mem hi)); refine ⟨_, get_map' hi, ?_⟩) | ((with_reducible refine isSmall ?_) <;> (refine ⟨?_, ?_⟩; kernel_rfl)) | refine ⟨rfl, ?_⟩ | refine ⟨Int.natCast_nonneg _, ?_⟩)) | with_reducible refine Both.mk ?_ ?_ | rintro _ rfl | exact rfl | (split <;> (rename_i h; first | (simp only [beq_self_eq_true, eq_self, decide_true, Bool.not_true, Bool.false_eq_true] at h; done) | (try rw [h])))))
  all_goals (conv => whnf)
  · refine ⟨_, rfl, rfl, ?_⟩
    rw [dec_true ⟨i, get_mem hi, of_dec h⟩]
    exact decide_eq_true (Int.natCast_nonneg k)
  · exact ⟨⟨k + 1, _, step_up (get_lt hi) hl, get_lt hi, any_no hv hi (of_ndec h), rfl⟩, mu_up (get_lt hi) hl⟩
  · refine ⟨_, rfl, rfl, ?_⟩
    have e : k = os.length := by have := of_decide_eq_false h; rw [List.length_map] at this; omega
    rw [e, List.take_length] at hv
    rw [dec_false fun ⟨c, h1, h2⟩ => hv c h1 h2]; rfl
theorem containsRows (t : Tab) (row : List Val) (os : List (List Val)) (k : Nat) (hl : os.length ≤ maxLen) (hS : schemaP t.sch) (h1 : rowP t.sch.cols row) (h2 : ∀ o, o ∈ os.take k → rowP t.sch.cols o) : Ent Tryz.prog 82 [.d (.sl false (((os.map rowD).take k).drop 0)), .fn 83 [.ptr 0 0, .ptr 1 0]] [.var (tabC t), .var [.d (rowD row)]]
    (.d (.b (dec (∃ o, o ∈ os.take k ∧ clashP t.sch.idxs o row)))) [.var (tabC t), .var [.d (rowD row)]] := by
  have e : ((os.map rowD).take k).drop 0 = (os.take k).map rowD := by simp [List.map_take]
  rw [e]
  have c1 := indexRows t row (os.take k) (by rw [List.length_take]; omega) hS h1 h2
  refine ent_of tok mixed (f := 82) Tryz.func82 (by kernel_rfl) (keep := false) ?_
  repeat' ((conv => whnf) <;> (first | ((with_reducible refine isCall ?_) <;> (first | (refine ⟨_, c1, ?_⟩; rintro _ _ ⟨n, rfl, rfl, hn⟩) | fail)) | ((with_reducible refine isCut ?_) <;> (first | refine ⟨⟨none⟩, ?_⟩)) | ((first | with_reducible refine isEx ?_ | with_reducible refine isAnd ?_ | with_reducible refine isOr ?_) <;> (first | ((with_reducible refine isSmall ?_) <;> (refine ⟨?_, ?_⟩; kernel_rfl)) | refine ⟨rfl, ?_⟩ | refine ⟨Int.natCast_nonneg _, ?_⟩)) | with_reducible refine Both.mk ?_ ?_ | rintro _ rfl | exact rfl | (split <;> (rename_i h; first | (simp only [beq_self_eq_true, eq_self, decide_true, Bool.not_true, Bool.false_eq_true] at h; done) | (try rw [h])))))
  all_goals (conv => whnf)
  all_goals (rw [hn]; exact ⟨rfl, rfl⟩)
theorem rowOnes (rs : List (List Val)) : ∀ x, x ∈ rs.map rowD → x.cells.length = 1 := by
  intro x hx
  obtain ⟨n, _, rfl⟩ := List.mem_map.1 hx
  rfl
theorem prev_rows {s : Schema} {rows : List (List Val)} {k : Nat} (h : ∀ j r, j < k → rows[j]? = some r → rowOk s rows j r) : ∀ o, o ∈ rows.take k → rowP s.cols o := fun o ho => by
  obtain ⟨j, hj⟩ := List.getElem?_of_mem ho
  rw [List.getElem?_take] at hj
  by_cases e : j < k
  · rw [if_pos e] at hj; exact (h j o e hj).bef.fit
  · rw [if_neg e] at hj; cases hj
set_option maxHeartbeats 8000000 in
theorem implTableRight (t : Tab) (ht : t.fits) : Ent Tryz.prog 47 [.d (tabD t)] [] (.d (.b (dec (tableP t)))) [] := by
  obtain ⟨o, ho⟩ : ∃ o, o = dec (tableP t) := ⟨_, rfl⟩
  rw [← ho]
  have hrl : (t.rows.map rowD).length = t.rows.length := List.length_map ..
  have c1 := implSchemaRight t.sch ht.sch
  refine ent_of tok mixed (f := 47) Tryz.func47 (by kernel_rfl) (keep := false) ?_
  repeat' ((conv => whnf) <;> (first | ((with_reducible refine isCall ?_) <;> (first | (refine ⟨_, c1, ?_⟩; rintro _ _ ⟨rfl, rfl⟩) | (refine ⟨_, c2, ?_⟩; rintro _ _ ⟨rfl, rfl⟩) | (refine ⟨_, c4 (not_ok (by assumption)), ?_⟩; rintro _ _ ⟨rfl, rfl⟩) | (refine ⟨_, c5, ?_⟩; rintro _ _ ⟨rfl, rfl⟩) | (refine ⟨_, c6, ?_⟩; rintro _ _ ⟨rfl, rfl⟩) | (refine ⟨_, c7 (not_ok (by assumption)), ?_⟩; rintro _ _ ⟨rfl, rfl⟩) | refine ⟨_, get_map' hrow, ?_⟩ | (obtain ⟨p, hp, hpi⟩ := prevOf (f := rowD) (xs := t.rows) (k := k) (by assumption) (get_lt hrow) (by omega); have hpR := (hv (k - 1) p (by have := of_decide_eq_true (by assumption : decide ((k : Int) > 0) = true); omega) hp).bef.fit; have c5 := implKey t.sch p hkl (keys_in hS hpR); have c6 := implCompare (pickM p t.sch.keys) (pickM row t.sch.keys) (hpm p) (hpm row); refine ⟨_, hpi, ?_⟩) | refine ⟨⟨rowOnes _, by decide⟩, ?_⟩ | refine ⟨⟨Int.natCast_nonneg _, (by have := get_lt hrow; rw [List.length_map]; omega)⟩, ?_⟩ | (refine ⟨(by rw [wrap_prev (by assumption) (by omega)]; omega), ?_⟩) | fail)) | ((with_reducible refine isLoop ?_) <;> (first | (refine ⟨[1, 16, 17, 18], [10001], fun st => ∃ (k : Nat) (i : Int), i = k ∧ k ≤ t.rows.length ∧ t.rows.length ≤ 60 ∧ schemaP t.sch ∧ (∀ j r, j < k → t.rows[j]? = some r → rowOk t.sch t.rows j r) ∧ st = ⟨[(1, .ptr 10001 0), (16, .d (.sl false (t.rows.map rowD))), (17, .d (.i .i64 ((t.rows.map rowD).length : Int))), (18, .d (.i .i64 i))], [(10001, .var (tabC t))]⟩, fun st => match look 18 st.env with | some (.d (.i _ i)) => t.rows.length - i.toNat | _ => 0, rfl, ⟨0, _, rfl, Nat.zero_le _, (by have := of_decide_eq_false (by assumption : decide (((t.rows.map rowD).length : Int) > 60) = false); omega), of_dec (not_ok (by assumption)), (fun j r hj => absurd hj (Nat.not_lt_zero _)), rfl⟩, ?_⟩; rintro st ⟨k, i, rfl, hk, h60, hS, hv, rfl⟩; have hkl := keys_len hS; have hpm := pick_max hS) | refine ⟨_, get_map' hrow, ?_⟩ | (obtain ⟨p, hp, hpi⟩ := prevOf (f := rowD) (xs := t.rows) (k := k) (by assumption) (get_lt hrow) (by omega); have hpR := (hv (k - 1) p (by have := of_decide_eq_true (by assumption : decide ((k : Int) > 0) = true); omega) hp).bef.fit; have c5 := implKey t.sch p hkl (keys_in hS hpR); have c6 := implCompare (pickM p t.sch.keys) (pickM row t.sch.keys) (hpm p) (hpm row); refine ⟨_, hpi, ?_⟩) | refine ⟨⟨rowOnes _, by decide⟩, ?_⟩ | refine ⟨⟨Int.natCast_nonneg _, (by have := get_lt hrow; rw [List.length_map]; omega)⟩, ?_⟩ | (refine ⟨(by rw [wrap_prev (by assumption) (by omega)]; omega), ?_⟩) | fail)) | ((with_reducible refine isCut ?_) <;> (first | refine ⟨⟨none⟩, ?_⟩)) | ((first | with_reducible refine isEx ?_ | with_reducible refine isAnd ?_ | with_reducible refine isOr ?_) <;> (first | refine ⟨_, get_map' hrow, ?_⟩ | ((with_reducible refine isGet (xs := t.rows.map rowD) (i := ((k : Nat) : Int).toNat) ?_); obtain ⟨row, hrow⟩ := get_ex (ss := t.rows) (k := k) (lt_of_dec (by assumption)); have c2 := implRow t.sch row (ht.row row (get_mem hrow)); have c4 := (fun h : dec (rowP t.sch.cols row) = true => implKey t.sch row hkl (keys_in hS (of_dec h))); have c7 := (fun h : dec (rowP t.sch.cols row) = true => containsRows t row t.rows k ht.rows hS (of_dec h) (prev_rows hv)); refine ⟨_, get_map' hrow, ?_⟩) | (obtain ⟨p, hp, hpi⟩ := prevOf (f := rowD) (xs := t.rows) (k := k) (by assumption) (get_lt hrow) (by omega); have hpR := (hv (k - 1) p (by have := of_decide_eq_true (by assumption : decide ((k : Int) > 0) = true); omega) hp).bef.fit; have c5 := implKey t.sch p hkl (keys_in hS hpR); have c6 := implCompare (pickM p t.sch.keys) (pickM row t.sch.keys) (hpm p) (hpm row); refine ⟨_, hpi, ?_⟩) | refine ⟨⟨rowOnes _, by decide⟩, ?_⟩ | refine ⟨⟨Int.natCast_nonneg _, (by have := get_lt hrow; rw [List.length_map]; omega)⟩, ?_⟩ | (refine ⟨(by rw [wrap_prev (by assumption) (by omega)]; omega), ?_⟩) | ((with_reducible refine isSmall ?_) <;> (refine ⟨?_, ?_⟩; kernel_rfl)) | refine ⟨rfl, ?_⟩ | refine ⟨Int.natCast_nonneg _, ?_⟩)) | with_reducible refine Both.mk ?_ ?_ | rintro _ rfl | exact rfl | (split <;> (rename_i h; first | (simp only [beq_self_eq_true, eq_self, decide_true, Bool.not_true, Bool.false_eq_true] at h; done) | (try rw [h])))))
  all_goals (conv => whnf)
  all_goals first
    | exact ret_false ho fun hP => of_ndec (not_ok' h) hP.sch
    | exact ret_false ho fun hP => by have := of_decide_eq_true h; have := hP.most; omega
    | exact ret_false ho fun hP => of_ndec (not_ok' h) (hP.rows k row hrow).bef.fit
    | exact ret_false ho fun hP => Int.not_le.2 ((hP.rows k row hrow).bef.ord p (by have := of_decide_eq_true (by assumption : decide ((k : Int) > 0) = true); omega) hp) (of_decide_eq_true h)
    | exact ret_false ho fun hP => (of_dec h).elim fun o hc => (hP.rows k row hrow).apart o hc.1 (clash_symm.1 hc.2)
    | (have ho2 := of_decide_eq_false (by assumption : decide (cmpL (pickM p t.sch.keys) (pickM row t.sch.keys) ≥ 0) = false)
       have hB : before t.sch t.rows k row := ⟨of_dec (not_ok (by assumption)), fun p' _ hp' => by rw [hp] at hp'; cases hp'; exact Int.not_le.1 ho2⟩
       exact ⟨⟨k + 1, _, step_up (get_lt hrow) ht.rows, get_lt hrow, h60, hS, up_rows hv hrow ⟨hB, fun o hc1 hc2 => of_ndec h ⟨o, hc1, clash_symm.1 hc2⟩⟩, rfl⟩, mu_up (get_lt hrow) ht.rows⟩)
    | (have ho2 := of_decide_eq_false (by assumption : decide ((k : Int) > 0) = false)
       have hB : before t.sch t.rows k row := ⟨of_dec (not_ok (by assumption)), fun p' h0 _ => by omega⟩
       exact ⟨⟨k + 1, _, step_up (get_lt hrow) ht.rows, get_lt hrow, h60, hS, up_rows hv hrow ⟨hB, fun o hc1 hc2 => of_ndec h ⟨o, hc1, clash_symm.1 hc2⟩⟩, rfl⟩, mu_up (get_lt hrow) ht.rows⟩)
    | (have e : k = t.rows.length := by have := of_decide_eq_false h; omega
       exact ret_true ho ⟨hS, h60, fun j r hj => hv j r (by rw [e]; exact get_lt hj) hj⟩)
    | trace_state
theorem less_back : ∀ (a b : List UInt8), (Op.bytesLess b a || decide (b = a)) = !Op.bytesLess a b
  | [], [] => by simp [Op.bytesLess]
  | [], _ :: _ => by simp [Op.bytesLess]
  | _ :: _, [] => by simp [Op.bytesLess]
  | x :: a, y :: b => by
    have ih := less_back a b
    by_cases h1 : x < y
    · have h2 : ¬ y < x := fun h => UInt8.lt_irrefl _ (UInt8.lt_trans h1 h)
      have hne : ¬ y = x := fun e => by subst e; exact UInt8.lt_irrefl _ h1
      simp [Op.bytesLess, h1, h2, hne]
    · by_cases h2 : y < x
      · have hne : ¬ x = y := fun e => by subst e; exact h1 h2
        simp [Op.bytesLess, h1, h2, hne]
      · have e : x = y := UInt8.le_antisymm (UInt8.not_lt.1 h2) (UInt8.not_lt.1 h1)
        subst e
        simp [Op.bytesLess, h1]
        simpa using ih
structure tabOk (ts : List Tab) (k : Nat) (t : Tab) : Prop where
  tab : tableP t
  ord : ∀ p, 0 < k → ts[k - 1]? = some p → Op.bytesLess p.sch.name t.sch.name = true
structure dbP (ts : List Tab) : Prop where
  most : ts.length ≤ 8
  tabs : ∀ k t, ts[k]? = some t → tabOk ts k t
theorem up_tabs {ts : List Tab} {k : Nat} (h : ∀ j r, j < k → ts[j]? = some r → tabOk ts j r) {t : Tab} (ht : ts[k]? = some t) (h1 : tabOk ts k t) : ∀ j r, j < k + 1 → ts[j]? = some r → tabOk ts j r := by
  intro j r hj hjr
  by_cases e : j = k
  · subst e; rw [ht] at hjr; cases hjr; exact h1
  · exact h j r (by omega) hjr
set_option maxHeartbeats 8000000 in
theorem specDbRight (ts : List Tab) (hl : ts.length ≤ 2000000) (ha : ∀ t, t ∈ ts → t.fits) : Ent Tryz.prog 15 [.d (.agg [.sl false (ts.map tabD)])] [] (.d (.b (dec (dbP ts)))) [] := by
  obtain ⟨o, ho⟩ : ∃ o, o = dec (dbP ts) := ⟨_, rfl⟩
  rw [← ho]
  have hm := le_max2 hl
  have htl : (ts.map tabD).length = ts.length := List.length_map ..
  refine ent_of tok mixed (f := 15) Tryz.func15 (by kernel_rfl) (keep := false) ?_
  repeat' ((conv => whnf) <;> (first | ((with_reducible refine isCall ?_) <;> (first | (refine ⟨_, c2, ?_⟩; rintro _ _ ⟨rfl, rfl⟩) | refine ⟨_, get_map' ht, ?_⟩ | (obtain ⟨p, hp, hpi⟩ := prevOf (f := tabD) (xs := ts) (k := k) (by assumption) (get_lt ht) (by omega); refine ⟨_, hpi, ?_⟩) | (refine ⟨(by rw [wrap_prev (by assumption) (by omega)]; omega), ?_⟩) | fail)) | ((with_reducible refine isLoop ?_) <;> (first | (refine ⟨[1, 3], [10001], fun st => ∃ (k : Nat) (i : Int), i = k ∧ k ≤ ts.length ∧ ts.length ≤ 8 ∧ (∀ j r, j < k → ts[j]? = some r → tabOk ts j r) ∧ st = ⟨[(1, .ptr 10001 0), (3, .d (.i .i64 i))], [(10001, .var [.d (.sl false (ts.map tabD))])]⟩, fun st => match look 3 st.env with | some (.d (.i _ i)) => ts.length - i.toNat | _ => 0, rfl, ⟨0, _, rfl, Nat.zero_le _, (by have := of_decide_eq_false (by assumption : decide (((ts.map tabD).length : Int) > 8) = false); omega), (fun j r hj => absurd hj (Nat.not_lt_zero _)), rfl⟩, ?_⟩; rintro st ⟨k, i, rfl, hk, h8, hv, rfl⟩) | refine ⟨_, get_map' ht, ?_⟩ | (obtain ⟨p, hp, hpi⟩ := prevOf (f := tabD) (xs := ts) (k := k) (by assumption) (get_lt ht) (by omega); refine ⟨_, hpi, ?_⟩) | (refine ⟨(by rw [wrap_prev (by assumption) (by omega)]; omega), ?_⟩) | fail)) | ((with_reducible refine isCut ?_) <;> (first | refine ⟨⟨none⟩, ?_⟩)) | ((first | with_reducible refine isEx ?_ | with_reducible refine isAnd ?_ | with_reducible refine isOr ?_) <;> (first | refine ⟨_, get_map' ht, ?_⟩ | ((with_reducible refine isGet (xs := ts.map tabD) (i := ((k : Nat) : Int).toNat) ?_); obtain ⟨t, ht⟩ := get_ex (ss := ts) (k := k) (lt_of_dec (by assumption)); have c2 := specTableRight t (ha t (get_mem ht)); refine ⟨_, get_map' ht, ?_⟩) | (obtain ⟨p, hp, hpi⟩ := prevOf (f := tabD) (xs := ts) (k := k) (by assumption) (get_lt ht) (by omega); refine ⟨_, hpi, ?_⟩) | (refine ⟨(by rw [wrap_prev (by assumption) (by omega)]; omega), ?_⟩) | ((with_reducible refine isSmall ?_) <;> (refine ⟨?_, ?_⟩; kernel_rfl)) | refine ⟨rfl, ?_⟩ | refine ⟨Int.natCast_nonneg _, ?_⟩)) | with_reducible refine Both.mk ?_ ?_ | rintro _ rfl | exact rfl | (split <;> (rename_i h; first | (simp only [beq_self_eq_true, eq_self, decide_true, Bool.not_true, Bool.false_eq_true] at h; done) | (try rw [h])))))
  all_goals (conv => whnf)
  all_goals first
    | exact ret_false ho fun hP => by have := of_decide_eq_true h; have := hP.most; omega
    | exact ret_false ho fun hP => of_ndec (not_ok' h) (hP.tabs k t ht).tab
    | exact ret_false ho fun hP => Bool.noConfusion ((not_ok' h).symm.trans ((hP.tabs k t ht).ord p (by have := of_decide_eq_true (by assumption : decide ((k : Int) > 0) = true); omega) hp) : false = true)
    | exact ⟨⟨k + 1, _, step_up (get_lt ht) hm, get_lt ht, h8, up_tabs hv ht ⟨of_dec (not_ok (by assumption)), fun p' _ hp' => by rw [hp] at hp'; cases hp'; exact not_ok h⟩, rfl⟩, mu_up (get_lt ht) hm⟩
    | exact ⟨⟨k + 1, _, step_up (get_lt ht) hm, get_lt ht, h8, up_tabs hv ht ⟨of_dec (not_ok (by assumption)), fun p' h0 _ => by have := of_decide_eq_false h; omega⟩, rfl⟩, mu_up (get_lt ht) hm⟩
    | (have e : k = ts.length := by have := of_decide_eq_false h; omega
       exact ret_true ho ⟨h8, fun j r hj => hv j r (by rw [e]; exact get_lt hj) hj⟩)
    | trace_state
set_option maxHeartbeats 8000000 in
theorem implDbRight (ts : List Tab) (hl : ts.length ≤ 2000000) (ha : ∀ t, t ∈ ts → t.fits) : Ent Tryz.prog 21 [.d (.agg [.sl false (ts.map tabD)])] [] (.d (.b (dec (dbP ts)))) [] := by
  obtain ⟨o, ho⟩ : ∃ o, o = dec (dbP ts) := ⟨_, rfl⟩
  rw [← ho]
  have hm := le_max2 hl
  have htl : (ts.map tabD).length = ts.length := List.length_map ..
  refine ent_of tok mixed (f := 21) Tryz.func21 (by kernel_rfl) (keep := false) ?_
  repeat' ((conv => whnf) <;> (first | ((with_reducible refine isCall ?_) <;> (first | (refine ⟨_, c2, ?_⟩; rintro _ _ ⟨rfl, rfl⟩) | refine ⟨_, get_map' ht, ?_⟩ | (obtain ⟨p, hp, hpi⟩ := prevOf (f := tabD) (xs := ts) (k := k) (by assumption) (get_lt ht) (by have := get_lt ht; omega); refine ⟨_, hpi, ?_⟩) | (refine ⟨(by rw [wrap_prev (by assumption) (by have := get_lt ht; omega)]; omega), ?_⟩) | fail)) | ((with_reducible refine isLoop ?_) <;> (first | (refine ⟨[1, 6, 7, 8], [10001], fun st => ∃ (k : Nat) (i : Int), i = k ∧ k ≤ ts.length ∧ (∀ j r, j < k → ts[j]? = some r → tabOk ts j r) ∧ st = ⟨[(1, .ptr 10001 0), (6, .d (.sl false (ts.map tabD))), (7, .d (.i .i64 ((ts.map tabD).length : Int))), (8, .d (.i .i64 i))], [(10001, .var [.d (.sl false (ts.map tabD))])]⟩, fun st => match look 8 st.env with | some (.d (.i _ i)) => ts.length - i.toNat | _ => 0, rfl, ⟨0, _, rfl, Nat.zero_le _, (fun j r hj => absurd hj (Nat.not_lt_zero _)), rfl⟩, ?_⟩; rintro st ⟨k, i, rfl, hk, hv, rfl⟩) | refine ⟨_, get_map' ht, ?_⟩ | (obtain ⟨p, hp, hpi⟩ := prevOf (f := tabD) (xs := ts) (k := k) (by assumption) (get_lt ht) (by have := get_lt ht; omega); refine ⟨_, hpi, ?_⟩) | (refine ⟨(by rw [wrap_prev (by assumption) (by have := get_lt ht; omega)]; omega), ?_⟩) | fail)) | ((with_reducible refine isCut ?_) <;> (first | refine ⟨⟨none⟩, ?_⟩)) | ((first | with_reducible refine isEx ?_ | with_reducible refine isAnd ?_ | with_reducible refine isOr ?_) <;> (first | refine ⟨_, get_map' ht, ?_⟩ | ((with_reducible refine isGet (xs := ts.map tabD) (i := ((k : Nat) : Int).toNat) ?_); obtain ⟨t, ht⟩ := get_ex (ss := ts) (k := k) (lt_of_dec (by assumption)); have c2 := implTableRight t (ha t (get_mem ht)); refine ⟨_, get_map' ht, ?_⟩) | (obtain ⟨p, hp, hpi⟩ := prevOf (f := tabD) (xs := ts) (k := k) (by assumption) (get_lt ht) (by have := get_lt ht; omega); refine ⟨_, hpi, ?_⟩) | (refine ⟨(by rw [wrap_prev (by assumption) (by have := get_lt ht; omega)]; omega), ?_⟩) | ((with_reducible refine isSmall ?_) <;> (refine ⟨?_, ?_⟩; kernel_rfl)) | refine ⟨rfl, ?_⟩ | refine ⟨Int.natCast_nonneg _, ?_⟩)) | with_reducible refine Both.mk ?_ ?_ | rintro _ rfl | exact rfl | (split <;> (rename_i h; first | (simp only [beq_self_eq_true, eq_self, decide_true, Bool.not_true, Bool.false_eq_true] at h; done) | (try rw [h])))))
  all_goals (conv => whnf)
  all_goals first
    | exact ret_false ho fun hP => of_ndec (not_ok' h) (hP.tabs k t ht).tab
    | exact ret_false ho fun hP => Bool.noConfusion ((not_ok' ((less_back p.sch.name t.sch.name).symm.trans h)).symm.trans ((hP.tabs k t ht).ord p (by have := of_decide_eq_true (by assumption : decide ((k : Int) > 0) = true); omega) hp) : false = true)
    | exact ⟨⟨k + 1, _, step_up (get_lt ht) hm, get_lt ht, up_tabs hv ht ⟨of_dec (not_ok (by assumption)), fun p' _ hp' => by rw [hp] at hp'; cases hp'; exact not_ok ((less_back p.sch.name t.sch.name).symm.trans h)⟩, rfl⟩, mu_up (get_lt ht) hm⟩
    | exact ⟨⟨k + 1, _, step_up (get_lt ht) hm, get_lt ht, up_tabs hv ht ⟨of_dec (not_ok (by assumption)), fun p' h0 _ => by have := of_decide_eq_false h; omega⟩, rfl⟩, mu_up (get_lt ht) hm⟩
    | (have e : k = ts.length := by have := of_decide_eq_false h; omega
       refine ret_b ho ⟨fun hb => ⟨by have := of_decide_eq_true hb; omega, fun j r hj => hv j r (by rw [e]; exact get_lt hj) hj⟩, fun hP => decide_eq_true (by rw [htl]; have := hP.most; omega)⟩)
    | trace_state
end Go.Pm.Tryz
namespace Go.Pm.Tryz
open Go Go.Proofs
set_option linter.unusedVariables false
set_option linter.unusedSimpArgs false
set_option maxRecDepth 100000
theorem ixb_none : ∀ {t : List UInt8} {c : UInt8}, Lib.indexByte t c = -1 → c ∉ t
  | [], c, _ => by simp
  | b :: l, c, h => by
    unfold Lib.indexByte at h
    split at h
    · cases h
    · rename_i hb
      split at h
      · rename_i hl
        have := ixb_none (t := l) (c := c) (by simpa using hl)
        intro hm
        rcases List.mem_cons.1 hm with rfl | hm
        · simp at hb
        · exact this hm
      · have := Lib.indexByte_ge l c; rename_i hl; simp at hl; omega
theorem ixb_some : ∀ {t : List UInt8} {c : UInt8}, ¬ Lib.indexByte t c = -1 → ∃ a b, t = a ++ c :: b ∧ c ∉ a ∧ Lib.indexByte t c = (a.length : Int)
  | [], c, h => by exact absurd rfl h
  | b :: l, c, h => by
    unfold Lib.indexByte at h ⊢
    by_cases hb : (b == c) = true
    · rw [if_pos hb]
      have : b = c := by simpa using hb
      subst this
      exact ⟨[], l, rfl, by simp, rfl⟩
    · rw [if_neg hb] at h ⊢
      by_cases hl : (Lib.indexByte l c == -1) = true
      · rw [if_pos hl] at h; exact absurd rfl h
      · rw [if_neg hl]
        obtain ⟨a, r, e, hn, hi⟩ := ixb_some (t := l) (c := c) (by simpa using hl)
        refine ⟨b :: a, r, by rw [e]; rfl, ?_, by rw [hi]; simp⟩
        intro hm
        rcases List.mem_cons.1 hm with rfl | hm
        · simp at hb
        · exact hn hm
structure CutTo (t a b : List UInt8) (found : Bool) : Prop where
  yes : found = true → t = a ++ 46 :: b ∧ (46 : UInt8) ∉ a
  no : found = false → a = t ∧ b = [] ∧ (46 : UInt8) ∉ t
def colOk (t : List UInt8) : Bool := decide (0 ≤ Lib.indexByte t 46) && (nameOk (t.take (Lib.indexByte t 46).toNat) && nameOk (t.drop ((Lib.indexByte t 46).toNat + 1)))
theorem upTo_all {l : List UInt8} : ∀ {n : Nat}, upToOk l n = true → ∀ k, k < n → chOk k (chAt l k) = true
  | 0, _, k, hk => by omega
  | n + 1, h, k, hk => by
    simp only [upToOk, Bool.and_eq_true] at h
    by_cases e : k = n
    · subst e; exact h.2
    · exact upTo_all h.1 k (by omega)
theorem name_no46 {l : List UInt8} (h : nameOk l = true) : (46 : UInt8) ∉ l := by
  intro hm
  simp only [nameOk, Bool.and_eq_true] at h
  obtain ⟨k, hk, e⟩ := List.mem_iff_getElem.1 hm
  have h1 := upTo_all h.2 k hk
  have h2 : chAt l k = 46 := by
    unfold chAt
    rw [List.getD_eq_getElem?_getD, List.getElem?_eq_getElem hk, e]; rfl
  rw [h2] at h1
  simp [chOk] at h1
theorem name_ne {l : List UInt8} (h : nameOk l = true) : l ≠ [] := by
  rintro rfl; simp [nameOk] at h
theorem col_app {a b : List UInt8} (ha : (46 : UInt8) ∉ a) : colOk (a ++ 46 :: b) = (nameOk a && nameOk b) := by
  obtain ⟨a', b', e, hn, hi⟩ := ixb_some (t := a ++ 46 :: b) (c := 46) fun h => ixb_none h (by simp)
  have hab : a' = a ∧ b' = b := by
    have h1 : a'.length = a.length := by
      rcases Nat.lt_trichotomy a'.length a.length with h | h | h
      · have := congrArg (·[a'.length]?) e
        rw [List.getElem?_append_left h, List.getElem?_append_right (Nat.le_refl _), Nat.sub_self] at this
        exact absurd (List.mem_of_getElem? (by rw [this]; rfl)) ha
      · exact h
      · have := congrArg (·[a.length]?) e
        rw [List.getElem?_append_right (Nat.le_refl _), Nat.sub_self, List.getElem?_append_left h] at this
        exact absurd (List.mem_of_getElem? this.symm) hn
    have := List.append_inj e h1.symm
    exact ⟨this.1.symm, by have := this.2; simp at this; exact this.symm⟩
  rw [hab.1] at hi
  have e1 : (Lib.indexByte (a ++ 46 :: b) 46).toNat = a.length := by rw [hi]; rfl
  rw [colOk, e1, decide_eq_true (by omega), Bool.true_and, List.take_left, List.drop_append]
  rw [List.drop_of_length_le (by omega), show a.length + 1 - a.length = 1 by omega]; rfl
theorem col_none {t : List UInt8} (h : (46 : UInt8) ∉ t) : colOk t = false := by
  have : Lib.indexByte t 46 = -1 := by
    by_cases e : Lib.indexByte t 46 = -1
    · exact e
    · obtain ⟨a, b, e1, _, _⟩ := ixb_some e
      exact absurd (by rw [e1]; simp) h
  rw [colOk, this]; rfl
def splitM : List UInt8 → List (List UInt8)
  | [] => [[]]
  | c :: t => match decide (c = 46) with
    | true => [] :: splitM t
    | false => match splitM t with
      | [] => [[c]]
      | p :: ps => (c :: p) :: ps
def preH (p : List UInt8) : List (List UInt8) → List (List UInt8)
  | [] => [p]
  | q :: qs => (p ++ q) :: qs
theorem split_ne : ∀ t : List UInt8, ∃ p ps, splitM t = p :: ps
  | [] => ⟨_, _, rfl⟩
  | c :: t => by
    obtain ⟨p, ps, e⟩ := split_ne t
    unfold splitM
    cases decide (c = 46)
    · rw [e]; exact ⟨_, _, rfl⟩
    · exact ⟨_, _, rfl⟩
theorem split_pt {c : UInt8} {t : List UInt8} (h : c = 46) : splitM (c :: t) = [] :: splitM t := by
  rw [splitM, decide_eq_true h]
theorem split_ch {c : UInt8} {t : List UInt8} (h : ¬ c = 46) : splitM (c :: t) = preH [c] (splitM t) := by
  obtain ⟨p, ps, e⟩ := split_ne t
  rw [splitM, decide_eq_false h, e]; rfl
theorem preH_preH (p q : List UInt8) (l : List (List UInt8)) : preH p (preH q l) = preH (p ++ q) l := by
  cases l with
  | nil => rfl
  | cons r rs => simp [preH, List.append_assoc]
theorem preH_nil {t : List UInt8} : preH [] (splitM t) = splitM t := by
  obtain ⟨p, ps, e⟩ := split_ne t
  rw [e]; rfl
theorem split_app : ∀ {a b : List UInt8}, (46 : UInt8) ∉ a → splitM (a ++ 46 :: b) = a :: splitM b
  | [], b, _ => split_pt rfl
  | c :: a, b, h => by
    have h1 : ¬ c = 46 := fun e => h (by simp [e])
    show splitM (c :: (a ++ 46 :: b)) = _
    rw [split_ch h1, split_app (a := a) fun hm => h (List.mem_cons_of_mem _ hm)]; rfl
theorem split_none : ∀ {t : List UInt8}, (46 : UInt8) ∉ t → splitM t = [t]
  | [], _ => rfl
  | c :: t, h => by
    have h1 : ¬ c = 46 := fun e => h (by simp [e])
    rw [split_ch h1, split_none (t := t) fun hm => h (List.mem_cons_of_mem _ hm)]; rfl
theorem cut_at (t : List UInt8) (h : (46 : UInt8) ∈ t) : ∃ a b, t = a ++ 46 :: b ∧ (46 : UInt8) ∉ a := by
  by_cases e : Lib.indexByte t 46 = -1
  · exact absurd h (ixb_none e)
  · obtain ⟨a, b, h1, h2, _⟩ := ixb_some e
    exact ⟨a, b, h1, h2⟩
def twoOk : List (List UInt8) → Bool
  | [a, b] => nameOk a && nameOk b
  | _ => false
theorem two_col (t : List UInt8) : twoOk (splitM t) = colOk t := by
  by_cases h : (46 : UInt8) ∈ t
  · obtain ⟨a, b, rfl, ha⟩ := cut_at t h
    rw [split_app ha, col_app ha]
    by_cases hb : (46 : UInt8) ∈ b
    · obtain ⟨c, d, rfl, hc⟩ := cut_at b hb
      rw [split_app hc]
      obtain ⟨p, ps, e⟩ := split_ne d
      rw [e]
      have : nameOk (c ++ 46 :: d) = false := by
        cases e : nameOk (c ++ 46 :: d) with
        | false => rfl
        | true => exact absurd hb (name_no46 e)
      rw [this, Bool.and_false]; rfl
    · rw [split_none hb]; rfl
  · rw [split_none h, col_none h]; rfl
theorem cut_col {t a b : List UInt8} {f : Bool} (h : CutTo t a b f) : (nameOk a && nameOk b) = colOk t := by
  cases f with
  | true =>
    obtain ⟨rfl, ha⟩ := h.yes rfl
    rw [col_app ha]
  | false =>
    obtain ⟨rfl, rfl, hn⟩ := h.no rfl
    rw [col_none hn, show nameOk [] = false from rfl, Bool.and_false]
structure Item where
  agg : Int
  col : List UInt8
structure Term where
  col : List UInt8
  op : List UInt8
  val : Val
structure Qry where
  items : List Item
  table : List UInt8
  join : List UInt8
  left : List UInt8
  right : List UInt8
  wh : List Term
  group : List UInt8
  order : List UInt8
  down : Bool
  limit : Int
def itemD (i : Item) : D := .agg [.i .i64 i.agg, .s i.col]
def termD (t : Term) : D := .agg [.s t.col, .s t.op, .i .i64 t.val.kind, .i .i64 t.val.n, .s t.val.text]
def qryD (q : Qry) : D := .agg [.sl false (q.items.map itemD), .s q.table, .s q.join, .s q.left, .s q.right, .sl false (q.wh.map termD), .s q.group, .s q.order, .b q.down, .i .i64 q.limit]
def qryC (q : Qry) : List AV := [.d (.sl false (q.items.map itemD)), .d (.s q.table), .d (.s q.join), .d (.s q.left), .d (.s q.right), .d (.sl false (q.wh.map termD)), .d (.s q.group), .d (.s q.order), .d (.b q.down), .d (.i .i64 q.limit)]
def em (t : List UInt8) : Bool := decide (t = [])
def itemOk (i : Item) : Bool := match decide (i.agg = 1) with
  | true => em i.col
  | false => (decide (0 ≤ i.agg) && decide (i.agg ≤ 4)) && colOk i.col
def opOk (t : List UInt8) : Bool := decide (t = [61]) || (decide (t = [33, 61]) || (decide (t = [60]) || (decide (t = [60, 61]) || (decide (t = [62]) || decide (t = [62, 61])))))
def plCh (c : Int) : Bool := (decide (97 ≤ c) && decide (c ≤ 122)) || ((decide (48 ≤ c) && decide (c ≤ 57)) || (decide (c = 95) || decide (c = 45)))
def plUp (l : List UInt8) : Nat → Bool
  | 0 => true
  | k + 1 => plUp l k && plCh (chAt l k)
def plOk (l : List UInt8) : Bool := plUp l l.length && decide (l.length ≤ 40)
def isW (t : List UInt8) : Bool := decide (t = [105, 115])
noncomputable def valOkB (v : Val) : Bool := dec (valueP v)
noncomputable def saidB (v : Val) : Bool := (!decide (v.kind = 3) || plOk v.text) && (decide (v.n < 1000000000000000000) && decide (v.n > -1000000000000000000))
noncomputable def termOk (t : Term) : Bool := colOk t.col && (valOkB t.val && match isW t.op with
  | true => decide (t.val.kind = 0)
  | false => !decide (t.val.kind = 0) && (opOk t.op && saidB t.val))
def grouped (q : Qry) : Bool := !em q.group || q.items.any fun i => !decide (i.agg = 0)
def plainIn (q : Qry) (i : Item) : Bool := !(decide (i.agg = 0) && !decide (i.col = q.group))
noncomputable def joinOk (q : Qry) : Bool := (em q.join && (em q.left && em q.right)) || (!em q.join && ((nameOk q.join && !decide (q.join = q.table)) && (colOk q.left && colOk q.right)))
noncomputable def qryOk (q : Qry) : Bool := (((inside (q.items.length : Int) 1 10) && q.items.all itemOk) && nameOk q.table) && (joinOk q && ((decide (q.wh.length ≤ 20) && q.wh.all termOk) &&
  (((em q.group || colOk q.group) && (em q.order || colOk q.order)) && ((!em q.order || !q.down) && (inside q.limit (-1) 1000 && (!grouped q || ((em q.order || decide (q.order = q.group)) && q.items.all (plainIn q))))))))
structure Qry.fits (q : Qry) : Prop where
  items : q.items.length ≤ 2000000
  wh : q.wh.length ≤ 2000000
  icol : ∀ i, i ∈ q.items → i.col.length ≤ 2000000
  tcol : ∀ t, t ∈ q.wh → t.col.length ≤ 2000000 ∧ t.op.length ≤ 2000000 ∧ t.val.text.length ≤ 2000000
  table : q.table.length ≤ 2000000
  join : q.join.length ≤ 2000000
  left : q.left.length ≤ 2000000
  right : q.right.length ≤ 2000000
  group : q.group.length ≤ 2000000
  order : q.order.length ≤ 2000000
end Go.Pm.Tryz
namespace Go.Pm.Tryz
open Go Go.Proofs
set_option linter.unusedVariables false
set_option linter.unusedSimpArgs false
set_option maxRecDepth 100000
def findM (nm : List UInt8) : List Tab → Nat → Int
  | [], _ => -1
  | t :: ts, k => match decide (t.sch.name = nm) with | true => (k : Int) | false => findM nm ts (k + 1)
theorem find_here {nm : List UInt8} {ts : List Tab} {k : Nat} {t : Tab} (ht : ts[k]? = some t) (h : decide (t.sch.name = nm) = true) : findM nm (ts.drop k) k = (k : Int) := by
  obtain ⟨hk, rfl⟩ := List.getElem?_eq_some_iff.1 ht
  rw [List.drop_eq_getElem_cons hk, findM, h]
theorem find_next {nm : List UInt8} {ts : List Tab} {k : Nat} {t : Tab} (ht : ts[k]? = some t) (h : decide (t.sch.name = nm) = false) : findM nm (ts.drop k) k = findM nm (ts.drop (k + 1)) (k + 1) := by
  obtain ⟨hk, rfl⟩ := List.getElem?_eq_some_iff.1 ht
  rw [List.drop_eq_getElem_cons hk, findM, h]
theorem find_range {nm : List UInt8} : ∀ (ts : List Tab) (k : Nat), 0 ≤ findM nm ts k → ∃ j : Nat, findM nm ts k = ((k + j : Nat) : Int) ∧ j < ts.length
  | [], _, h => by simp [findM] at h
  | t :: ts, k, h => by
    rw [findM] at h ⊢
    cases hd : decide (t.sch.name = nm) with
    | true => exact ⟨0, by simp, by simp⟩
    | false =>
      rw [hd] at h
      obtain ⟨j, h1, h2⟩ := find_range ts (k + 1) h
      exact ⟨j + 1, by simp only []; rw [h1]; omega, by simp; omega⟩
def dbArg (ts : List Tab) : D := .agg [.sl false (ts.map tabD)]
set_option maxHeartbeats 2000000 in
theorem specFind (ts : List Tab) (hl : ts.length ≤ maxLen) (nm : List UInt8) : Ent Tryz.prog 40 [.d (dbArg ts), .d (.s nm)] [] (.d (.i .i64 (findM nm ts 0))) [] := by
  obtain ⟨o, ho⟩ : ∃ o, o = findM nm ts 0 := ⟨_, rfl⟩
  rw [← ho]
  refine ent_of tok mixed (f := 40) Tryz.func40 (by kernel_rfl) (keep := false) ?_
  repeat' ((conv => whnf) <;> (first | ((with_reducible refine isCall ?_) <;> (first | refine ⟨_, get_map' hx, ?_⟩ | fail)) | ((with_reducible refine isLoop ?_) <;> (first | (refine ⟨[1, 2, 5], [10002], fun st => ∃ (k : Nat) (n : Int), n = k ∧ k ≤ ts.length ∧ o = findM nm (ts.drop k) k ∧ st = ⟨[(1, .d (.s nm)), (2, .ptr 10002 0), (5, .d (.i .i64 n))], [(10002, .var [.d (.sl false (ts.map tabD))])]⟩, fun st => match look 5 st.env with | some (.d (.i _ n)) => ts.length - n.toNat | _ => 0, rfl, ⟨0, _, rfl, Nat.zero_le _, ho, rfl⟩, ?_⟩; rintro st ⟨k, n, rfl, hk, hu, rfl⟩) | refine ⟨_, get_map' hx, ?_⟩ | fail)) | ((with_reducible refine isCut ?_) <;> (first | refine ⟨⟨none⟩, ?_⟩)) | ((first | with_reducible refine isEx ?_ | with_reducible refine isAnd ?_ | with_reducible refine isOr ?_) <;> (first | refine ⟨_, get_map' hx, ?_⟩ | ((with_reducible refine isGet (xs := ts.map tabD) (i := ((k : Nat) : Int).toNat) ?_); obtain ⟨x, hx⟩ := get_ex (ss := ts) (k := k) (lt_of_dec (by assumption)); refine ⟨_, get_map' hx, ?_⟩) | ((with_reducible refine isSmall ?_) <;> (refine ⟨?_, ?_⟩; kernel_rfl)) | refine ⟨rfl, ?_⟩ | refine ⟨Int.natCast_nonneg _, ?_⟩)) | with_reducible refine Both.mk ?_ ?_ | rintro _ rfl | exact rfl | (split <;> (rename_i h; first | (simp only [beq_self_eq_true, eq_self, decide_true, Bool.not_true, Bool.false_eq_true] at h; done) | (try rw [h])))))
  all_goals (conv => whnf)
  all_goals first
    | (rw [hu, find_here hx h]; exact ⟨rfl, rfl⟩)
    | exact ⟨⟨k + 1, _, step_up (get_lt hx) hl, get_lt hx, hu.trans (find_next hx h), rfl⟩, mu_up (get_lt hx) hl⟩
    | (have e : k = ts.length := by have := of_decide_eq_false h; rw [List.length_map] at this; omega
       rw [hu, e, List.drop_length]; exact ⟨rfl, rfl⟩)
    | trace_state
theorem sameTable (t : Tab) (nm : List UInt8) : Ent Tryz.prog 60 [.d (tabD t), .ptr 0 0] [.var [.d (.s nm)]] (.d (.b (decide (t.sch.name = nm)))) [.var [.d (.s nm)]] := by
  refine ent_of tok mixed (f := 60) Tryz.func60 (by kernel_rfl) (keep := false) ?_
  repeat' ((conv => whnf) <;> (first | ((with_reducible refine isCall ?_) <;> (first | fail)) | ((with_reducible refine isCut ?_) <;> (first | refine ⟨⟨none⟩, ?_⟩)) | ((first | with_reducible refine isEx ?_ | with_reducible refine isAnd ?_ | with_reducible refine isOr ?_) <;> (first | ((with_reducible refine isSmall ?_) <;> (refine ⟨?_, ?_⟩; kernel_rfl)) | refine ⟨rfl, ?_⟩ | refine ⟨Int.natCast_nonneg _, ?_⟩)) | with_reducible refine Both.mk ?_ ?_ | rintro _ rfl | exact rfl | (split <;> (rename_i h; first | (simp only [beq_self_eq_true, eq_self, decide_true, Bool.not_true, Bool.false_eq_true] at h; done) | (try rw [h])))))
set_option maxHeartbeats 2000000 in
theorem indexTable (ts : List Tab) (hl : ts.length ≤ maxLen) (nm : List UInt8) : Ent Tryz.prog 59 [.d (.sl false (ts.map tabD)), .fn 60 [.ptr 0 0]] [.var [.d (.s nm)]] (.d (.i .i64 (findM nm ts 0))) [.var [.d (.s nm)]] := by
  obtain ⟨o, ho⟩ : ∃ o, o = findM nm ts 0 := ⟨_, rfl⟩
  rw [← ho]
  refine ent_of tok mixed (f := 59) Tryz.func59 (by kernel_rfl) (keep := false) ?_
  repeat' ((conv => whnf) <;> (first | ((with_reducible refine isCall ?_) <;> (first | (refine ⟨_, c1, ?_⟩; rintro _ _ ⟨rfl, rfl⟩) | fail)) | ((with_reducible refine isLoop ?_) <;> (first | (refine ⟨[8, 7, 0, 1], [0], fun st => ∃ (k : Nat) (n : Int), n = k ∧ k ≤ ts.length ∧ o = findM nm (ts.drop k) k ∧ st = ⟨[(8, .d (.i .i64 n)), (7, .d (.i .i64 ((ts.map tabD).length : Int))), (0, .d (.sl false (ts.map tabD))), (1, .fn 60 [.ptr 0 0])], [(0, .var [.d (.s nm)])]⟩, fun st => match look 8 st.env with | some (.d (.i _ n)) => ts.length - n.toNat | _ => 0, rfl, ⟨0, _, rfl, Nat.zero_le _, ho, rfl⟩, ?_⟩; rintro st ⟨k, n, rfl, hk, hu, rfl⟩) | fail)) | ((with_reducible refine isCut ?_) <;> (first | refine ⟨⟨none⟩, ?_⟩)) | ((first | with_reducible refine isEx ?_ | with_reducible refine isAnd ?_ | with_reducible refine isOr ?_) <;> (first | ((with_reducible refine isGet (xs := ts.map tabD) (i := ((k : Nat) : Int).toNat) ?_); obtain ⟨x, hx⟩ := get_ex (ss := ts) (k := k) (lt_of_dec (by assumption)); have c1 := sameTable x nm; refine ⟨_, get_map' hx, ?_⟩) | ((with_reducible refine isSmall ?_) <;> (refine ⟨?_, ?_⟩; kernel_rfl)) | refine ⟨rfl, ?_⟩ | refine ⟨Int.natCast_nonneg _, ?_⟩)) | with_reducible refine Both.mk ?_ ?_ | rintro _ rfl | exact rfl | (split <;> (rename_i h; first | (simp only [beq_self_eq_true, eq_self, decide_true, Bool.not_true, Bool.false_eq_true] at h; done) | (try rw [h])))))
  all_goals (conv => whnf)
  all_goals first
    | (rw [hu, find_here hx h]; exact ⟨rfl, rfl⟩)
    | exact ⟨⟨k + 1, _, step_up (get_lt hx) hl, get_lt hx, hu.trans (find_next hx h), rfl⟩, mu_up (get_lt hx) hl⟩
    | (have e : k = ts.length := by have := of_decide_eq_false h; rw [List.length_map] at this; omega
       rw [hu, e, List.drop_length]; exact ⟨rfl, rfl⟩)
    | trace_state
theorem implFind (ts : List Tab) (hl : ts.length ≤ maxLen) (nm : List UInt8) : Ent Tryz.prog 23 [.ptr 0 0, .d (.s nm)] [.var [.d (.sl false (ts.map tabD))]] (.d (.i .i64 (findM nm ts 0))) [.var [.d (.sl false (ts.map tabD))]] := by
  have c1 := indexTable ts hl nm
  generalize findM nm ts 0 = n at *
  refine ent_of tok mixed (f := 23) Tryz.func23 (by kernel_rfl) (keep := false) ?_
  repeat' ((conv => whnf) <;> (first | ((with_reducible refine isCall ?_) <;> (first | (refine ⟨_, c1, ?_⟩; rintro _ _ ⟨rfl, rfl⟩) | fail)) | ((with_reducible refine isCut ?_) <;> (first | refine ⟨⟨none⟩, ?_⟩)) | ((first | with_reducible refine isEx ?_ | with_reducible refine isAnd ?_ | with_reducible refine isOr ?_) <;> (first | ((with_reducible refine isSmall ?_) <;> (refine ⟨?_, ?_⟩; kernel_rfl)) | refine ⟨rfl, ?_⟩ | refine ⟨Int.natCast_nonneg _, ?_⟩)) | with_reducible refine Both.mk ?_ ?_ | rintro _ rfl | exact rfl | (split <;> (rename_i h; first | (simp only [beq_self_eq_true, eq_self, decide_true, Bool.not_true, Bool.false_eq_true] at h; done) | (try rw [h])))))
end Go.Pm.Tryz
namespace Go.Pm.Tryz
open Go Go.Proofs
set_option linter.unusedVariables false
set_option linter.unusedSimpArgs false
set_option maxRecDepth 100000
def nameIn (nm : List UInt8) (c : Col) : List UInt8 := (nm ++ [46]) ++ c.name
def colsOf (ts : List Tab) (nm : List UInt8) : List Col := match decide (findM nm ts 0 < 0) with
  | true => []
  | false => (ts.getD (findM nm ts 0).toNat ⟨⟨[], [], [], []⟩, []⟩).sch.cols
def namesL (ts : List Tab) (l : List (List UInt8)) : List (List UInt8) := l.flatMap fun nm => (colsOf ts nm).map (nameIn nm)
def kindsL (ts : List Tab) (l : List (List UInt8)) : List Int := l.flatMap fun nm => (colsOf ts nm).map Col.kind
def atN (n : List UInt8) : List (List UInt8) → Nat → Int
  | [], _ => -1
  | x :: xs, k => match decide (x = n) with | true => (k : Int) | false => atN n xs (k + 1)
theorem at_here {n : List UInt8} {xs : List (List UInt8)} {k : Nat} {t : List UInt8} (ht : xs[k]? = some t) (h : decide (t = n) = true) : atN n (xs.drop k) k = (k : Int) := by
  obtain ⟨hk, rfl⟩ := List.getElem?_eq_some_iff.1 ht
  rw [List.drop_eq_getElem_cons hk, atN, h]
theorem at_next {n : List UInt8} {xs : List (List UInt8)} {k : Nat} {t : List UInt8} (ht : xs[k]? = some t) (h : decide (t = n) = false) : atN n (xs.drop k) k = atN n (xs.drop (k + 1)) (k + 1) := by
  obtain ⟨hk, rfl⟩ := List.getElem?_eq_some_iff.1 ht
  rw [List.drop_eq_getElem_cons hk, atN, h]
theorem at_end {n : List UInt8} {xs : List (List UInt8)} {k : Nat} (h : xs.length ≤ k) : atN n (xs.drop k) k = -1 := by
  rw [List.drop_of_length_le h]; rfl
theorem at_range {n : List UInt8} : ∀ (xs : List (List UInt8)) (k : Nat), 0 ≤ atN n xs k → ∃ j : Nat, atN n xs k = ((k + j : Nat) : Int) ∧ j < xs.length
  | [], _, h => by simp [atN] at h
  | t :: ts, k, h => by
    rw [atN] at h ⊢
    cases hd : decide (t = n) with
    | true => exact ⟨0, by simp, by simp⟩
    | false =>
      rw [hd] at h
      obtain ⟨j, h1, h2⟩ := at_range ts (k + 1) h
      exact ⟨j + 1, by simp only []; rw [h1]; omega, by simp; omega⟩
theorem at_ge {n : List UInt8} : ∀ (xs : List (List UInt8)) (k : Nat), -1 ≤ atN n xs k
  | [], _ => by simp [atN]
  | t :: ts, k => by
    rw [atN]
    cases decide (t = n) with
    | true => show (-1 : Int) ≤ (k : Int); omega
    | false => exact at_ge ts (k + 1)
def hasN (ns : List (List UInt8)) (n : List UInt8) : Bool := decide (0 ≤ atN n ns 0)
def kOf (ns : List (List UInt8)) (ks : List Int) (n : List UInt8) : Int := ks.getD (atN n ns 0).toNat 0
def badN (ns : List (List UInt8)) (n : List UInt8) : Bool := !em n && !hasN ns n
def usedI (q : Qry) : List (List UInt8) := ([q.left, q.right, q.group, q.order] ++ q.items.map Item.col) ++ q.wh.map Term.col
def usedS (q : Qry) : List (List UInt8) := ((q.items.map Item.col ++ [q.left, q.right]) ++ q.wh.map Term.col) ++ [q.group, q.order]
theorem used_same (ns : List (List UInt8)) (q : Qry) : (usedS q).any (badN ns) = (usedI q).any (badN ns) := by
  simp only [usedS, usedI, List.any_append, List.any_cons, List.any_nil, Bool.or_false]
  generalize (q.items.map Item.col).any (badN ns) = a
  generalize (q.wh.map Term.col).any (badN ns) = b
  cases a <;> cases b <;> cases badN ns q.left <;> cases badN ns q.right <;> cases badN ns q.group <;> cases badN ns q.order <;> rfl
def joinBad (ns : List (List UInt8)) (ks : List Int) (q : Qry) : Bool := !em q.join && !decide (kOf ns ks q.left = kOf ns ks q.right)
def whBad (ns : List (List UInt8)) (ks : List Int) (q : Qry) : Bool := q.wh.any fun t => !isW t.op && !decide (t.val.kind = kOf ns ks t.col)
def itBad (ns : List (List UInt8)) (ks : List Int) (q : Qry) : Bool := q.items.any fun i => decide (i.agg = 2) && !decide (kOf ns ks i.col = 2)
def noTabs (ts : List Tab) (q : Qry) : Bool := decide (findM q.table ts 0 < 0) || (!em q.join && decide (findM q.join ts 0 < 0))
def codeQ (ts : List Tab) (q : Qry) : Int := match noTabs ts q with
  | true => 8
  | false => match (usedI q).any (badN (namesL ts [q.table, q.join])) with
    | true => 8
    | false => match joinBad (namesL ts [q.table, q.join]) (kindsL ts [q.table, q.join]) q with
      | true => 6
      | false => match whBad (namesL ts [q.table, q.join]) (kindsL ts [q.table, q.join]) q with
        | true => 6
        | false => match itBad (namesL ts [q.table, q.join]) (kindsL ts [q.table, q.join]) q with | true => 6 | false => 0
theorem find_name {nm : List UInt8} : ∀ (ts : List Tab) (k : Nat), 0 ≤ findM nm ts k → ∃ (j : Nat) (t : Tab), findM nm ts k = ((k + j : Nat) : Int) ∧ ts[j]? = some t ∧ t.sch.name = nm
  | [], _, h => by simp [findM] at h
  | t :: ts, k, h => by
    rw [findM] at h ⊢
    cases hd : decide (t.sch.name = nm) with
    | true => exact ⟨0, t, by simp, rfl, of_decide_eq_true hd⟩
    | false =>
      rw [hd] at h
      obtain ⟨j, t', h1, h2, h3⟩ := find_name ts (k + 1) h
      exact ⟨j + 1, t', by simp only []; rw [h1]; omega, by simpa using h2, h3⟩
theorem cols_none {ts : List Tab} {nm : List UInt8} (h : decide (findM nm ts 0 < 0) = true) : colsOf ts nm = [] := by rw [colsOf, h]
theorem cols_some' {ts : List Tab} {nm : List UInt8} {t : Tab} (h : decide (findM nm ts 0 < 0) = false) (ht : ts[(findM nm ts 0).toNat]? = some t) : colsOf ts nm = t.sch.cols := by
  rw [colsOf, h]
  simp only [List.getD_eq_getElem?_getD, ht, Option.getD_some]
end Go.Pm.Tryz
