import Derived.Test.YtjjnmkhcdbmhoaaCv
namespace Go.Pm.Try
open Go Go.Proofs
set_option linter.unusedVariables false
set_option linter.unusedSimpArgs false
set_option maxRecDepth 100000
theorem nodup_le : ∀ (n : Nat) (l : List Nat), l.Nodup → (∀ x, x ∈ l → x < n) → l.length ≤ n
  | 0, l, _, h => by
    cases l with
    | nil => exact Nat.le_refl _
    | cons x l => exact absurd (h x (List.mem_cons_self ..)) (Nat.not_lt_zero _)
  | n + 1, l, hd, h => by
    have h1 := nodup_le n (l.erase n) (hd.erase n) (fun x hx => by
      have hm := List.mem_of_mem_erase hx
      have := h x hm
      have hne : x ≠ n := fun e => by
        subst e
        exact absurd hx (hd.not_mem_erase)
      omega)
    by_cases hm : n ∈ l
    · rw [List.length_erase_of_mem hm] at h1; omega
    · rw [List.erase_of_not_mem hm] at h1; omega
theorem colsP_len {ks : List Int} {n : Nat} (h : colsP ks n) : ks.length ≤ n := by
  have := nodup_le n (ks.map Int.toNat) (List.pairwise_iff_getElem.2 fun i j hi hj hij e => by
      rw [List.length_map] at hi hj
      simp only [List.getElem_map] at e
      have h1 := h.2 i _ (List.getElem?_eq_getElem hi)
      have h2 := h.2 j _ (List.getElem?_eq_getElem hj)
      refine h2.2 (List.mem_of_getElem? (i := i) ?_)
      rw [List.getElem?_take, if_pos hij, List.getElem?_eq_getElem hi]
      congr 1
      omega) (fun x hx => by
      obtain ⟨y, hy, rfl⟩ := List.mem_map.1 hx
      obtain ⟨k, hk⟩ := List.getElem?_of_mem hy
      have := (h.2 k y hk).1
      omega)
  rwa [List.length_map] at this
theorem colsP_in {ks : List Int} {n : Nat} (h : colsP ks n) {x : Int} (hx : x ∈ ks) : 0 ≤ x ∧ x < n := by
  obtain ⟨k, hk⟩ := List.getElem?_of_mem hx
  exact (h.2 k x hk).1
def pickM (row : List Val) (cols : List Int) : List Val := cols.map fun c => row.getD c.toNat ⟨0, 0, []⟩
def inRow (row : List Val) (cols : List Int) : Prop := ∀ c, c ∈ cols → 0 ≤ c ∧ c < row.length
theorem pickM_len (row : List Val) (cols : List Int) : (pickM row cols).length = cols.length := List.length_map ..
theorem pick_up {row : List Val} {cols : List Int} {k : Nat} {y : Int} {v : Val} (hy : cols[k]? = some y) (hv : row[y.toNat]? = some v) : pickM row (cols.take (k + 1)) = pickM row (cols.take k) ++ [v] := by
  rw [take_up hy, pickM, List.map_append]
  simp only [pickM, List.map_cons, List.map_nil, List.getD_eq_getElem?_getD, hv, Option.getD_some]
set_option maxHeartbeats 1000000 in
theorem implPick (row : List Val) (cols : List Int) (hl : cols.length ≤ 1000) (hi : inRow row cols) : Ent Try.prog 43 [.d (.sl false (row.map valD)), .d (.sl false (cols.map i64D))] [] (.d (.sl false ((pickM row cols).map valD))) [] := by
  obtain ⟨o, ho⟩ : ∃ o, o = pickM row cols := ⟨_, rfl⟩
  rw [← ho]
  refine ent_of tok mixed (f := 43) Try.func43 (by kernel_rfl) (keep := false) ?_
  repeat' ((conv => whnf) <;> (first | ((with_reducible refine isCall ?_) <;> (first | refine ⟨_, get_map' hv, ?_⟩ | refine ⟨hyr.1, ?_⟩ | (refine ⟨⟨by decide, rfl, rfl, room_add (by rw [hx, List.length_map, pickM_len, List.length_take]; omega) (by decide)⟩, ?_⟩) | fail)) | ((with_reducible refine isLoop ?_) <;> (first | (refine ⟨[0, 5, 9, 10, 11], [10008], fun st => ∃ (k : Nat) (i : Int) (xs : List D), i = k ∧ k ≤ cols.length ∧ xs = (pickM row (cols.take k)).map valD ∧ st = ⟨[(0, .d (.sl false (row.map valD))), (5, .own 10008), (9, .d (.sl false (cols.map i64D))), (10, .d (.i .i64 ((cols.map i64D).length : Int))), (11, .d (.i .i64 i))], [(10008, .arr 3 false xs)]⟩, fun st => match look 11 st.env with | some (.d (.i _ i)) => cols.length - i.toNat | _ => 0, rfl, ⟨0, _, _, rfl, Nat.zero_le _, rfl, rfl⟩, ?_⟩; rintro st ⟨k, i, xs, rfl, hk, hx, rfl⟩) | refine ⟨_, get_map' hv, ?_⟩ | refine ⟨hyr.1, ?_⟩ | (refine ⟨⟨by decide, rfl, rfl, room_add (by rw [hx, List.length_map, pickM_len, List.length_take]; omega) (by decide)⟩, ?_⟩) | fail)) | ((with_reducible refine isCut ?_) <;> (first | refine ⟨⟨none⟩, ?_⟩)) | ((first | with_reducible refine isEx ?_ | with_reducible refine isAnd ?_ | with_reducible refine isOr ?_) <;> (first | refine ⟨_, get_map' hv, ?_⟩ | refine ⟨hyr.1, ?_⟩ | ((with_reducible refine isGet (xs := cols.map i64D) (i := ((k : Nat) : Int).toNat) ?_); obtain ⟨y, hy⟩ := get_ex (ss := cols) (k := k) (lt_of_dec (by assumption)); have hyr := hi y (get_mem hy); obtain ⟨v, hv⟩ := get_ex (ss := row) (k := y.toNat) (by omega); refine ⟨_, get_map' hy, ?_⟩) | (refine ⟨⟨by decide, rfl, rfl, room_add (by rw [hx, List.length_map, pickM_len, List.length_take]; omega) (by decide)⟩, ?_⟩) | ((with_reducible refine isSmall ?_) <;> (refine ⟨?_, ?_⟩; kernel_rfl)) | refine ⟨rfl, ?_⟩ | refine ⟨Int.natCast_nonneg _, ?_⟩)) | with_reducible refine Both.mk ?_ ?_ | rintro _ rfl | exact rfl | (split <;> (rename_i h; first | (simp only [beq_self_eq_true, eq_self, decide_true, Bool.not_true, Bool.false_eq_true] at h; done) | (try rw [h])))))
  all_goals (conv => whnf)
  · exact ⟨⟨k + 1, _, _, step_up (n := 1000) (by have := get_lt hy; omega) (Nat.le_of_ble_eq_true rfl), get_lt hy, by rw [pick_up hy hv, List.map_append, ← hx]; rfl, rfl⟩, mu_up (get_lt hy) (Nat.le_trans hl (Nat.le_of_ble_eq_true rfl))⟩
  · have e : k = cols.length := by have := of_decide_eq_false h; rw [List.length_map] at this; omega
    rw [e, List.take_length] at hx
    rw [ho, ← hx]; exact ⟨rfl, rfl⟩
def cellP (v : Val) (c : Col) : Prop := valueP v ∧ (v.kind = c.kind ∨ (v.kind = 0 ∧ c.uniq = true))
def rowP (cs : List Col) (row : List Val) : Prop := row.length = cs.length ∧ ∀ (k : Nat) (v : Val) (c : Col), row[k]? = some v → cs[k]? = some c → cellP v c
theorem row_up {cs : List Col} {row : List Val} {k : Nat} {v : Val} {c : Col} (h : ∀ (j : Nat) (v : Val) (c : Col), j < k → row[j]? = some v → cs[j]? = some c → cellP v c) (hv : row[k]? = some v) (hc : cs[k]? = some c) (h1 : cellP v c) : ∀ (j : Nat) (v : Val) (c : Col), j < k + 1 → row[j]? = some v → cs[j]? = some c → cellP v c := by
  intro j v' c' hj hv' hc'
  by_cases e : j = k
  · subst e; rw [hv] at hv'; rw [hc] at hc'; cases hv'; cases hc'; exact h1
  · exact h j v' c' (by omega) hv' hc'
set_option maxHeartbeats 4000000 in
theorem specRow (s : Schema) (row : List Val) (hr : row.length ≤ maxLen) : Ent Try.prog 42 [.d (schemaD s), .d (.sl false (row.map valD))] [] (.d (.b (dec (rowP s.cols row)))) [] := by
  obtain ⟨o, ho⟩ : ∃ o, o = dec (rowP s.cols row) := ⟨_, rfl⟩
  rw [← ho]
  have hrl : (row.map valD).length = row.length := List.length_map ..
  have hcl : (s.cols.map colD).length = s.cols.length := List.length_map ..
  refine ent_of tok mixed (f := 42) Try.func42 (by kernel_rfl) (keep := false) ?_
  repeat' ((conv => whnf) <;> (first | ((with_reducible refine isCall ?_) <;> (first | (refine ⟨_, specValueRight _, ?_⟩; rintro _ _ ⟨rfl, rfl⟩) | refine ⟨_, get_map' hx, ?_⟩ | refine ⟨_, get_map' hy, ?_⟩ | fail)) | ((with_reducible refine isLoop ?_) <;> (first | (refine ⟨[1, 2, 5], [10002], fun st => ∃ (k : Nat) (i : Int), i = k ∧ k ≤ row.length ∧ row.length = s.cols.length ∧ (∀ (j : Nat) (v : Val) (c : Col), j < k → row[j]? = some v → s.cols[j]? = some c → cellP v c) ∧ st = ⟨[(1, .d (.sl false (row.map valD))), (2, .ptr 10002 0), (5, .d (.i .i64 i))], [(10002, .var (schC s))]⟩, fun st => match look 5 st.env with | some (.d (.i _ i)) => row.length - i.toNat | _ => 0, rfl, ⟨0, _, rfl, Nat.zero_le _, (by have := of_decide_eq_true (not_ok (by assumption)); omega), (fun j v c hj => absurd hj (Nat.not_lt_zero _)), rfl⟩, ?_⟩; rintro st ⟨k, i, rfl, hk, heq, hv, rfl⟩) | refine ⟨_, get_map' hx, ?_⟩ | refine ⟨_, get_map' hy, ?_⟩ | fail)) | ((with_reducible refine isCut ?_) <;> (first | refine ⟨⟨none⟩, ?_⟩)) | ((first | with_reducible refine isEx ?_ | with_reducible refine isAnd ?_ | with_reducible refine isOr ?_) <;> (first | refine ⟨_, get_map' hx, ?_⟩ | refine ⟨_, get_map' hy, ?_⟩ | ((with_reducible refine isGet (xs := row.map valD) (i := ((k : Nat) : Int).toNat) ?_); obtain ⟨x, hx⟩ := get_ex (ss := row) (k := k) (lt_of_dec (by assumption)); refine ⟨_, get_map' hx, ?_⟩) | ((with_reducible refine isGet (xs := s.cols.map colD) (i := ((k : Nat) : Int).toNat) ?_); obtain ⟨y, hy⟩ := get_ex (ss := s.cols) (k := k) (by have := lt_of_dec (ss := row) (k := k) (f := valD) (by assumption); omega); refine ⟨_, get_map' hy, ?_⟩) | ((with_reducible refine isSmall ?_) <;> (refine ⟨?_, ?_⟩; kernel_rfl)) | refine ⟨rfl, ?_⟩ | refine ⟨Int.natCast_nonneg _, ?_⟩)) | with_reducible refine Both.mk ?_ ?_ | rintro _ rfl | exact rfl | (split <;> (rename_i h; first | (simp only [beq_self_eq_true, eq_self, decide_true, Bool.not_true, Bool.false_eq_true] at h; done) | (try rw [h])))))
  all_goals (conv => whnf)
  all_goals first
    | exact ret_false ho fun hP => by have := of_decide_eq_false (not_ok' h); have := hP.1; omega
    | (obtain ⟨y, hy⟩ := get_ex (ss := s.cols) (k := k) (by have := get_lt hx; omega)
       exact ret_false ho fun hP => of_ndec (not_ok' h) (hP.2 k x y hx hy).1)
    | exact ret_false ho fun hP => (hP.2 k x y hx hy).2.elim (fun e => of_decide_eq_false (not_ok' (by assumption : (!decide (x.kind = y.kind)) = true)) e) (fun e => of_decide_eq_false (not_ok' h) e.1)
    | exact ret_false ho fun hP => (hP.2 k x y hx hy).2.elim (fun e => of_decide_eq_false (not_ok' (by assumption : (!decide (x.kind = y.kind)) = true)) e) (fun e => Bool.noConfusion ((not_ok' h).symm.trans e.2 : false = true))
    | exact ret_false ho fun hP => (hP.2 k x y hx hy).2.elim (fun e => of_decide_eq_false (not_ok' (by assumption : (!decide (x.kind = y.kind)) = true)) e) (fun e => of_decide_eq_false h e.1)
    | exact ret_false ho fun hP => (hP.2 k x y hx hy).2.elim (fun e => of_decide_eq_false (not_ok' (by assumption : (!decide (x.kind = y.kind)) = true)) e) (fun e => Bool.noConfusion (h.symm.trans e.2 : false = true))
    | exact ⟨⟨k + 1, _, step_up (get_lt hx) hr, get_lt hx, heq, row_up hv hx hy ⟨of_dec (not_ok (by assumption)), .inr ⟨of_decide_eq_true (not_ok (by assumption : (!decide (x.kind = 0)) = false)), not_ok h⟩⟩, rfl⟩, mu_up (get_lt hx) hr⟩
    | exact ⟨⟨k + 1, _, step_up (get_lt hx) hr, get_lt hx, heq, row_up hv hx hy ⟨of_dec (not_ok (by assumption)), .inr ⟨of_decide_eq_true h, by assumption⟩⟩, rfl⟩, mu_up (get_lt hx) hr⟩
    | exact ⟨⟨k + 1, _, step_up (get_lt hx) hr, get_lt hx, heq, row_up hv hx hy ⟨of_dec (not_ok (by assumption)), .inr ⟨of_decide_eq_true (not_ok h), by assumption⟩⟩, rfl⟩, mu_up (get_lt hx) hr⟩
    | exact ⟨⟨k + 1, _, step_up (get_lt hx) hr, get_lt hx, heq, row_up hv hx hy ⟨of_dec (not_ok (by assumption)), .inl (of_decide_eq_true (not_ok h))⟩, rfl⟩, mu_up (get_lt hx) hr⟩
    | (have e : k = row.length := by have := of_decide_eq_false h; omega
       exact ret_true ho ⟨heq, fun j v c hj hc => hv j v c (by rw [e]; exact get_lt hj) hj hc⟩)
    | trace_state
set_option maxHeartbeats 4000000 in
theorem implRow (s : Schema) (row : List Val) (hr : row.length ≤ maxLen) : Ent Try.prog 41 [.d (schemaD s), .d (.sl false (row.map valD))] [] (.d (.b (dec (rowP s.cols row)))) [] := by
  obtain ⟨o, ho⟩ : ∃ o, o = dec (rowP s.cols row) := ⟨_, rfl⟩
  rw [← ho]
  have hrl : (row.map valD).length = row.length := List.length_map ..
  have hcl : (s.cols.map colD).length = s.cols.length := List.length_map ..
  refine ent_of tok mixed (f := 41) Try.func41 (by kernel_rfl) (keep := false) ?_
  repeat' ((conv => whnf) <;> (first | ((with_reducible refine isCall ?_) <;> (first | (refine ⟨_, implValueRight _, ?_⟩; rintro _ _ ⟨rfl, rfl⟩) | refine ⟨_, get_map' hx, ?_⟩ | refine ⟨_, get_map' hy, ?_⟩ | fail)) | ((with_reducible refine isLoop ?_) <;> (first | (refine ⟨[2, 14, 15, 16], [10002], fun st => ∃ (k : Nat) (i : Int), i = k ∧ k ≤ row.length ∧ row.length = s.cols.length ∧ (∀ (j : Nat) (v : Val) (c : Col), j < k → row[j]? = some v → s.cols[j]? = some c → cellP v c) ∧ st = ⟨[(2, .ptr 10002 0), (14, .d (.sl false (row.map valD))), (15, .d (.i .i64 ((row.map valD).length : Int))), (16, .d (.i .i64 i))], [(10002, .var (schC s))]⟩, fun st => match look 16 st.env with | some (.d (.i _ i)) => row.length - i.toNat | _ => 0, rfl, ⟨0, _, rfl, Nat.zero_le _, (by have := of_decide_eq_true (not_ok (by assumption)); omega), (fun j v c hj => absurd hj (Nat.not_lt_zero _)), rfl⟩, ?_⟩; rintro st ⟨k, i, rfl, hk, heq, hv, rfl⟩) | refine ⟨_, get_map' hx, ?_⟩ | refine ⟨_, get_map' hy, ?_⟩ | fail)) | ((with_reducible refine isCut ?_) <;> (first | refine ⟨⟨none⟩, ?_⟩)) | ((first | with_reducible refine isEx ?_ | with_reducible refine isAnd ?_ | with_reducible refine isOr ?_) <;> (first | refine ⟨_, get_map' hx, ?_⟩ | refine ⟨_, get_map' hy, ?_⟩ | ((with_reducible refine isGet (xs := row.map valD) (i := ((k : Nat) : Int).toNat) ?_); obtain ⟨x, hx⟩ := get_ex (ss := row) (k := k) (lt_of_dec (by assumption)); refine ⟨_, get_map' hx, ?_⟩) | ((with_reducible refine isGet (xs := s.cols.map colD) (i := ((k : Nat) : Int).toNat) ?_); obtain ⟨y, hy⟩ := get_ex (ss := s.cols) (k := k) (by have := lt_of_dec (ss := row) (k := k) (f := valD) (by assumption); omega); refine ⟨_, get_map' hy, ?_⟩) | ((with_reducible refine isSmall ?_) <;> (refine ⟨?_, ?_⟩; kernel_rfl)) | refine ⟨rfl, ?_⟩ | refine ⟨Int.natCast_nonneg _, ?_⟩)) | with_reducible refine Both.mk ?_ ?_ | rintro _ rfl | exact rfl | (split <;> (rename_i h; first | (simp only [beq_self_eq_true, eq_self, decide_true, Bool.not_true, Bool.false_eq_true] at h; done) | (try rw [h])))))
  all_goals (conv => whnf)
  all_goals first
    | exact ret_false ho fun hP => by have := of_decide_eq_false (not_ok' h); have := hP.1; omega
    | (obtain ⟨y, hy⟩ := get_ex (ss := s.cols) (k := k) (by have := get_lt hx; omega)
       exact ret_false ho fun hP => of_ndec (not_ok' h) (hP.2 k x y hx hy).1)
    | exact ret_false ho fun hP => (hP.2 k x y hx hy).2.elim (fun e => of_decide_eq_false (not_ok' (by assumption : (!decide (x.kind = y.kind)) = true)) e) (fun e => of_decide_eq_false (not_ok' h) e.1)
    | exact ret_false ho fun hP => (hP.2 k x y hx hy).2.elim (fun e => of_decide_eq_false (not_ok' (by assumption : (!decide (x.kind = y.kind)) = true)) e) (fun e => Bool.noConfusion ((not_ok' h).symm.trans e.2 : false = true))
    | exact ret_false ho fun hP => (hP.2 k x y hx hy).2.elim (fun e => of_decide_eq_false (not_ok' (by assumption : (!decide (x.kind = y.kind)) = true)) e) (fun e => of_decide_eq_false h e.1)
    | exact ret_false ho fun hP => (hP.2 k x y hx hy).2.elim (fun e => of_decide_eq_false (not_ok' (by assumption : (!decide (x.kind = y.kind)) = true)) e) (fun e => Bool.noConfusion (h.symm.trans e.2 : false = true))
    | exact ⟨⟨k + 1, _, step_up (get_lt hx) hr, get_lt hx, heq, row_up hv hx hy ⟨of_dec (not_ok (by assumption)), .inr ⟨of_decide_eq_true (not_ok (by assumption : (!decide (x.kind = 0)) = false)), not_ok h⟩⟩, rfl⟩, mu_up (get_lt hx) hr⟩
    | exact ⟨⟨k + 1, _, step_up (get_lt hx) hr, get_lt hx, heq, row_up hv hx hy ⟨of_dec (not_ok (by assumption)), .inr ⟨of_decide_eq_true h, by assumption⟩⟩, rfl⟩, mu_up (get_lt hx) hr⟩
    | exact ⟨⟨k + 1, _, step_up (get_lt hx) hr, get_lt hx, heq, row_up hv hx hy ⟨of_dec (not_ok (by assumption)), .inr ⟨of_decide_eq_true (not_ok h), by assumption⟩⟩, rfl⟩, mu_up (get_lt hx) hr⟩
    | exact ⟨⟨k + 1, _, step_up (get_lt hx) hr, get_lt hx, heq, row_up hv hx hy ⟨of_dec (not_ok (by assumption)), .inl (of_decide_eq_true (not_ok h))⟩, rfl⟩, mu_up (get_lt hx) hr⟩
    | (have e : k = row.length := by have := of_decide_eq_false h; omega
       exact ret_true ho ⟨heq, fun j v c hj hc => hv j v c (by rw [e]; exact get_lt hj) hj hc⟩)
    | trace_state
end Go.Pm.Try
