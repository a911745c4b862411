/-
Copies of tables; a database's table.
-/
import Derived.Test.YtlihmioijkichaaGreatTz
namespace Go.Pm.Tryz
open Go Go.Proofs
set_option linter.unusedVariables false
set_option linter.unusedSimpArgs false
set_option maxRecDepth 100000
theorem len_valD (vs : List Val) : ∀ y, y ∈ vs.map valD → y.cells.length = 3 := by
  intro y hy
  obtain ⟨v, _, rfl⟩ := List.mem_map.1 hy
  rfl
theorem len_colD (vs : List Col) : ∀ y, y ∈ vs.map colD → y.cells.length = 3 := by
  intro y hy
  obtain ⟨v, _, rfl⟩ := List.mem_map.1 hy
  rfl
theorem len_i64D (vs : List Int) : ∀ y, y ∈ vs.map i64D → y.cells.length = 1 := by
  intro y hy
  obtain ⟨v, _, rfl⟩ := List.mem_map.1 hy
  rfl
theorem len_idxD (vs : List Idx) : ∀ y, y ∈ vs.map idxD → y.cells.length = 2 := by
  intro y hy
  obtain ⟨v, _, rfl⟩ := List.mem_map.1 hy
  rfl
theorem specCopyRow (r : List Val) (hl : r.length ≤ 1000) : Ent Tryz.prog 88 [.d (rowD r)] [] (.d (rowD r)) [] := by
  refine ent_of tok mixed (f := 88) Tryz.func88 (by kernel_rfl) (keep := false) ?_
  repeat' ((conv => whnf) <;> (first
    | ((with_reducible refine isCall ?_) <;> (first
        | (refine ⟨⟨len_valD r, rfl, room_small (n := 0) (by decide) (by rw [List.length_map]; omega) (by decide)⟩, ?_⟩)
        | fail))
    | ((with_reducible refine isLoop ?_) <;> (first
        | (refine ⟨⟨len_valD r, rfl, room_small (n := 0) (by decide) (by rw [List.length_map]; omega) (by decide)⟩, ?_⟩)
        | fail))
    | ((with_reducible refine isCut ?_) <;> (first
        | refine ⟨⟨none⟩, ?_⟩))
    | ((first | with_reducible refine isEx ?_ | with_reducible refine isAnd ?_ | with_reducible refine isOr ?_) <;> (first
        | (refine ⟨⟨len_valD r, rfl, room_small (n := 0) (by decide) (by rw [List.length_map]; omega) (by decide)⟩, ?_⟩)
        | ((with_reducible refine isSmall ?_) <;> (refine ⟨?_, ?_⟩; kernel_rfl))
        | refine ⟨rfl, ?_⟩
        | refine ⟨Int.natCast_nonneg _, ?_⟩))
    | with_reducible refine Both.mk ?_ ?_
    | rintro _ rfl
    | exact rfl
    | (split <;> (rename_i h; first | (simp only [beq_self_eq_true, eq_self, decide_true, Bool.not_true, Bool.false_eq_true] at h; done) | (try rw [h])))))
  all_goals (conv => whnf)
  all_goals trace_state
theorem cloneVals (r : List Val) (hl : r.length ≤ 1000) : Ent Tryz.prog 191 [.d (rowD r)] [] (.own 0) [.arr 3 false (r.map valD)] := by
  refine ent_ofN (cx := ⟨tab, [], []⟩) tok mixed (f := 191) Tryz.func191 (by kernel_rfl) (keep := true) (nm := [.slot 20002 3 false 2]) ?_
  repeat' ((conv => whnf) <;> (first
    | ((with_reducible refine isCall ?_) <;> (first
        | (refine ⟨⟨len_valD r, rfl, room_small (n := 0) (by decide) (by rw [List.length_map]; omega) (by decide)⟩, ?_⟩)
        | fail))
    | ((with_reducible refine isLoop ?_) <;> (first
        | (refine ⟨⟨len_valD r, rfl, room_small (n := 0) (by decide) (by rw [List.length_map]; omega) (by decide)⟩, ?_⟩)
        | fail))
    | ((with_reducible refine isCut ?_) <;> (first
        | refine ⟨⟨none⟩, ?_⟩))
    | ((first | with_reducible refine isEx ?_ | with_reducible refine isAnd ?_ | with_reducible refine isOr ?_) <;> (first
        | (refine ⟨⟨len_valD r, rfl, room_small (n := 0) (by decide) (by rw [List.length_map]; omega) (by decide)⟩, ?_⟩)
        | ((with_reducible refine isSmall ?_) <;> (refine ⟨?_, ?_⟩; kernel_rfl))
        | refine ⟨rfl, ?_⟩
        | refine ⟨Int.natCast_nonneg _, ?_⟩))
    | with_reducible refine Both.mk ?_ ?_
    | (rintro (_ | _) hb)
    | rintro _ rfl
    | exact rfl
    | (split <;> (rename_i h; first | (simp only [beq_self_eq_true, eq_self, decide_true, Bool.not_true, Bool.false_eq_true] at h; done) | (try rw [h])))))
  all_goals (conv => whnf)
  all_goals first
    | (rw [hb rfl]; exact ⟨rfl, rfl⟩)
    | (rw [hb rfl]; rfl)
    | trace_state
structure Schema.few (s : Schema) : Prop where
  cols : s.cols.length ≤ 1000
  keys : s.keys.length ≤ 1000
  idxs : s.idxs.length ≤ 1000
  lists : ∀ i, i ∈ s.idxs → i.cols.length ≤ 1000
theorem schemaP.few {s : Schema} (h : schemaP s) : s.few := ⟨by have := h.hi; omega, keys_len h, by have := h.idx; omega, fun i hi => by have := colsP_len (h.idxs i hi); have := h.hi; omega⟩
theorem cloneCols (r : List Col) (hl : r.length ≤ 1000) : Ent Tryz.prog 188 [.d (.sl false (r.map colD))] [] (.own 0) [.arr 3 false (r.map colD)] := by
  refine ent_ofN (cx := ⟨tab, [], []⟩) tok mixed (f := 188) Tryz.func188 (by kernel_rfl) (keep := true) (nm := [.slot 20002 3 false 2]) ?_
  repeat' ((conv => whnf) <;> (first
    | ((with_reducible refine isCall ?_) <;> (first
        | (refine ⟨⟨len_colD r, rfl, room_small (n := 0) (by decide) (by rw [List.length_map]; omega) (by decide)⟩, ?_⟩)
        | fail))
    | ((with_reducible refine isLoop ?_) <;> (first
        | (refine ⟨⟨len_colD r, rfl, room_small (n := 0) (by decide) (by rw [List.length_map]; omega) (by decide)⟩, ?_⟩)
        | fail))
    | ((with_reducible refine isCut ?_) <;> (first
        | refine ⟨⟨none⟩, ?_⟩))
    | ((first | with_reducible refine isEx ?_ | with_reducible refine isAnd ?_ | with_reducible refine isOr ?_) <;> (first
        | (refine ⟨⟨len_colD r, rfl, room_small (n := 0) (by decide) (by rw [List.length_map]; omega) (by decide)⟩, ?_⟩)
        | ((with_reducible refine isSmall ?_) <;> (refine ⟨?_, ?_⟩; kernel_rfl))
        | refine ⟨rfl, ?_⟩
        | refine ⟨Int.natCast_nonneg _, ?_⟩))
    | with_reducible refine Both.mk ?_ ?_
    | (rintro (_ | _) hb)
    | rintro _ rfl
    | exact rfl
    | (split <;> (rename_i h; first | (simp only [beq_self_eq_true, eq_self, decide_true, Bool.not_true, Bool.false_eq_true] at h; done) | (try rw [h])))))
  all_goals (conv => whnf)
  all_goals first
    | (rw [hb rfl]; exact ⟨rfl, rfl⟩)
    | (rw [hb rfl]; rfl)
    | trace_state
theorem cloneInts (r : List Int) (hl : r.length ≤ 1000) : Ent Tryz.prog 189 [.d (.sl false (r.map i64D))] [] (.own 0) [.arr 1 false (r.map i64D)] := by
  refine ent_ofN (cx := ⟨tab, [], []⟩) tok mixed (f := 189) Tryz.func189 (by kernel_rfl) (keep := true) (nm := [.slot 20002 1 false 2]) ?_
  repeat' ((conv => whnf) <;> (first
    | ((with_reducible refine isCall ?_) <;> (first
        | (refine ⟨⟨len_i64D r, rfl, room_small (n := 0) (by decide) (by rw [List.length_map]; omega) (by decide)⟩, ?_⟩)
        | fail))
    | ((with_reducible refine isLoop ?_) <;> (first
        | (refine ⟨⟨len_i64D r, rfl, room_small (n := 0) (by decide) (by rw [List.length_map]; omega) (by decide)⟩, ?_⟩)
        | fail))
    | ((with_reducible refine isCut ?_) <;> (first
        | refine ⟨⟨none⟩, ?_⟩))
    | ((first | with_reducible refine isEx ?_ | with_reducible refine isAnd ?_ | with_reducible refine isOr ?_) <;> (first
        | (refine ⟨⟨len_i64D r, rfl, room_small (n := 0) (by decide) (by rw [List.length_map]; omega) (by decide)⟩, ?_⟩)
        | ((with_reducible refine isSmall ?_) <;> (refine ⟨?_, ?_⟩; kernel_rfl))
        | refine ⟨rfl, ?_⟩
        | refine ⟨Int.natCast_nonneg _, ?_⟩))
    | with_reducible refine Both.mk ?_ ?_
    | (rintro (_ | _) hb)
    | rintro _ rfl
    | exact rfl
    | (split <;> (rename_i h; first | (simp only [beq_self_eq_true, eq_self, decide_true, Bool.not_true, Bool.false_eq_true] at h; done) | (try rw [h])))))
  all_goals (conv => whnf)
  all_goals first
    | (rw [hb rfl]; exact ⟨rfl, rfl⟩)
    | (rw [hb rfl]; rfl)
    | trace_state
theorem cloneIdxs (r : List Idx) (hl : r.length ≤ 1000) : Ent Tryz.prog 190 [.d (.sl false (r.map idxD))] [] (.own 0) [.arr 2 false (r.map idxD)] := by
  refine ent_ofN (cx := ⟨tab, [], []⟩) tok mixed (f := 190) Tryz.func190 (by kernel_rfl) (keep := true) (nm := [.slot 20002 2 false 2]) ?_
  repeat' ((conv => whnf) <;> (first
    | ((with_reducible refine isCall ?_) <;> (first
        | (refine ⟨⟨len_idxD r, rfl, room_small (n := 0) (by decide) (by rw [List.length_map]; omega) (by decide)⟩, ?_⟩)
        | fail))
    | ((with_reducible refine isLoop ?_) <;> (first
        | (refine ⟨⟨len_idxD r, rfl, room_small (n := 0) (by decide) (by rw [List.length_map]; omega) (by decide)⟩, ?_⟩)
        | fail))
    | ((with_reducible refine isCut ?_) <;> (first
        | refine ⟨⟨none⟩, ?_⟩))
    | ((first | with_reducible refine isEx ?_ | with_reducible refine isAnd ?_ | with_reducible refine isOr ?_) <;> (first
        | (refine ⟨⟨len_idxD r, rfl, room_small (n := 0) (by decide) (by rw [List.length_map]; omega) (by decide)⟩, ?_⟩)
        | ((with_reducible refine isSmall ?_) <;> (refine ⟨?_, ?_⟩; kernel_rfl))
        | refine ⟨rfl, ?_⟩
        | refine ⟨Int.natCast_nonneg _, ?_⟩))
    | with_reducible refine Both.mk ?_ ?_
    | (rintro (_ | _) hb)
    | rintro _ rfl
    | exact rfl
    | (split <;> (rename_i h; first | (simp only [beq_self_eq_true, eq_self, decide_true, Bool.not_true, Bool.false_eq_true] at h; done) | (try rw [h])))))
  all_goals (conv => whnf)
  all_goals first
    | (rw [hb rfl]; exact ⟨rfl, rfl⟩)
    | (rw [hb rfl]; rfl)
    | trace_state
set_option maxHeartbeats 4000000 in
theorem specCopySchema (s : Schema) (hs : s.few) : Ent Tryz.prog 100 [.d (schemaD s)] [] (.d (schemaD s)) [] := by
  have hm : s.idxs.length ≤ maxLen := Nat.le_trans hs.idxs (Nat.le_of_ble_eq_true rfl)
  refine ent_of tok mixed (f := 100) Tryz.func100 (by kernel_rfl) (keep := false) ?_
  repeat' ((conv => whnf) <;> (first
    | ((with_reducible refine isCall ?_) <;> (first
        | refine ⟨_, get_map' hx, ?_⟩
        | ((with_reducible refine isGet (xs := s.idxs.map idxD) (i := ((k : Nat) : Int).toNat) ?_); obtain ⟨x, hx⟩ := get_ex (ss := s.idxs) (k := k) (lt_of_dec (by assumption)); refine ⟨_, get_map' hx, ?_⟩)
        | (refine ⟨⟨len_colD s.cols, rfl, room_small (n := 0) (by decide) (by rw [List.length_map]; have := hs.cols; omega) (by decide)⟩, ?_⟩)
        | (refine ⟨⟨len_i64D s.keys, rfl, room_small (n := 0) (by decide) (by rw [List.length_map]; have := hs.keys; omega) (by decide)⟩, ?_⟩)
        | (refine ⟨⟨len_i64D x.cols, rfl, room_small (n := 0) (by decide) (by rw [List.length_map]; have := hs.lists x (get_mem hx); omega) (by decide)⟩, ?_⟩)
        | (refine ⟨⟨by decide, rfl, rfl, room_add (by rw [hxs, List.length_map, List.length_take]; have := hs.idxs; omega) (by decide)⟩, ?_⟩)
        | fail))
    | ((with_reducible refine isLoop ?_) <;> (first
        | (refine ⟨[1, 2, 3, 4], [10001, 10002, 10003, 10007, 10011, .cell 10041 2 true 10003 3], fun st => ∃ (k : Nat) (n : Int) (xs : List D), n = k ∧ k ≤ s.idxs.length ∧ xs = (s.idxs.take k).map idxO ∧ st = ⟨[(1, .ptr 10001 0), (2, .ptr 10002 0), (3, .ptr 10003 0), (4, .d (.i .i64 n))], [(10001, .var (schC s)), (10002, .var [.d (.s []), .snil, .snil, .snil]), (10003, .var [.d (.s s.name), .own 10007, .own 10011, .own 10041]), (10007, .arr 3 false (s.cols.map colD)), (10011, .arr 1 false (s.keys.map i64D)), (10041, .arr 2 true xs)]⟩, fun st => match look 4 st.env with | some (.d (.i _ n)) => s.idxs.length - n.toNat | _ => 0, ?_, ⟨0, _, [], rfl, Nat.zero_le _, rfl, ?_⟩, ?_⟩; kernel_rfl; kernel_rfl; rintro st ⟨k, n, xs, rfl, hk, hxs, rfl⟩)
        | refine ⟨_, get_map' hx, ?_⟩
        | ((with_reducible refine isGet (xs := s.idxs.map idxD) (i := ((k : Nat) : Int).toNat) ?_); obtain ⟨x, hx⟩ := get_ex (ss := s.idxs) (k := k) (lt_of_dec (by assumption)); refine ⟨_, get_map' hx, ?_⟩)
        | (refine ⟨⟨len_colD s.cols, rfl, room_small (n := 0) (by decide) (by rw [List.length_map]; have := hs.cols; omega) (by decide)⟩, ?_⟩)
        | (refine ⟨⟨len_i64D s.keys, rfl, room_small (n := 0) (by decide) (by rw [List.length_map]; have := hs.keys; omega) (by decide)⟩, ?_⟩)
        | (refine ⟨⟨len_i64D x.cols, rfl, room_small (n := 0) (by decide) (by rw [List.length_map]; have := hs.lists x (get_mem hx); omega) (by decide)⟩, ?_⟩)
        | (refine ⟨⟨by decide, rfl, rfl, room_add (by rw [hxs, List.length_map, List.length_take]; have := hs.idxs; omega) (by decide)⟩, ?_⟩)
        | fail))
    | ((with_reducible refine isCut ?_) <;> (first
        | refine ⟨⟨none⟩, ?_⟩))
    | ((first | with_reducible refine isEx ?_ | with_reducible refine isAnd ?_ | with_reducible refine isOr ?_) <;> (first
        | refine ⟨_, get_map' hx, ?_⟩
        | ((with_reducible refine isGet (xs := s.idxs.map idxD) (i := ((k : Nat) : Int).toNat) ?_); obtain ⟨x, hx⟩ := get_ex (ss := s.idxs) (k := k) (lt_of_dec (by assumption)); refine ⟨_, get_map' hx, ?_⟩)
        | (refine ⟨⟨len_colD s.cols, rfl, room_small (n := 0) (by decide) (by rw [List.length_map]; have := hs.cols; omega) (by decide)⟩, ?_⟩)
        | (refine ⟨⟨len_i64D s.keys, rfl, room_small (n := 0) (by decide) (by rw [List.length_map]; have := hs.keys; omega) (by decide)⟩, ?_⟩)
        | (refine ⟨⟨len_i64D x.cols, rfl, room_small (n := 0) (by decide) (by rw [List.length_map]; have := hs.lists x (get_mem hx); omega) (by decide)⟩, ?_⟩)
        | (refine ⟨⟨by decide, rfl, rfl, room_add (by rw [hxs, List.length_map, List.length_take]; have := hs.idxs; omega) (by decide)⟩, ?_⟩)
        | ((with_reducible refine isSmall ?_) <;> (refine ⟨?_, ?_⟩; kernel_rfl))
        | refine ⟨rfl, ?_⟩
        | refine ⟨Int.natCast_nonneg _, ?_⟩))
    | with_reducible refine Both.mk ?_ ?_
    | rintro _ rfl
    | exact rfl
    | (split <;> (rename_i h; first | (simp only [beq_self_eq_true, eq_self, decide_true, Bool.not_true, Bool.false_eq_true] at h; done) | (try rw [h])))))
  all_goals (conv => whnf)
  all_goals first
    | (refine ⟨⟨k + 1, _, xs ++ [idxO x], step_up (get_lt hx) hm, get_lt hx, (by rw [hxs, take_up hx, List.map_append]; rfl), ?_⟩, cast ?_ (mu_up (k := k) (n := s.idxs.length) (get_lt hx) hm)⟩
       · kernel_rfl
       · kernel_rfl)
    | (have e : k = s.idxs.length := by have := of_decide_eq_false h; rw [List.length_map] at this; omega
       have ex : eraseL xs = s.idxs.map idxD := by rw [hxs, e, List.take_length, erase_idx]
       rw [ex]; exact ⟨rfl, rfl⟩)
    | trace_state
set_option maxHeartbeats 4000000 in
theorem specCopy (t : Tab) (hs : t.sch.few) (hr : t.rows.length ≤ 1000) (hrow : ∀ r, r ∈ t.rows → r.length ≤ 1000) : Ent Tryz.prog 45 [.d (tabD t)] [] (.d (tabD t)) [] := by
  have c1 := specCopySchema t.sch hs
  have hm : t.rows.length ≤ maxLen := Nat.le_trans hr (Nat.le_of_ble_eq_true rfl)
  refine ent_of tok mixed (f := 45) Tryz.func45 (by kernel_rfl) (keep := false) ?_
  repeat' ((conv => whnf) <;> (first
    | ((with_reducible refine isCall ?_) <;> (first
        | (refine ⟨_, c1, ?_⟩; rintro _ _ ⟨rfl, rfl⟩)
        | (refine ⟨_, c2, ?_⟩; rintro _ _ ⟨rfl, rfl⟩)
        | ((with_reducible refine isGet (xs := t.rows.map rowD) (i := ((k : Nat) : Int).toNat) ?_); obtain ⟨x, hx⟩ := get_ex (ss := t.rows) (k := k) (lt_of_dec (by assumption)); have c2 := specCopyRow x (hrow x (get_mem hx)); refine ⟨_, get_map' hx, ?_⟩)
        | (refine ⟨⟨by decide, rfl, rfl, room_add (by rw [hxs, List.length_map, List.length_take]; omega) (by decide)⟩, ?_⟩)
        | fail))
    | ((with_reducible refine isLoop ?_) <;> (first
        | (refine ⟨[1, 2, 3, 4], [10001, 10002, 10003, .cell 10025 1 false 10003 4], fun st => ∃ (k : Nat) (n : Int) (xs : List D), n = k ∧ k ≤ t.rows.length ∧ xs = (t.rows.take k).map rowD ∧ st = ⟨[(1, .ptr 10001 0), (2, .ptr 10002 0), (3, .ptr 10003 0), (4, .d (.i .i64 n))], [(10001, .var (tabC t)), (10002, .var [.d (.s []), .snil, .snil, .snil, .snil]), (10003, .var [.d (.s t.sch.name), .d (.sl false (t.sch.cols.map colD)), .d (.sl false (t.sch.keys.map i64D)), .d (.sl false (t.sch.idxs.map idxD)), .own 10025]), (10025, .arr 1 false xs)]⟩, fun st => match look 4 st.env with | some (.d (.i _ n)) => t.rows.length - n.toNat | _ => 0, ?_, ⟨0, _, [], rfl, Nat.zero_le _, rfl, ?_⟩, ?_⟩; kernel_rfl; kernel_rfl; rintro st ⟨k, n, xs, rfl, hk, hxs, rfl⟩)
        | ((with_reducible refine isGet (xs := t.rows.map rowD) (i := ((k : Nat) : Int).toNat) ?_); obtain ⟨x, hx⟩ := get_ex (ss := t.rows) (k := k) (lt_of_dec (by assumption)); have c2 := specCopyRow x (hrow x (get_mem hx)); refine ⟨_, get_map' hx, ?_⟩)
        | (refine ⟨⟨by decide, rfl, rfl, room_add (by rw [hxs, List.length_map, List.length_take]; omega) (by decide)⟩, ?_⟩)
        | fail))
    | ((with_reducible refine isCut ?_) <;> (first
        | refine ⟨⟨none⟩, ?_⟩))
    | ((first | with_reducible refine isEx ?_ | with_reducible refine isAnd ?_ | with_reducible refine isOr ?_) <;> (first
        | ((with_reducible refine isGet (xs := t.rows.map rowD) (i := ((k : Nat) : Int).toNat) ?_); obtain ⟨x, hx⟩ := get_ex (ss := t.rows) (k := k) (lt_of_dec (by assumption)); have c2 := specCopyRow x (hrow x (get_mem hx)); refine ⟨_, get_map' hx, ?_⟩)
        | (refine ⟨⟨by decide, rfl, rfl, room_add (by rw [hxs, List.length_map, List.length_take]; omega) (by decide)⟩, ?_⟩)
        | ((with_reducible refine isSmall ?_) <;> (refine ⟨?_, ?_⟩; kernel_rfl))
        | refine ⟨rfl, ?_⟩
        | refine ⟨Int.natCast_nonneg _, ?_⟩))
    | with_reducible refine Both.mk ?_ ?_
    | rintro _ rfl
    | exact rfl
    | (split <;> (rename_i h; first | (simp only [beq_self_eq_true, eq_self, decide_true, Bool.not_true, Bool.false_eq_true] at h; done) | (try rw [h])))))
  all_goals (conv => whnf)
  all_goals first
    | (refine ⟨⟨k + 1, _, xs ++ [rowD x], step_up (get_lt hx) hm, get_lt hx, (by rw [hxs, take_up hx, List.map_append]; rfl), ?_⟩, cast ?_ (mu_up (k := k) (n := t.rows.length) (get_lt hx) hm)⟩
       · kernel_rfl
       · kernel_rfl)
    | (have e : k = t.rows.length := by have := of_decide_eq_false h; rw [List.length_map] at this; omega
       have ex : xs = t.rows.map rowD := by rw [hxs, e, List.take_length]
       rw [ex]; exact ⟨rfl, rfl⟩)
    | trace_state
end Go.Pm.Tryz
/-
Copies of schemas: the program's.
-/
namespace Go.Pm.Tryz
open Go Go.Proofs
set_option linter.unusedVariables false
set_option linter.unusedSimpArgs false
set_option maxRecDepth 100000
def mixL {α : Type} (f g : α → D) (xs : List α) (k : Nat) : List D := (xs.take k).map f ++ (xs.drop k).map g
theorem mixL_len {α : Type} {f g : α → D} {xs : List α} {k : Nat} (h : k ≤ xs.length) : (mixL f g xs k).length = xs.length := by
  unfold mixL; rw [List.length_append, List.length_map, List.length_map, List.length_take, List.length_drop]; omega
theorem mixL_get {α : Type} {f g : α → D} {xs : List α} {k : Nat} {x : α} (h : xs[k]? = some x) : (mixL f g xs k)[k]? = some (g x) := by
  have hk := get_lt h
  have e : ((xs.take k).map f).length = k := by rw [List.length_map, List.length_take]; omega
  unfold mixL
  rw [List.getElem?_append_right (by omega), e, Nat.sub_self, List.getElem?_map, List.getElem?_drop, Nat.add_zero, h]; rfl
theorem mixL_up {α : Type} {f g : α → D} {xs : List α} {k : Nat} {x : α} (h : xs[k]? = some x) : (mixL f g xs k).set k (f x) = mixL f g xs (k + 1) := by
  obtain ⟨hk, rfl⟩ := List.getElem?_eq_some_iff.1 h
  have e : ((xs.take k).map f).length = k := by rw [List.length_map, List.length_take]; omega
  unfold mixL
  rw [List.set_append_right _ _ (by omega), e, Nat.sub_self, List.drop_eq_getElem_cons hk, List.map_cons, List.set_cons_zero, List.take_succ_eq_append_getElem hk, List.map_append, List.append_assoc]; rfl
theorem mixL_all {α : Type} {f g : α → D} {xs : List α} : mixL f g xs xs.length = xs.map f := by unfold mixL; rw [List.take_length, List.drop_length]; simp
theorem mixL_zero {α : Type} {f g : α → D} {xs : List α} : mixL f g xs 0 = xs.map g := by unfold mixL; simp
set_option maxHeartbeats 4000000 in
theorem ownSchemaK (s : Schema) (hs : s.few) : Ent Tryz.prog 105 [.d (schemaD s)] [] (.agg [.d (.s s.name), .own 0, .own 1, .own 2]) [.arr 3 false (s.cols.map colD), .arr 1 false (s.keys.map i64D), .arr 2 true (s.idxs.map idxO)] := by
  refine ent_deepL ?_
  have c1 := cloneCols s.cols hs.cols
  have c2 := cloneInts s.keys hs.keys
  have c3 := cloneIdxs s.idxs hs.idxs
  have hm : s.idxs.length ≤ maxLen := Nat.le_trans hs.idxs (Nat.le_of_ble_eq_true rfl)
  refine ent_of (cx := ⟨tab, [], []⟩) tok mixed (f := 105) Tryz.func105 (by kernel_rfl) (keep := true) ?_
  repeat' ((conv => whnf) <;> (first
    | ((with_reducible refine isCall ?_) <;> (first
        | (refine ⟨_, c1, ?_⟩; rintro _ _ ⟨rfl, rfl⟩)
        | (refine ⟨_, c2, ?_⟩; rintro _ _ ⟨rfl, rfl⟩)
        | (refine ⟨_, c3, ?_⟩; rintro _ _ ⟨rfl, rfl⟩)
        | (refine ⟨_, c4, ?_⟩; rintro _ _ ⟨rfl, rfl⟩)
        | refine ⟨_, hzk, ?_⟩
        | (obtain ⟨x, hx⟩ := get_ex (ss := s.idxs) (k := k) (lt_of_dec (by assumption)); have hzk := mixL_get (f := idxO) (g := idxD) hx; rw [← hz] at hzk; have c4 := cloneInts x.cols (hs.lists x (get_mem hx)); refine ⟨_, hzk, ?_⟩)
        | refine ⟨⟨Int.natCast_nonneg _, (by rw [hz, mixL_len hk]; have := lt_of_dec (ss := s.idxs) (f := idxD) (k := k) (by assumption); omega)⟩, ?_⟩
        | fail))
    | ((with_reducible refine isLoop ?_) <;> (first
        | (refine ⟨[1, 2, 18, 19, 20], [10001, 10002, 10007, 10011, 10015], fun st => ∃ (k : Nat) (n : Int) (dp : Bool) (zs : List D), n = k ∧ k ≤ s.idxs.length ∧ zs = mixL idxO idxD s.idxs k ∧ st = ⟨[(1, .ptr 10001 0), (2, .ptr 10002 0), (18, .own 10015), (19, .d (.i .i64 ((s.idxs.map idxD).length : Int))), (20, .d (.i .i64 n))], [(10001, .var [.d (.s s.name), .own 10007, .own 10011, .own 10015]), (10002, .var [.d (.s []), .snil, .snil, .snil]), (10007, .arr 3 false (s.cols.map colD)), (10011, .arr 1 false (s.keys.map i64D)), (10015, .arr 2 dp zs)]⟩, fun st => match look 20 st.env with | some (.d (.i _ n)) => s.idxs.length - n.toNat | _ => 0, ?_, ⟨0, _, false, s.idxs.map idxD, rfl, Nat.zero_le _, mixL_zero.symm, ?_⟩, ?_⟩; kernel_rfl; kernel_rfl; rintro st ⟨k, n, dp, zs, rfl, hk, hz, rfl⟩; cases dp)
        | refine ⟨_, hzk, ?_⟩
        | (obtain ⟨x, hx⟩ := get_ex (ss := s.idxs) (k := k) (lt_of_dec (by assumption)); have hzk := mixL_get (f := idxO) (g := idxD) hx; rw [← hz] at hzk; have c4 := cloneInts x.cols (hs.lists x (get_mem hx)); refine ⟨_, hzk, ?_⟩)
        | refine ⟨⟨Int.natCast_nonneg _, (by rw [hz, mixL_len hk]; have := lt_of_dec (ss := s.idxs) (f := idxD) (k := k) (by assumption); omega)⟩, ?_⟩
        | fail))
    | ((with_reducible refine isCut ?_) <;> (first
        | refine ⟨⟨none⟩, ?_⟩))
    | ((first | with_reducible refine isEx ?_ | with_reducible refine isAnd ?_ | with_reducible refine isOr ?_) <;> (first
        | refine ⟨_, hzk, ?_⟩
        | (obtain ⟨x, hx⟩ := get_ex (ss := s.idxs) (k := k) (lt_of_dec (by assumption)); have hzk := mixL_get (f := idxO) (g := idxD) hx; rw [← hz] at hzk; have c4 := cloneInts x.cols (hs.lists x (get_mem hx)); refine ⟨_, hzk, ?_⟩)
        | refine ⟨⟨Int.natCast_nonneg _, (by rw [hz, mixL_len hk]; have := lt_of_dec (ss := s.idxs) (f := idxD) (k := k) (by assumption); omega)⟩, ?_⟩
        | ((with_reducible refine isSmall ?_) <;> (refine ⟨?_, ?_⟩; kernel_rfl))
        | refine ⟨rfl, ?_⟩
        | refine ⟨Int.natCast_nonneg _, ?_⟩))
    | with_reducible refine Both.mk ?_ ?_
    | rintro _ rfl
    | exact rfl
    | (split <;> (rename_i h; first | (simp only [beq_self_eq_true, eq_self, decide_true, Bool.not_true, Bool.false_eq_true] at h; done) | (try rw [h])))))
  all_goals (conv => whnf)
  all_goals first
    | exact ⟨⟨k + 1, _, _, _, step_up (get_lt hx) hm, get_lt hx, (by rw [hz]; exact mixL_up hx), rfl⟩, mu_up (get_lt hx) hm⟩
    | (have e : k = s.idxs.length := by have := of_decide_eq_false h; rw [List.length_map] at this; omega
       have ez : zs = s.idxs.map idxO := by rw [hz, e, mixL_all]
       rw [ez]
       intro m
       rcases m with _ | _ | _ | m
       · exact .inl rfl
       · exact .inl rfl
       · first | exact .inl rfl | exact .inr ⟨_, _, rfl, rfl⟩
       · exact .inl rfl)
    | trace_state
end Go.Pm.Tryz
