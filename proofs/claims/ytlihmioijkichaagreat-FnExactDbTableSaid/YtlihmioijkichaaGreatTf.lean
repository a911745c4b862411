/-
Databases, read: the program's walk.
-/
import Derived.Test.YtlihmioijkichaaGreatTe
namespace Go.Pm.Tryz
open Go Go.Proofs
set_option linter.unusedVariables false
set_option linter.unusedSimpArgs false
set_option maxRecDepth 100000
def rowO (r : List Val) : D := .os 3 false (r.map valD)
def tabO (t : Tab) : D := .agg [.s t.sch.name, .os 3 false (t.sch.cols.map colD), .os 1 false (t.sch.keys.map i64D), .os 2 true (t.sch.idxs.map idxO), .os 1 true (t.rows.map rowO)]
theorem erase_rows : ∀ l : List (List Val), eraseL (l.map rowO) = l.map rowD
  | [] => rfl
  | x :: l => by simp only [List.map_cons, eraseL, erase_rows l, rowO, rowD, D.erase, erase_vals]
theorem erase_tabs : ∀ l : List Tab, eraseL (l.map tabO) = l.map tabD
  | [] => rfl
  | x :: l => by simp only [List.map_cons, eraseL, erase_tabs l, tabO, tabD, D.erase, erase_ints, erase_cols, erase_rows, erase_idx]
set_option maxHeartbeats 8000000 in
theorem implDb (l : List UInt8) (hl : l.length ≤ 20000) : Ent Tryz.prog 60 [.d (.s l)] [] (.tup [.agg [.own 0], .d (.b (dbOk l))]) [.arr 5 true ((dbI (begR l)).1.map tabO)] := by
  have hok : dbOk l = (overR (dbI (begR l)).2 && dec (dbP (dbI (begR l)).1)) := rfl
  have hr0 : (begR l).text.length ≤ 20000 := hl
  have hsm := dbI_small (r := begR l) hl
  have c1 := implMany (begR l) hr0 8
  have hr := manyI_range (begR l) (most := 8) (by decide)
  have t1 : (implManyR (begR l) 8).2.text.length ≤ 20000 := hl
  have e0 : dbI (begR l) = ([] ++ (listR tabI (implManyR (begR l) 8).1.toNat (implManyR (begR l) 8).2).1, (listR tabI (implManyR (begR l) 8).1.toNat (implManyR (begR l) 8).2).2) := rfl
  generalize dbOk l = ok at *
  generalize dbI (begR l) = W at *
  generalize implManyR (begR l) 8 = q at *
  refine ent_of (cx := ⟨tab, [], []⟩) tok mixed (f := 60) Tryz.func60 (by kernel_rfl) (keep := true) ?_
  repeat' ((conv => whnf) <;> (first
    | ((with_reducible refine isCall ?_) <;> (first
        | (refine ⟨_, c1, ?_⟩; rintro _ _ ⟨rfl, rfl⟩)
        | (refine ⟨_, c7, ?_⟩; rintro _ _ ⟨rfl, rfl⟩)
        | (refine ⟨_, c8, ?_⟩; rintro _ _ ⟨rfl, rfl⟩)
        | (refine ⟨_, c9, ?_⟩; rintro _ _ ⟨rfl, rfl⟩)
        | (refine ⟨_, implMany (schI rd).2 ht 60, ?_⟩; rintro _ _ ⟨rfl, rfl⟩)
        | (refine ⟨_, implValues rd2 ht2, ?_⟩; rintro _ _ ⟨rfl, rfl⟩)
        | (refine absurd (out_loop hij ?_) (Nat.ne_of_gt hj0); assumption)
        | (refine absurd (in_loop hij ?_) (Nat.lt_irrefl _); assumption)
        | (refine ⟨⟨by decide, rfl, rfl, ten_room hrs (by decide) _ (by decide)⟩, ?_⟩)
        | (refine ⟨⟨by decide, rfl, rfl, ten_room hss (by decide) _ (by decide)⟩, ?_⟩)
        | fail))
    | ((with_reducible refine isLoop ?_) <;> (first
        | (refine ⟨[2, 4, 5, 6, 12, 13, 19, 20], [10002, 10005, 10009, 10034, 10006, 10016, 20016, 30016, .cell 10027 1 true 10006 4], fun st => ∃ (i2 j2 : Nat) (n : Int) (rs : List (List Val)) (rd2 : Rd) (xs : List D), n = i2 ∧ (i2 : Int) + j2 = (implManyR (schI rd).2 60).1 ∧ rd2.text.length ≤ 20000 ∧ rs.length + j2 ≤ 60 ∧ timesR (implManyR · 60) valsI (schI rd).2 = (rs ++ (listR valsI j2 rd2).1, (listR valsI j2 rd2).2) ∧ xs = rs.map rowO ∧ st = ⟨[(2, .ptr 10002 0), (4, .ptr 10009 0), (5, .ptr 10005 0), (6, .ptr 10006 0), (12, .d (.i .i64 q.1)), (13, .d (.i .i64 i)), (19, .d (.i .i64 (implManyR (schI rd).2 60).1)), (20, .d (.i .i64 n))], [(10002, .var [.snil]), (10005, .var [.own 10034]), (10009, .var (rdC rd2)), (10034, .arr 5 true (ss.map tabO)), (10006, .var [.d (.s (schI rd).1.name), .own 10016, .own 20016, .own 30016, .own 10027]), (10016, .arr 3 false ((schI rd).1.cols.map colD)), (20016, .arr 1 false ((schI rd).1.keys.map i64D)), (30016, .arr 2 true ((schI rd).1.idxs.map idxO)), (10027, .arr 1 true xs)]⟩, fun st => match look 20 st.env with | some (.d (.i _ n)) => 60 - n.toNat | _ => 0, ?_, ⟨0, (implManyR (schI rd).2 60).1.toNat, _, [], (implManyR (schI rd).2 60).2, [], rfl, (by rw [Int.toNat_of_nonneg (manyI_range (schI rd).2 (most := 60) (by decide)).1]; exact Int.zero_add _), ht, (by have := (manyI_range (schI rd).2 (most := 60) (by decide)).2; show 0 + _ ≤ 60; omega), rfl, rfl, ?_⟩, ?_⟩; kernel_rfl; kernel_rfl; rintro st ⟨i2, j2, n, rs, rd2, xs, rfl, hij2, ht2, hrs, hi, rfl, rfl⟩)
        | (refine ⟨[2, 4, 5, 12, 13], [10002, 10005, 10009, .cell 10034 5 true 10005 0], fun st => ∃ (i j : Nat) (n : Int) (ss : List Tab) (rd : Rd) (xs : List D), n = i ∧ (i : Int) + j = q.1 ∧ rd.text.length ≤ 20000 ∧ ss.length + j ≤ 8 ∧ W = (ss ++ (listR tabI j rd).1, (listR tabI j rd).2) ∧ xs = ss.map tabO ∧ st = ⟨[(2, .ptr 10002 0), (4, .ptr 10009 0), (5, .ptr 10005 0), (12, .d (.i .i64 q.1)), (13, .d (.i .i64 n))], [(10002, .var [.snil]), (10005, .var [.own 10034]), (10009, .var (rdC rd)), (10034, .arr 5 true xs)]⟩, fun st => match look 13 st.env with | some (.d (.i _ n)) => 8 - n.toNat | _ => 0, ?_, ⟨0, _, _, [], _, [], rfl, (by rw [Int.toNat_of_nonneg hr.1]; exact Int.zero_add _), t1, (by show 0 + _ ≤ 8; omega), e0, rfl, ?_⟩, ?_⟩; kernel_rfl; kernel_rfl; rintro st ⟨i, j, n, ss, rd, xs, rfl, hij, ht, hss, ho, rfl, rfl⟩; rcases Nat.eq_zero_or_pos j with rfl | hj0; rotate_left; have c9 := implSchemaIn rd ht; rotate_left; (have c7 := implOverRd rd; have hw := list_end ho rfl; have hiq : q.1 = (i : Int) := (by omega);  obtain ⟨u7, hu7⟩ : ∃ u, u = overR rd := ⟨_, rfl⟩; rw [← hu7] at c7; have c8 := implDbRight ss (by omega) (by rw [hw] at hsm; exact fun t ht => (hsm.2 t ht).fit); rw [← erase_tabs] at c8; cases u7))
        | (refine absurd (out_loop hij ?_) (Nat.ne_of_gt hj0); assumption)
        | (refine absurd (in_loop hij ?_) (Nat.lt_irrefl _); assumption)
        | (refine ⟨⟨by decide, rfl, rfl, ten_room hrs (by decide) _ (by decide)⟩, ?_⟩)
        | (refine ⟨⟨by decide, rfl, rfl, ten_room hss (by decide) _ (by decide)⟩, ?_⟩)
        | fail))
    | ((with_reducible refine isCut ?_) <;> (first
        | refine ⟨⟨none⟩, ?_⟩))
    | ((first | with_reducible refine isEx ?_ | with_reducible refine isAnd ?_ | with_reducible refine isOr ?_) <;> (first
        | (refine absurd (out_loop hij ?_) (Nat.ne_of_gt hj0); assumption)
        | (refine absurd (in_loop hij ?_) (Nat.lt_irrefl _); assumption)
        | (refine ⟨⟨by decide, rfl, rfl, ten_room hrs (by decide) _ (by decide)⟩, ?_⟩)
        | (refine ⟨⟨by decide, rfl, rfl, ten_room hss (by decide) _ (by decide)⟩, ?_⟩)
        | ((with_reducible refine isSmall ?_) <;> (refine ⟨?_, ?_⟩; kernel_rfl))
        | refine ⟨rfl, ?_⟩
        | refine ⟨Int.natCast_nonneg _, ?_⟩))
    | with_reducible refine Both.mk ?_ ?_
    | rintro _ rfl
    | exact rfl
    | (split <;> (rename_i h; first | (simp only [beq_self_eq_true, eq_self, decide_true, Bool.not_true, Bool.false_eq_true] at h; done) | (try rw [h])))))
  all_goals (conv => whnf)
  all_goals first
    | (have hj := in_loop hij2 (by assumption : decide ((i2 : Int) < (implManyR (schI rd).2 60).1) = true)
       have hr2 := manyI_range (schI rd).2 (most := 60) (by decide)
       refine ⟨⟨i2 + 1, j2 - 1, _, rs ++ [(valsI rd2).1], (valsI rd2).2, rs.map rowO ++ [rowO (valsI rd2).1], step_up (n := 60) (by omega) (Nat.le_of_ble_eq_true rfl), (by omega), ht2, ?_, list_step hi hj, ?_, ?_⟩, cast ?_ (mu_up (k := i2) (n := 60) (by omega) (Nat.le_of_ble_eq_true rfl))⟩
       · simp only [List.length_append, List.length_cons, List.length_nil]; omega
       · rw [List.map_append]; rfl
       · kernel_rfl
       · kernel_rfl)
    | (have hj := in_loop hij (by assumption : decide ((i : Int) < q.1) = true)
       have e1 : tabI rd = (⟨(schI rd).1, rs⟩, rd2) := by
         show ((⟨(schI rd).1, (timesR (implManyR · 60) valsI (schI rd).2).1⟩ : Tab), (timesR (implManyR · 60) valsI (schI rd).2).2) = _
         rw [list_end hi (out_loop hij2 (by assumption))]
       have hls := list_step ho hj
       rw [e1] at hls
       refine ⟨⟨i + 1, j - 1, _, ss ++ [⟨(schI rd).1, rs⟩], rd2, ss.map tabO ++ [tabO ⟨(schI rd).1, rs⟩], step_up (n := 8) (by omega) (Nat.le_of_ble_eq_true rfl), (by omega), ht2, ?_, hls, ?_, ?_⟩, cast ?_ (mu_up (k := i) (n := 8) (by omega) (Nat.le_of_ble_eq_true rfl))⟩
       · simp only [List.length_append, List.length_cons, List.length_nil]; omega
       · rw [List.map_append]; rfl
       · kernel_rfl
       · kernel_rfl)
    | (have e : ok = false := by rw [hok, hw, ← hu7]; rfl
       rw [hw, e]; refine ⟨?_, ?_⟩ <;> kernel_rfl)
    | (have e : ok = dec (dbP ss) := by rw [hok, hw, ← hu7, Bool.true_and]
       rw [hw, e]; refine ⟨?_, ?_⟩ <;> kernel_rfl)
    | trace_state
def dbOutK (o : DbOut) : AV := .agg [.own 0, .d (.i .i64 0), .d (.i .i64 o.code)]
def dbOutO (o : DbOut) : List Ob := [.arr 5 true (o.tabs.map tabO)]
set_option maxHeartbeats 1000000 in
theorem implDbReadOut (l : List UInt8) : Ent Tryz.prog 19 [.d (.s l)] [] (dbOutK (dbOutM l)) (dbOutO (dbOutM l)) := by
  have c0 := isLong [l] (Nat.le_of_ble_eq_true rfl)
  rw [longs1] at c0
  by_cases h : l.length ≤ 20000
  · have c1 := implDb l h
    rw [dbOutM, decide_eq_true h]
    rw [decide_eq_true h] at c0
    generalize (dbI (begR l)).1 = b at *
    generalize dbOk l = ok at *
    refine ent_ofN (cx := ⟨tab, [], []⟩) tok mixed (f := 19) Tryz.func19 (by kernel_rfl) (keep := true) (nm := [.cell 20002 5 true 10002 0]) ?_
    cases ok
    all_goals
      repeat' ((conv => whnf) <;> (first
        | ((with_reducible refine isCall ?_) <;> (first
            | (refine ⟨_, c0, ?_⟩; rintro _ _ ⟨rfl, rfl⟩)
            | (refine ⟨_, c1, ?_⟩; rintro _ _ ⟨rfl, rfl⟩)
            | fail))
        | ((with_reducible refine isLoop ?_) <;> (first
            | fail))
        | ((with_reducible refine isCut ?_) <;> (first
            | refine ⟨⟨none⟩, ?_⟩))
        | ((first | with_reducible refine isEx ?_ | with_reducible refine isAnd ?_ | with_reducible refine isOr ?_) <;> (first
            | ((with_reducible refine isSmall ?_) <;> (refine ⟨?_, ?_⟩; kernel_rfl))
            | refine ⟨rfl, ?_⟩
            | refine ⟨Int.natCast_nonneg _, ?_⟩))
        | with_reducible refine Both.mk ?_ ?_
        | rintro _ rfl
        | exact rfl
        | (split <;> (rename_i h; first | (simp only [beq_self_eq_true, eq_self, decide_true, Bool.not_true, Bool.false_eq_true] at h; done) | (try rw [h])))))
    all_goals trace_state
  · rw [dbOutM, decide_eq_false h]
    rw [decide_eq_false h] at c0
    refine ent_ofN (cx := ⟨tab, [], []⟩) tok mixed (f := 19) Tryz.func19 (by kernel_rfl) (keep := true) (nm := [.cell 20002 5 true 10002 0]) ?_
    repeat' ((conv => whnf) <;> (first
      | ((with_reducible refine isCall ?_) <;> (first
          | (refine ⟨_, c0, ?_⟩; rintro _ _ ⟨rfl, rfl⟩)
          | fail))
      | ((with_reducible refine isLoop ?_) <;> (first
          | fail))
      | ((with_reducible refine isCut ?_) <;> (first
          | refine ⟨⟨none⟩, ?_⟩))
      | ((first | with_reducible refine isEx ?_ | with_reducible refine isAnd ?_ | with_reducible refine isOr ?_) <;> (first
          | ((with_reducible refine isSmall ?_) <;> (refine ⟨?_, ?_⟩; kernel_rfl))
          | refine ⟨rfl, ?_⟩
          | refine ⟨Int.natCast_nonneg _, ?_⟩))
      | with_reducible refine Both.mk ?_ ?_
      | rintro _ rfl
      | exact rfl
      | (split <;> (rename_i h; first | (simp only [beq_self_eq_true, eq_self, decide_true, Bool.not_true, Bool.false_eq_true] at h; done) | (try rw [h])))))
    all_goals trace_state
end Go.Pm.Tryz
