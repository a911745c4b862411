/-
Ops, read: the reference's walk.
-/
import Derived.Test.YtlihmioijkichaaCz
namespace Go.Pm.Try
open Go Go.Proofs
set_option linter.unusedVariables false
set_option linter.unusedSimpArgs false
set_option maxRecDepth 100000
structure OpsOut where
  ops : List Op
  code : Int
noncomputable def opsOutM (l : List UInt8) : OpsOut := sel (decide (l.length ≤ 20000)) (sel (opsOk l) ⟨(opsI (begR l)).1, 0⟩ ⟨[], 3⟩) ⟨[], 2⟩
def opsOutD (o : OpsOut) : D := .agg [.sl false (o.ops.map opD), .i .i64 o.code]
theorem opsOut_small (l : List UInt8) : (opsOutM l).ops.length ≤ 20 ∧ ∀ o, o ∈ (opsOutM l).ops → o.small := by
  unfold opsOutM
  by_cases h : l.length ≤ 20000
  · rw [decide_eq_true h]
    cases opsOk l with
    | true => exact ⟨(opsI_small (r := begR l) h).1, fun o ho => ((opsI_small (r := begR l) h).2 o ho).1⟩
    | false => exact ⟨Nat.zero_le _, fun o ho => by cases ho⟩
  · rw [decide_eq_false h]; exact ⟨Nat.zero_le _, fun o ho => by cases ho⟩
theorem opS_one {r : Rd} (h : decide ((specNumR r).1 = 1) = true) : opS r = (⟨(specNumR r).1, [], (schS (specNumR r).2).1, []⟩, (schS (specNumR r).2).2) := by
  unfold opS bindR opG; rw [h]; rfl
theorem opS_more {r : Rd} (h : decide ((specNumR r).1 = 1) = false) : opS r = (⟨(specNumR r).1, (specTextR (specNumR r).2).1, noSch, (valsS (specTextR (specNumR r).2).2).1⟩, (valsS (specTextR (specNumR r).2).2).2) := by
  unfold opS bindR opG; rw [h]; rfl
set_option maxHeartbeats 4000000 in
theorem specOps (l : List UInt8) (hl : l.length ≤ 20000) : Ent Try.prog 60 [.d (.s l)] [] (.tup [.d (.sl false ((opsS (begR l)).1.map opD)), .d (.b (overR (opsS (begR l)).2 && dec (opsP (opsS (begR l)).1)))]) [] := by
  have hr0 : (begR l).text.length ≤ 20000 := hl
  have hsm := opsS_small (r := begR l) hl
  have c1 := specMany (begR l) hr0 20
  have hr := manyS_range (begR l) (most := 20) (by decide)
  have t1 : (specManyR (begR l) 20).2.text.length ≤ 20000 := by rw [(same_many 20).textS]; exact hr0
  have e0 : opsS (begR l) = ([] ++ (listR opS (specManyR (begR l) 20).1.toNat (specManyR (begR l) 20).2).1, (listR opS (specManyR (begR l) 20).1.toNat (specManyR (begR l) 20).2).2) := rfl
  generalize opsS (begR l) = W at *
  generalize specManyR (begR l) 20 = q at *
  refine ent_of tok mixed (f := 60) Try.func60 (by kernel_rfl) (keep := false) ?_
  repeat' ((conv => whnf) <;> (first
    | ((with_reducible refine isCall ?_) <;> (first
        | (refine ⟨_, c1, ?_⟩; rintro _ _ ⟨rfl, rfl⟩)
        | (refine ⟨_, c7, ?_⟩; rintro _ _ ⟨rfl, rfl⟩)
        | (refine ⟨_, c8, ?_⟩; rintro _ _ ⟨rfl, rfl⟩)
        | (refine ⟨_, specNum rd ht, ?_⟩; rintro _ _ ⟨rfl, rfl⟩)
        | (refine ⟨_, specSchemaIn (specNumR rd).2 (by rw [same_num.textS]; exact ht), ?_⟩; rintro _ _ ⟨rfl, rfl⟩)
        | (refine ⟨_, specText (specNumR rd).2 (by rw [same_num.textS]; exact ht), ?_⟩; rintro _ _ ⟨rfl, rfl⟩)
        | (refine ⟨_, specValues (specTextR (specNumR rd).2).2 (by rw [same_word.textS, same_num.textS]; exact ht), ?_⟩; rintro _ _ ⟨rfl, rfl⟩)
        | (refine absurd (none_of ?_) hj0; assumption)
        | (refine ⟨⟨by decide, rfl, rfl, ten_room hss (by decide) _ (by decide)⟩, ?_⟩)
        | fail))
    | ((with_reducible refine isLoop ?_) <;> (first
        | (refine ⟨[4, 5, 6], [10010, 10011], fun st => ∃ (j : Nat) (n : Int) (ss : List Op) (rd : Rd) (xs : List D), n = j ∧ rd.text.length ≤ 20000 ∧ ss.length + j ≤ 20 ∧ W = (ss ++ (listR opS j rd).1, (listR opS j rd).2) ∧ xs = ss.map opD ∧ st = ⟨[(4, .ptr 10010 0), (5, .own 10011), (6, .d (.i .i64 n))], [(10010, .var (rdC rd)), (10011, .arr 7 false xs)]⟩, fun st => match look 6 st.env with | some (.d (.i _ n)) => n.toNat | _ => 0, rfl, ⟨_, _, [], _, [], (Int.toNat_of_nonneg hr.1).symm, t1, (by show 0 + _ ≤ 20; omega), e0, rfl, rfl⟩, ?_⟩; rintro st ⟨j, n, ss, rd, xs, rfl, ht, hss, ho, rfl, rfl⟩; by_cases hj0 : j = 0; (have c7 := specDone rd; have hw := list_end ho hj0; obtain ⟨u7, hu7⟩ : ∃ u, u = overR rd := ⟨_, rfl⟩; rw [← hu7] at c7; have c8 := specOpsRight ss (by omega) (by rw [hw] at hsm; exact hsm.2); cases u7))
        | (refine absurd (none_of ?_) hj0; assumption)
        | (refine ⟨⟨by decide, rfl, rfl, ten_room hss (by decide) _ (by decide)⟩, ?_⟩)
        | fail))
    | ((with_reducible refine isCut ?_) <;> (first
        | refine ⟨⟨none⟩, ?_⟩))
    | ((first | with_reducible refine isEx ?_ | with_reducible refine isAnd ?_ | with_reducible refine isOr ?_) <;> (first
        | (refine absurd (none_of ?_) hj0; assumption)
        | (refine ⟨⟨by decide, rfl, rfl, ten_room hss (by decide) _ (by decide)⟩, ?_⟩)
        | refine ⟨rfl, ?_⟩
        | refine ⟨Int.natCast_nonneg _, ?_⟩))
    | with_reducible refine Both.mk ?_ ?_
    | rintro _ rfl
    | exact rfl
    | (split <;> (rename_i h; first | (simp only [beq_self_eq_true, eq_self, decide_true, Bool.not_true, Bool.false_eq_true] at h; done) | (try rw [h])))))
  all_goals (conv => whnf)
  all_goals first
    | (have hj := pos_of (by assumption : decide ((j : Int) > 0) = true)
       have e1 := opS_one (by assumption : decide ((specNumR rd).1 = 1) = true)
       have hls := list_step ho hj
       have ht2 : (opS rd).2.text.length ≤ 20000 := by rw [opS_text]; exact ht
       rw [e1] at hls ht2
       refine ⟨⟨j - 1, _, ss ++ [_], _, _, down1 hj (by omega), ht2, ?_, hls, ?_, rfl⟩, mu_down hj (by omega)⟩
       · simp only [List.length_append, List.length_cons, List.length_nil]; omega
       · rw [List.map_append]; rfl)
    | (have hj := pos_of (by assumption : decide ((j : Int) > 0) = true)
       have e1 := opS_more (by assumption : decide ((specNumR rd).1 = 1) = false)
       have hls := list_step ho hj
       have ht2 : (opS rd).2.text.length ≤ 20000 := by rw [opS_text]; exact ht
       rw [e1] at hls ht2
       refine ⟨⟨j - 1, _, ss ++ [_], _, _, down1 hj (by omega), ht2, ?_, hls, ?_, rfl⟩, mu_down hj (by omega)⟩
       · simp only [List.length_append, List.length_cons, List.length_nil]; omega
       · rw [List.map_append]; rfl)
    | (rw [hw, ← hu7]; exact ⟨rfl, rfl⟩)
    | trace_state
theorem specOpsRead (l : List UInt8) : Ent Try.prog 20 [.d (.s l)] [] (.d (opsOutD (opsOutM l))) [] := by
  by_cases h : l.length ≤ 20000
  · have c1 := specOps l h
    obtain ⟨h1, h2⟩ := ops_same l
    rw [h1] at c1
    rw [opsOutM, decide_eq_true h]
    generalize opsOk l = ok at *
    cases ok with
    | false =>
      generalize opsS (begR l) = a at *
      generalize opsI (begR l) = b at *
      refine ent_of tok mixed (f := 20) Try.func20 (by kernel_rfl) (keep := false) ?_
      repeat' ((conv => whnf) <;> (first
        | ((with_reducible refine isCall ?_) <;> (first
            | (refine ⟨_, c1, ?_⟩; rintro _ _ ⟨rfl, rfl⟩)
            | fail))
        | ((with_reducible refine isLoop ?_) <;> (first
            | fail))
        | ((with_reducible refine isCut ?_) <;> (first
            | refine ⟨⟨none⟩, ?_⟩))
        | ((first | with_reducible refine isEx ?_ | with_reducible refine isAnd ?_ | with_reducible refine isOr ?_) <;> (first
            | refine ⟨rfl, ?_⟩
            | refine ⟨Int.natCast_nonneg _, ?_⟩))
        | with_reducible refine Both.mk ?_ ?_
        | (exfalso; have := of_decide_eq_true h; omega)
        | rintro _ rfl
        | exact rfl
        | (split <;> (rename_i h; first | (simp only [beq_self_eq_true, eq_self, decide_true, Bool.not_true, Bool.false_eq_true] at h; done) | (try rw [h])))))
    | true =>
      have h2 := h2 rfl
      rw [h2] at c1
      generalize opsI (begR l) = b at *
      refine ent_of tok mixed (f := 20) Try.func20 (by kernel_rfl) (keep := false) ?_
      repeat' ((conv => whnf) <;> (first
        | ((with_reducible refine isCall ?_) <;> (first
            | (refine ⟨_, c1, ?_⟩; rintro _ _ ⟨rfl, rfl⟩)
            | fail))
        | ((with_reducible refine isLoop ?_) <;> (first
            | fail))
        | ((with_reducible refine isCut ?_) <;> (first
            | refine ⟨⟨none⟩, ?_⟩))
        | ((first | with_reducible refine isEx ?_ | with_reducible refine isAnd ?_ | with_reducible refine isOr ?_) <;> (first
            | refine ⟨rfl, ?_⟩
            | refine ⟨Int.natCast_nonneg _, ?_⟩))
        | with_reducible refine Both.mk ?_ ?_
        | (exfalso; have := of_decide_eq_true h; omega)
        | rintro _ rfl
        | exact rfl
        | (split <;> (rename_i h; first | (simp only [beq_self_eq_true, eq_self, decide_true, Bool.not_true, Bool.false_eq_true] at h; done) | (try rw [h])))))
  · rw [opsOutM, decide_eq_false h]
    have hb : decide ((l.length : Int) > 20000) = true := decide_eq_true (by omega)
    refine ent_of tok mixed (f := 20) Try.func20 (by kernel_rfl) (keep := false) ?_
    repeat' ((conv => whnf) <;> (first
      | ((with_reducible refine isCall ?_) <;> (first
          | fail))
      | ((with_reducible refine isLoop ?_) <;> (first
          | fail))
      | ((with_reducible refine isCut ?_) <;> (first
          | refine ⟨⟨none⟩, ?_⟩))
      | ((first | with_reducible refine isEx ?_ | with_reducible refine isAnd ?_ | with_reducible refine isOr ?_) <;> (first
          | refine ⟨rfl, ?_⟩
          | refine ⟨Int.natCast_nonneg _, ?_⟩))
      | with_reducible refine Both.mk ?_ ?_
      | (exfalso; rw [hb] at *; contradiction)
      | rintro _ rfl
      | exact rfl
      | (split <;> (rename_i h; first | (simp only [beq_self_eq_true, eq_self, decide_true, Bool.not_true, Bool.false_eq_true] at h; done) | (try rw [h])))))
end Go.Pm.Try
/-
Ops, read: the program's walk.
-/
namespace Go.Pm.Try
open Go Go.Proofs
set_option linter.unusedVariables false
set_option linter.unusedSimpArgs false
set_option maxRecDepth 100000
def opO (o : Op) : D := .agg [.i .i64 o.kind, .s o.table, .s o.sch.name, .os 3 false (o.sch.cols.map colD), .os 1 false (o.sch.keys.map i64D), .os 2 true (o.sch.idxs.map idxO), .os 3 false (o.row.map valD)]
theorem erase_cols : ∀ l : List Col, eraseL (l.map colD) = l.map colD
  | [] => rfl
  | x :: l => by simp only [List.map_cons, eraseL, erase_cols l]; rfl
theorem erase_vals : ∀ l : List Val, eraseL (l.map valD) = l.map valD
  | [] => rfl
  | x :: l => by simp only [List.map_cons, eraseL, erase_vals l]; rfl
theorem erase_ops : ∀ l : List Op, eraseL (l.map opO) = l.map opD
  | [] => rfl
  | x :: l => by simp only [List.map_cons, eraseL, erase_ops l, opO, opD, D.erase, erase_ints, erase_cols, erase_vals, erase_idx]
theorem opI_one {r : Rd} (h : decide ((implNumR r).1 = 1) = true) : opI r = (⟨(implNumR r).1, [], (schI (implNumR r).2).1, []⟩, (schI (implNumR r).2).2) := by
  unfold opI bindR opG; rw [h]; rfl
theorem opI_more {r : Rd} (h : decide ((implNumR r).1 = 1) = false) : opI r = (⟨(implNumR r).1, (implWordR (implNumR r).2).1, noSch, (valsI (implWordR (implNumR r).2).2).1⟩, (valsI (implWordR (implNumR r).2).2).2) := by
  unfold opI bindR opG; rw [h]; rfl
set_option maxHeartbeats 1000000 in
theorem implValues (r : Rd) (hl : r.text.length ≤ 20000) : Ent Try.prog 104 [.ptr 0 0] [.var (rdC r)] (.own 1) [.var (rdC (valsI r).2), .arr 3 false ((valsI r).1.map valD)] := by
  have c1 := implWordRd r hl
  have c2 := implKeyRead (implWordR r).1 (Nat.le_trans (wordI_len r) hl)
  have e1 : (valsI r).1 = valsOf (keyM (implWordR r).1) := rfl
  have e2 : (valsI r).2 = { (implWordR r).2 with bad := (implWordR r).2.bad || !decide (codeOf (keyM (implWordR r).1) = 0) } := rfl
  rw [e1, e2]
  generalize codeOf (keyM (implWordR r).1) = c at *
  generalize valsOf (keyM (implWordR r).1) = k at *
  generalize implWordR r = w at *
  rcases w with ⟨w, t, p, b⟩
  cases b
  all_goals
    refine ent_of (cx := ⟨tab, [], []⟩) tok mixed (f := 104) Try.func104 (by kernel_rfl) (keep := true) ?_
    repeat' ((conv => whnf) <;> (first
      | ((with_reducible refine isCall ?_) <;> (first
          | (refine ⟨_, c1, ?_⟩; rintro _ _ ⟨rfl, rfl⟩)
          | (refine ⟨_, c2, ?_⟩; rintro _ _ ⟨rfl, rfl⟩)
          | fail))
      | ((with_reducible refine isLoop ?_) <;> (first
          | fail))
      | ((with_reducible refine isCut ?_) <;> (first
          | refine ⟨⟨none⟩, ?_⟩))
      | ((first | with_reducible refine isEx ?_ | with_reducible refine isAnd ?_ | with_reducible refine isOr ?_) <;> (first
          | refine ⟨rfl, ?_⟩
          | refine ⟨Int.natCast_nonneg _, ?_⟩))
      | with_reducible refine Both.mk ?_ ?_
      | rintro _ rfl
      | exact rfl
      | (split <;> (rename_i h; first | (simp only [beq_self_eq_true, eq_self, decide_true, Bool.not_true, Bool.false_eq_true] at h; done) | (try rw [h])))))
set_option maxHeartbeats 1000000 in
theorem implSchemaIn (r : Rd) (hl : r.text.length ≤ 20000) : Ent Try.prog 103 [.ptr 0 0] [.var (rdC r)] (.agg [.d (.s (schI r).1.name), .own 1, .own 2, .own 3]) [.var (rdC (schI r).2), .arr 3 false ((schI r).1.cols.map colD), .arr 1 false ((schI r).1.keys.map i64D), .arr 2 true ((schI r).1.idxs.map idxO)] := by
  have c1 := implWordRd r hl
  have c2 := implSchemaRead (implWordR r).1 (Nat.le_trans (wordI_len r) hl)
  have e1 : (schI r).1 = (schR implRs (begR (implWordR r).1)).1 := rfl
  have e2 : (schI r).2 = { (implWordR r).2 with bad := (implWordR r).2.bad || !schOkI (implWordR r).1 } := rfl
  rw [e1, e2]
  generalize schOkI (implWordR r).1 = ok at *
  generalize (schR implRs (begR (implWordR r).1)).1 = k at *
  generalize implWordR r = w at *
  rcases w with ⟨w, t, p, b⟩
  cases b <;> cases ok
  all_goals
    refine ent_of (cx := ⟨tab, [], []⟩) tok mixed (f := 103) Try.func103 (by kernel_rfl) (keep := true) ?_
    repeat' ((conv => whnf) <;> (first
      | ((with_reducible refine isCall ?_) <;> (first
          | (refine ⟨_, c1, ?_⟩; rintro _ _ ⟨rfl, rfl⟩)
          | (refine ⟨_, c2, ?_⟩; rintro _ _ ⟨rfl, rfl⟩)
          | fail))
      | ((with_reducible refine isLoop ?_) <;> (first
          | fail))
      | ((with_reducible refine isCut ?_) <;> (first
          | refine ⟨⟨none⟩, ?_⟩))
      | ((first | with_reducible refine isEx ?_ | with_reducible refine isAnd ?_ | with_reducible refine isOr ?_) <;> (first
          | refine ⟨rfl, ?_⟩
          | refine ⟨Int.natCast_nonneg _, ?_⟩))
      | with_reducible refine Both.mk ?_ ?_
      | rintro _ rfl
      | exact rfl
      | (split <;> (rename_i h; first | (simp only [beq_self_eq_true, eq_self, decide_true, Bool.not_true, Bool.false_eq_true] at h; done) | (try rw [h])))))
set_option maxHeartbeats 4000000 in
theorem implOps (l : List UInt8) (hl : l.length ≤ 20000) : EntQ Try.prog 61 [.d (.s l)] [] (fun R O => R = .tup [.own 0, .d (.b (opsOk l))] ∧ ∃ dp, O = [.arr 7 dp ((opsI (begR l)).1.map opO)] ∧ (opsOk l = true → dp = true)) := by
  have hok : opsOk l = (overR (opsI (begR l)).2 && dec (opsP (opsI (begR l)).1)) := rfl
  have hr0 : (begR l).text.length ≤ 20000 := hl
  have hsm := opsI_small (r := begR l) hl
  have c1 := implMany (begR l) hr0 20
  have hr := manyI_range (begR l) (most := 20) (by decide)
  have t1 : (implManyR (begR l) 20).2.text.length ≤ 20000 := hl
  have e0 : opsI (begR l) = ([] ++ (listR opI (implManyR (begR l) 20).1.toNat (implManyR (begR l) 20).2).1, (listR opI (implManyR (begR l) 20).1.toNat (implManyR (begR l) 20).2).2) := rfl
  generalize opsOk l = ok at *
  generalize opsI (begR l) = W at *
  generalize implManyR (begR l) 20 = q at *
  refine ent_of (cx := ⟨tab, [], [(9, [.cell 20031 3 false 10006 3, .cell 30031 1 false 10006 4, .cell 40031 2 true 10006 5, .cell 50031 3 false 10006 6])]⟩) tok mixed (f := 61) Try.func61 (by kernel_rfl) (keep := true) ?_
  repeat' ((conv => whnf) <;> (first
    | ((with_reducible refine isCall ?_) <;> (first
        | (refine ⟨_, c1, ?_⟩; rintro _ _ ⟨rfl, rfl⟩)
        | (refine ⟨_, c7, ?_⟩; rintro _ _ ⟨rfl, rfl⟩)
        | (refine ⟨_, c8, ?_⟩; rintro _ _ ⟨rfl, rfl⟩)
        | (refine ⟨_, c9 rfl, ?_⟩; rintro _ _ ⟨rfl, rfl⟩)
        | (refine ⟨_, implNumRd rd ht, ?_⟩; rintro _ _ ⟨rfl, rfl⟩)
        | (refine ⟨_, implSchemaIn (implNumR rd).2 ht, ?_⟩; rintro _ _ ⟨rfl, rfl⟩)
        | (refine ⟨_, implWordRd (implNumR rd).2 ht, ?_⟩; rintro _ _ ⟨rfl, rfl⟩)
        | (refine ⟨_, implValues (implWordR (implNumR rd).2).2 ht, ?_⟩; rintro _ _ ⟨rfl, rfl⟩)
        | (refine absurd (out_loop hij ?_) hj0; assumption)
        | (refine ⟨⟨by decide, rfl, rfl, ten_room hss (by decide) _ (by decide)⟩, ?_⟩)
        | fail))
    | ((with_reducible refine isLoop ?_) <;> (first
        | (refine ⟨[4, 5, 12, 13], [10009, 10010], fun st => ∃ (i j : Nat) (n : Int) (ss : List Op) (rd : Rd) (dp : Bool) (xs : List D), n = i ∧ (i : Int) + j = q.1 ∧ rd.text.length ≤ 20000 ∧ ss.length + j ≤ 20 ∧ W = (ss ++ (listR opI j rd).1, (listR opI j rd).2) ∧ (dp = false → ss = []) ∧ xs = ss.map opO ∧ st = ⟨[(4, .ptr 10009 0), (5, .own 10010), (12, .d (.i .i64 q.1)), (13, .d (.i .i64 n))], [(10009, .var (rdC rd)), (10010, .arr 7 dp xs)]⟩, fun st => match look 13 st.env with | some (.d (.i _ n)) => 20 - n.toNat | _ => 0, rfl, ⟨0, _, _, [], _, _, [], rfl, (by rw [Int.toNat_of_nonneg hr.1]; exact Int.zero_add _), t1, (by show 0 + _ ≤ 20; omega), e0, (fun _ => rfl), rfl, rfl⟩, ?_⟩; rintro st ⟨i, j, n, ss, rd, dp, xs, rfl, hij, ht, hss, ho, hdp, rfl, rfl⟩; by_cases hj0 : j = 0; (have c7 := implOverRd rd; have hw := list_end ho hj0; obtain ⟨u7, hu7⟩ : ∃ u, u = overR rd := ⟨_, rfl⟩; rw [← hu7] at c7; have c8 := implOpsRight ss (by omega) (by rw [hw] at hsm; exact hsm.2); rw [← erase_ops] at c8; have c9 : dp = false → Ent Try.prog 105 [.d (.sl false (ss.map opO))] [] (.d (.b (dec (opsP ss)))) [] := (fun h => by rw [hdp h] at c8 ⊢; exact c8); cases u7 <;> cases dp))
        | (refine absurd (out_loop hij ?_) hj0; assumption)
        | (refine ⟨⟨by decide, rfl, rfl, ten_room hss (by decide) _ (by decide)⟩, ?_⟩)
        | fail))
    | ((with_reducible refine isCut ?_) <;> (first
        | refine ⟨⟨none⟩, ?_⟩))
    | ((first | with_reducible refine isEx ?_ | with_reducible refine isAnd ?_ | with_reducible refine isOr ?_) <;> (first
        | (refine absurd (out_loop hij ?_) hj0; assumption)
        | (refine ⟨⟨by decide, rfl, rfl, ten_room hss (by decide) _ (by decide)⟩, ?_⟩)
        | refine ⟨rfl, ?_⟩
        | refine ⟨Int.natCast_nonneg _, ?_⟩))
    | with_reducible refine Both.mk ?_ ?_
    | rintro _ rfl
    | exact rfl
    | (split <;> (rename_i h; first | (simp only [beq_self_eq_true, eq_self, decide_true, Bool.not_true, Bool.false_eq_true] at h; done) | (try rw [h])))))
  all_goals (conv => whnf)
  all_goals first
    | (have hj := in_loop hij (by assumption : decide ((i : Int) < q.1) = true)
       have e1 := opI_one (by assumption : decide ((implNumR rd).1 = 1) = true)
       have hls := list_step ho hj
       have ht2 : (opI rd).2.text.length ≤ 20000 := by rw [opI_text]; exact ht
       rw [e1] at hls ht2
       refine ⟨⟨i + 1, j - 1, _, ss ++ [_], _, _, _, step_up (n := 20) (by omega) (Nat.le_of_ble_eq_true rfl), (by omega), ht2, ?_, hls, ?_, ?_, rfl⟩, mu_up (n := 20) (by omega) (Nat.le_of_ble_eq_true rfl)⟩
       · simp only [List.length_append, List.length_cons, List.length_nil]; omega
       · exact fun hh => absurd hh (by first | decide | (show ¬ (dp || true) = false; rw [Bool.or_true]; decide))
       · rw [List.map_append]; rfl)
    | (have hj := in_loop hij (by assumption : decide ((i : Int) < q.1) = true)
       have e1 := opI_more (by assumption : decide ((implNumR rd).1 = 1) = false)
       have hls := list_step ho hj
       have ht2 : (opI rd).2.text.length ≤ 20000 := by rw [opI_text]; exact ht
       rw [e1] at hls ht2
       refine ⟨⟨i + 1, j - 1, _, ss ++ [_], _, _, _, step_up (n := 20) (by omega) (Nat.le_of_ble_eq_true rfl), (by omega), ht2, ?_, hls, ?_, ?_, rfl⟩, mu_up (n := 20) (by omega) (Nat.le_of_ble_eq_true rfl)⟩
       · simp only [List.length_append, List.length_cons, List.length_nil]; omega
       · exact fun hh => absurd hh (by first | decide | (show ¬ (dp || true) = false; rw [Bool.or_true]; decide))
       · rw [List.map_append]; rfl)
    | (have e : ok = false := by rw [hok, hw, ← hu7]; rfl
       rw [hw, e]; exact ⟨rfl, _, rfl, fun hh => by cases hh⟩)
    | (have e : ok = dec (opsP ss) := by rw [hok, hw, ← hu7, Bool.true_and]
       rw [hw, e]; exact ⟨rfl, _, rfl, fun hh => rfl⟩)
    | (have e : ok = dec (opsP ss) := by rw [hok, hw, ← hu7, Bool.true_and]
       rw [hw, e]
       refine ⟨rfl, _, rfl, fun hh => ?_⟩
       have h1 := (of_dec hh).1.1
       rw [hdp rfl] at h1
       exact absurd h1 (by decide))
    | trace_state
def opsOutK (o : OpsOut) : AV := .agg [.own 0, .d (.i .i64 o.code)]
def opsOutO (o : OpsOut) : List Ob := [.arr 7 true (o.ops.map opO)]
set_option maxHeartbeats 1000000 in
theorem implOpsReadOut (l : List UInt8) : Ent Try.prog 21 [.d (.s l)] [] (opsOutK (opsOutM l)) (opsOutO (opsOutM l)) := by
  have c0 := isLong [l] (Nat.le_of_ble_eq_true rfl)
  rw [longs1] at c0
  by_cases h : l.length ≤ 20000
  · have c1 := implOps l h
    rw [opsOutM, decide_eq_true h]
    rw [decide_eq_true h] at c0
    generalize (opsI (begR l)).1 = b at *
    generalize opsOk l = ok at *
    refine ent_ofN (cx := ⟨tab, [], []⟩) tok mixed (f := 21) Try.func21 (by kernel_rfl) (keep := true) (nm := [.cell 20002 7 true 10002 0]) ?_
    cases ok
    all_goals
      repeat' ((conv => whnf) <;> (first
        | ((with_reducible refine isCall ?_) <;> (first
            | (refine ⟨_, c0, ?_⟩; rintro _ _ ⟨rfl, rfl⟩)
            | (refine ⟨_, c1, ?_⟩; rintro _ _ ⟨rfl, dp, rfl, hdp⟩; cases dp)
            | fail))
        | ((with_reducible refine isLoop ?_) <;> (first
            | (refine ⟨_, c1, ?_⟩; rintro _ _ ⟨rfl, dp, rfl, hdp⟩; cases dp)
            | fail))
        | ((with_reducible refine isCut ?_) <;> (first
            | refine ⟨⟨none⟩, ?_⟩))
        | ((first | with_reducible refine isEx ?_ | with_reducible refine isAnd ?_ | with_reducible refine isOr ?_) <;> (first
            | (refine ⟨_, c1, ?_⟩; rintro _ _ ⟨rfl, dp, rfl, hdp⟩; cases dp)
            | refine ⟨rfl, ?_⟩
            | refine ⟨Int.natCast_nonneg _, ?_⟩))
        | with_reducible refine Both.mk ?_ ?_
        | rintro _ rfl
        | exact rfl
        | (split <;> (rename_i h; first | (simp only [beq_self_eq_true, eq_self, decide_true, Bool.not_true, Bool.false_eq_true] at h; done) | (try rw [h])))))
    all_goals (conv => whnf)
    all_goals first
      | exact ⟨rfl, rfl⟩
      | exact Bool.noConfusion (hdp rfl : false = true)
      | trace_state
  · rw [opsOutM, decide_eq_false h]
    rw [decide_eq_false h] at c0
    refine ent_ofN (cx := ⟨tab, [], []⟩) tok mixed (f := 21) Try.func21 (by kernel_rfl) (keep := true) (nm := [.cell 20002 7 true 10002 0]) ?_
    repeat' ((conv => whnf) <;> (first
      | ((with_reducible refine isCall ?_) <;> (first
          | (refine ⟨_, c0, ?_⟩; rintro _ _ ⟨rfl, rfl⟩)
          | fail))
      | ((with_reducible refine isLoop ?_) <;> (first
          | fail))
      | ((with_reducible refine isCut ?_) <;> (first
          | refine ⟨⟨none⟩, ?_⟩))
      | ((first | with_reducible refine isEx ?_ | with_reducible refine isAnd ?_ | with_reducible refine isOr ?_) <;> (first
          | refine ⟨rfl, ?_⟩
          | refine ⟨Int.natCast_nonneg _, ?_⟩))
      | with_reducible refine Both.mk ?_ ?_
      | rintro _ rfl
      | exact rfl
      | (split <;> (rename_i h; first | (simp only [beq_self_eq_true, eq_self, decide_true, Bool.not_true, Bool.false_eq_true] at h; done) | (try rw [h])))))
    all_goals trace_state
end Go.Pm.Try
