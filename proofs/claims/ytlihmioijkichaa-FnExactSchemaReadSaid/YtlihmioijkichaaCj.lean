/-
Readers: truths and lists of numbers.
-/
import Derived.Test.YtlihmioijkichaaCi
namespace Go.Pm.Try
open Go Go.Proofs
set_option linter.unusedVariables false
set_option linter.unusedSimpArgs false
set_option maxRecDepth 100000
def i64D (n : Int) : D := .i .i64 n
theorem specTruth_ (r : Rd) (hl : r.text.length ≤ 20000) : Ent Try.prog 68 [.ptr 0 0] [.var (rdC r)] (.d (.b (specTruthR r).1)) [.var (rdC (specTruthR r).2)] := by
  have c1 := specMany r hl 1
  unfold specTruthR
  generalize specManyR r 1 = q at *
  refine ent_of tok mixed (f := 68) Try.func68 (by kernel_rfl) (keep := false) ?_
  repeat' ((conv => whnf) <;> (first
    | ((with_reducible refine isCall ?_) <;> (first
        | (refine ⟨_, c1, ?_⟩; rintro _ _ ⟨rfl, rfl⟩)
        | fail))
    | ((with_reducible refine isLoop ?_) <;> (first
        | fail))
    | ((with_reducible refine isCut ?_) <;> (first
        | refine ⟨⟨none⟩, ?_⟩))
    | ((first | with_reducible refine isEx ?_ | with_reducible refine isAnd ?_ | with_reducible refine isOr ?_) <;> (first
        | refine ⟨rfl, ?_⟩
        | refine ⟨Int.natCast_nonneg _, ?_⟩))
    | with_reducible refine Both.mk ?_ ?_
    | rintro _ rfl
    | exact rfl
    | (split <;> (rename_i h; first | (simp only [beq_self_eq_true, eq_self, decide_true, Bool.not_true, Bool.false_eq_true] at h; done) | (try rw [h])))))
theorem implYes (r : Rd) (hl : r.text.length ≤ 20000) : Ent Try.prog 75 [.ptr 0 0] [.var (rdC r)] (.d (.b (implYesR r).1)) [.var (rdC (implYesR r).2)] := by
  have c1 := implNumRd r hl
  unfold implYesR
  generalize implNumR r = q at *
  rcases q with ⟨n, text, pos, bad⟩
  refine ent_of tok mixed (f := 75) Try.func75 (by kernel_rfl) (keep := false) ?_
  cases bad
  all_goals
    repeat' ((conv => whnf) <;> (first
      | ((with_reducible refine isCall ?_) <;> (first
          | (refine ⟨_, c1, ?_⟩; rintro _ _ ⟨rfl, rfl⟩)
          | (refine ⟨_, within _ _ _, ?_⟩; rintro _ _ ⟨rfl, rfl⟩)
          | fail))
      | ((with_reducible refine isLoop ?_) <;> (first
          | fail))
      | ((with_reducible refine isCut ?_) <;> (first
          | refine ⟨⟨none⟩, ?_⟩))
      | ((first | with_reducible refine isEx ?_ | with_reducible refine isAnd ?_ | with_reducible refine isOr ?_) <;> (first
          | refine ⟨rfl, ?_⟩
          | refine ⟨Int.natCast_nonneg _, ?_⟩))
      | with_reducible refine Both.mk ?_ ?_
      | rintro _ rfl
      | exact rfl
      | (split <;> (rename_i h; first | (simp only [beq_self_eq_true, eq_self, decide_true, Bool.not_true, Bool.false_eq_true] at h; done) | (try rw [h])))))
  all_goals (simp only [*, Bool.false_or, Bool.true_or, Bool.or_false, Bool.or_true, sel]; exact ⟨rfl, rfl⟩)
theorem specNums_ (r : Rd) (hl : r.text.length ≤ 20000) : Ent Try.prog 69 [.ptr 0 0] [.var (rdC r)] (.d (.sl false ((specNumsR r).1.map i64D))) [.var (rdC (specNumsR r).2)] := by
  have c1 := specMany r hl 10
  have hr := manyS_range r (most := 10) (by decide)
  have ht0 : (specManyR r 10).2.text.length ≤ 20000 := by rw [(same_many 10).textS]; exact hl
  have e0 : specNumsR r = ([] ++ (listR specNumR (specManyR r 10).1.toNat (specManyR r 10).2).1, (listR specNumR (specManyR r 10).1.toNat (specManyR r 10).2).2) := rfl
  generalize specManyR r 10 = q at *
  generalize specNumsR r = o at *
  refine ent_of tok mixed (f := 69) Try.func69 (by kernel_rfl) (keep := false) ?_
  repeat' ((conv => whnf) <;> (first
    | ((with_reducible refine isCall ?_) <;> (first
        | (refine ⟨_, c1, ?_⟩; rintro _ _ ⟨rfl, rfl⟩)
        | (refine ⟨_, specNum rd ht, ?_⟩; rintro _ _ ⟨rfl, rfl⟩)
        | (refine ⟨⟨by decide, rfl, rfl, room_add (by rw [List.length_map]; omega) (by decide)⟩, ?_⟩)
        | fail))
    | ((with_reducible refine isLoop ?_) <;> (first
        | (refine ⟨[4, 0, 3], [0, 10005], fun st => ∃ (j : Nat) (n : Int) (ss : List Int) (rd : Rd) (xs : List D), n = j ∧ rd.text.length ≤ 20000 ∧ ss.length + j ≤ 10 ∧ o = (ss ++ (listR specNumR j rd).1, (listR specNumR j rd).2) ∧ xs = ss.map i64D ∧ st = ⟨[(4, .d (.i .i64 n)), (0, .ptr 0 0), (3, .own 10005)], [(0, .var (rdC rd)), (10005, .arr 1 false xs)]⟩, fun st => match look 4 st.env with | some (.d (.i _ n)) => n.toNat | _ => 0, rfl, ⟨_, _, [], _, [], (Int.toNat_of_nonneg hr.1).symm, ht0, (by show 0 + _ ≤ 10; omega), e0, rfl, rfl⟩, ?_⟩; rintro st ⟨j, n, ss, rd, xs, rfl, ht, hss, ho, rfl, rfl⟩)
        | (refine ⟨⟨by decide, rfl, rfl, room_add (by rw [List.length_map]; omega) (by decide)⟩, ?_⟩)
        | fail))
    | ((with_reducible refine isCut ?_) <;> (first
        | refine ⟨⟨none⟩, ?_⟩))
    | ((first | with_reducible refine isEx ?_ | with_reducible refine isAnd ?_ | with_reducible refine isOr ?_) <;> (first
        | (refine ⟨⟨by decide, rfl, rfl, room_add (by rw [List.length_map]; omega) (by decide)⟩, ?_⟩)
        | refine ⟨rfl, ?_⟩
        | refine ⟨Int.natCast_nonneg _, ?_⟩))
    | with_reducible refine Both.mk ?_ ?_
    | rintro _ rfl
    | exact rfl
    | (split <;> (rename_i h; first | (simp only [beq_self_eq_true, eq_self, decide_true, Bool.not_true, Bool.false_eq_true] at h; done) | (try rw [h])))))
  all_goals (conv => whnf)
  · have hj := pos_of h
    refine ⟨⟨j - 1, _, ss ++ [(specNumR rd).1], (specNumR rd).2, _, down1 hj (by omega), (by rw [same_num.textS]; exact ht), ?_, list_step ho hj, ?_, rfl⟩, mu_down hj (by omega)⟩
    · simp only [List.length_append, List.length_cons, List.length_nil]; omega
    · rw [List.map_append]; rfl
  · rw [list_end ho (none_of h)]; exact ⟨rfl, rfl⟩
set_option maxHeartbeats 1000000 in
theorem implList (r : Rd) (hl : r.text.length ≤ 20000) (most : Int) (hm : 0 ≤ most ∧ most ≤ 100000) : Ent Try.prog 76 [.ptr 0 0, .d (.i .i64 most)] [.var (rdC r)] (.own 1) [.var (rdC (implListR most r).2), .arr 1 false ((implListR most r).1.map i64D)] := by
  have c1 := implMany r hl most
  have hr := manyI_range r hm.1
  have ht0 : (implManyR r most).2.text.length ≤ 20000 := hl
  have e0 : implListR most r = ([] ++ (listR implNumR (implManyR r most).1.toNat (implManyR r most).2).1, (listR implNumR (implManyR r most).1.toNat (implManyR r most).2).2) := rfl
  generalize implManyR r most = q at *
  generalize implListR most r = o at *
  refine ent_of (cx := ⟨tab, []⟩) tok mixed (f := 76) Try.func76 (by kernel_rfl) (keep := true) ?_
  repeat' ((conv => whnf) <;> (first
    | ((with_reducible refine isCall ?_) <;> (first
        | (refine ⟨_, c1, ?_⟩; rintro _ _ ⟨rfl, rfl⟩)
        | (refine ⟨_, implNumRd rd ht, ?_⟩; rintro _ _ ⟨rfl, rfl⟩)
        | (refine ⟨⟨by decide, rfl, rfl, room_add (by rw [List.length_map]; omega) (by decide)⟩, ?_⟩)
        | fail))
    | ((with_reducible refine isLoop ?_) <;> (first
        | (refine ⟨[10, 9, 0, 5], [0, 10006], fun st => ∃ (i j : Nat) (n : Int) (ss : List Int) (rd : Rd) (xs : List D), n = i ∧ (i : Int) + j = q.1 ∧ rd.text.length ≤ 20000 ∧ ss.length + j ≤ 100000 ∧ o = (ss ++ (listR implNumR j rd).1, (listR implNumR j rd).2) ∧ xs = ss.map i64D ∧ st = ⟨[(10, .d (.i .i64 n)), (9, .d (.i .i64 q.1)), (0, .ptr 0 0), (5, .own 10006)], [(0, .var (rdC rd)), (10006, .arr 1 false xs)]⟩, fun st => match look 10 st.env with | some (.d (.i _ n)) => 100000 - n.toNat | _ => 0, rfl, ⟨0, _, _, [], _, [], rfl, (by rw [Int.toNat_of_nonneg hr.1]; exact Int.zero_add _), ht0, (by show 0 + _ ≤ 100000; omega), e0, rfl, rfl⟩, ?_⟩; rintro st ⟨i, j, n, ss, rd, xs, rfl, hij, ht, hss, ho, rfl, rfl⟩)
        | (refine ⟨⟨by decide, rfl, rfl, room_add (by rw [List.length_map]; omega) (by decide)⟩, ?_⟩)
        | fail))
    | ((with_reducible refine isCut ?_) <;> (first
        | refine ⟨⟨none⟩, ?_⟩))
    | ((first | with_reducible refine isEx ?_ | with_reducible refine isAnd ?_ | with_reducible refine isOr ?_) <;> (first
        | (refine ⟨⟨by decide, rfl, rfl, room_add (by rw [List.length_map]; omega) (by decide)⟩, ?_⟩)
        | refine ⟨rfl, ?_⟩
        | refine ⟨Int.natCast_nonneg _, ?_⟩))
    | with_reducible refine Both.mk ?_ ?_
    | rintro _ rfl
    | exact rfl
    | (split <;> (rename_i h; first | (simp only [beq_self_eq_true, eq_self, decide_true, Bool.not_true, Bool.false_eq_true] at h; done) | (try rw [h])))))
  all_goals (conv => whnf)
  · have hj := in_loop hij h
    refine ⟨⟨i + 1, j - 1, _, ss ++ [(implNumR rd).1], (implNumR rd).2, _, step_up (n := 100000) (by omega) (Nat.le_of_ble_eq_true rfl), (by omega), ht, ?_, list_step ho hj, ?_, rfl⟩, mu_up (n := 100000) (by omega) (Nat.le_of_ble_eq_true rfl)⟩
    · simp only [List.length_append, List.length_cons, List.length_nil]; omega
    · rw [List.map_append]; rfl
  · rw [list_end ho (out_loop hij h)]; rfl
end Go.Pm.Try
