import Derived.Test.YtbenanocioeglaaNk
namespace Go.Pm.Try
open Go Go.Proofs
set_option linter.unusedVariables false
set_option linter.unusedSimpArgs false
set_option maxRecDepth 100000
def defOutK (o : DefOut) : AV := .agg [.d (.s o.def_.name), .own 0, .d (.i .i64 o.def_.pivot), .d (.i .i64 o.code)]
set_option maxHeartbeats 8000000 in
theorem implDefReadK0 (l : List UInt8) (hl : l.length ≤ 20000) : Ent Try.prog 37 [.d (.s l)] [] (defOutK (readM implRs l)) [.arr 6 false ((readM implRs l).def_.steps.map stepD)] := by
  have c1 := implWordRd (begR l) hl
  have t1 : (implWordR (begR l)).2.text.length ≤ 20000 := hl
  have c2 := implMany (implWordR (begR l)).2 t1 8
  have hr := many_rangeI (implWordR (begR l)).2
  have t2 : (implManyR (implWordR (begR l)).2 8).2.text.length ≤ 20000 := t1
  have e0 : readSt implRs l = ([] ++ (stepsR implRs (implManyR (implWordR (begR l)).2 8).1.toNat (implManyR (implWordR (begR l)).2 8).2).1, (stepsR implRs (implManyR (implWordR (begR l)).2 8).1.toNat (implManyR (implWordR (begR l)).2 8).2).2) := rfl
  obtain ⟨o, ho⟩ : ∃ o, o = readM implRs l := ⟨_, rfl⟩
  rw [← ho]
  have c0 := isLong [l] (Nat.le_of_ble_eq_true rfl)
  rw [longs_one hl] at c0
  refine ent_ofN (cx := ⟨tab, []⟩) tok mixed (f := 37) Try.func37 (by kernel_rfl) (keep := true) (nm := [.cell 20002 6 false 10002 1]) ?_
  repeat' ((conv => whnf) <;> (first
    | (refine ⟨[18, 17, 2, 3, 4], [10002, 10004, 10012, .cell 10042 6 false 10004 1], fun st => ∃ (i j : Nat) (n : Int) (ss : List Step) (rd : Rd) (xs : List D), n = i ∧ (i : Int) + j = (implManyR (implWordR (begR l)).2 8).1 ∧ rd.text.length ≤ 20000 ∧ ss.length + j ≤ 8 ∧ (∀ s, s ∈ ss → s.fits) ∧ readSt implRs l = (ss ++ (stepsR implRs j rd).1, (stepsR implRs j rd).2) ∧ xs = ss.map stepD ∧ st = ⟨[(18, .d (.i .i64 n)), (17, .d (.i .i64 (implManyR (implWordR (begR l)).2 8).1)), (2, .ptr 10002 0), (3, .ptr 10012 0), (4, .ptr 10004 0)], [(10002, .var [.d (.s []), .snil, .d (.i .i64 (Int.ofNat 0)), .d (.i .i64 (Int.ofNat 0))]), (10004, .var [.d (.s (implWordR (begR l)).1), .own 10042, .d (.i .i64 (Int.ofNat 0))]), (10012, .var (rdC rd)), (10042, .arr 6 false xs)]⟩, fun st => match look 18 st.env with | some (.d (.i _ n)) => 8 - n.toNat | _ => 0, rfl, ⟨0, _, _, [], _, [], rfl, (by rw [Int.toNat_of_nonneg hr.1]; exact Int.zero_add _), t2, (by show 0 + _ ≤ 8; omega), (fun s hs => by cases hs), e0, rfl, rfl⟩, ?_⟩; rintro st ⟨i, j, n, ss, rd, xs, rfl, hij, ht, hss, hfit, hst, rfl, rfl⟩)
    | (refine ⟨⟨(by decide), rfl, rfl, ?_⟩, ?_⟩; (refine room_steps hss (in0 hij ?_) _; assumption))
    | (refine ⟨_, c0, ?_⟩; rintro _ _ ⟨rfl, rfl⟩)
    | (refine ⟨_, c1, ?_⟩; rintro _ _ ⟨rfl, rfl⟩)
    | (refine ⟨_, c2, ?_⟩; rintro _ _ ⟨rfl, rfl⟩)
    | (refine ⟨_, implWordRd rd ht, ?_⟩; rintro _ _ ⟨rfl, rfl⟩)
    | (refine ⟨_, implWordRd (implWordR rd).2 ht, ?_⟩; rintro _ _ ⟨rfl, rfl⟩)
    | (refine ⟨_, implWordRd (implWordR (implWordR rd).2).2 ht, ?_⟩; rintro _ _ ⟨rfl, rfl⟩)
    | (refine ⟨_, implNumRd (implWordR (implWordR (implWordR rd).2).2).2 ht, ?_⟩; rintro _ _ ⟨rfl, rfl⟩)
    | (refine ⟨_, implNumRd (implNumR (implWordR (implWordR (implWordR rd).2).2).2).2 ht, ?_⟩; rintro _ _ ⟨rfl, rfl⟩)
    | (refine ⟨_, implNumRd (implNumR (implNumR (implWordR (implWordR (implWordR rd).2).2).2).2).2 ht, ?_⟩; rintro _ _ ⟨rfl, rfl⟩)
    | (refine ⟨_, implNumRd rd ht, ?_⟩; rintro _ _ ⟨rfl, rfl⟩)
    | (refine ⟨_, implOverRd (implNumR rd).2, ?_⟩; rintro _ _ ⟨rfl, rfl⟩)
    | (refine ⟨_, implDefRight ⟨(implWordR (begR l)).1, ss, (implNumR rd).1⟩ (fits1I hl hss hfit _), ?_⟩; rintro _ _ ⟨rfl, rfl⟩)
    | refine ⟨⟨none⟩, ?_⟩
    | refine Both.mk ?_ ?_
    | rintro _ rfl
    | refine ⟨rfl, ?_⟩
    | exact rfl
    | refine ⟨Int.natCast_nonneg _, ?_⟩
    | (split <;> (rename_i h; first | (simp only [beq_self_eq_true, eq_self, decide_true, Bool.not_true, Bool.false_eq_true] at h; done) | (try rw [h])))))
  all_goals try (conv => whnf)
  all_goals first
    | (rw [ho, read_exitI hst (out0 hij (by assumption)), not_ok' (by assumption : (!overR (implNumR rd).2) = true)]; exact ⟨rfl, rfl⟩)
    | (rw [ho, read_exitI hst (out0 hij (by assumption)), not_ok (by assumption : (!overR (implNumR rd).2) = false), not_ok' (by assumption : (!defOk ⟨(implWordR (begR l)).1, _, (implNumR rd).1⟩) = true)]; exact ⟨rfl, rfl⟩)
    | (rw [ho, read_exitI hst (out0 hij (by assumption)), not_ok (by assumption : (!overR (implNumR rd).2) = false), not_ok (by assumption : (!defOk ⟨(implWordR (begR l)).1, _, (implNumR rd).1⟩) = false)]; exact ⟨rfl, rfl⟩)
    | (have hj := in0 hij (by assumption)
       refine ⟨⟨i + 1, j - 1, _, _ ++ [(stepR implRs rd).1], (stepR implRs rd).2, _, step_up (n := 8) (by omega) (Nat.le_of_ble_eq_true rfl), (by omega), ht, ?_, fits_up hfit (stepR_fitsI ht), read_stepI hst hj, rfl, ?_⟩, ?_⟩
       · simp only [List.length_append, List.length_cons, List.length_nil] at *; omega
       · first | rfl | (rw [List.map_append]; rfl)
       · exact mu_up (n := 8) (by omega) (Nat.le_of_ble_eq_true rfl))
    | trace_state
end Go.Pm.Try
