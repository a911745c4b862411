import Derived.Test.YtbenanocioeglaaNg
namespace Go.Pm.Try
open Go Go.Proofs
set_option linter.unusedVariables false
set_option linter.unusedSimpArgs false
set_option maxRecDepth 100000
theorem many_rangeI (r : Rd) : 0 ≤ (implManyR r 8).1 ∧ (implManyR r 8).1 ≤ 8 := by
  unfold implManyR
  cases h : (!inside (implNumR r).1 0 8) with
  | true => simp only [Bool.true_or, sel]; omega
  | false =>
    have h := (inside_iff _ _ _).1 (not_ok h)
    cases (implNumR r).2.bad <;> simp only [Bool.false_or, sel] <;> omega
theorem textR_lenI (r : Rd) : (implWordR r).1.length ≤ r.text.length := wordM_len _ _
theorem implWordR_text (r : Rd) : (implWordR r).2.text = r.text := rfl
theorem implNumR_text (r : Rd) : (implNumR r).2.text = r.text := rfl
theorem stepR_fitsI {r : Rd} (h : r.text.length ≤ 20000) : (stepR implRs r).1.fits := by
  have a := textR_lenI r
  have b := textR_lenI (implWordR r).2
  have c := textR_lenI (implWordR (implWordR r).2).2
  rw [implWordR_text] at b c
  rw [implWordR_text] at c
  have a := small_max (Nat.le_trans a h)
  have b := small_max (Nat.le_trans b h)
  have c := small_max (Nat.le_trans c h)
  generalize hx : implWordR r = x at a b c
  generalize hy : implWordR x.2 = y at b c
  generalize hz : implWordR y.2 = z at c
  refine ⟨?_, ?_, ?_⟩
  · show (implWordR r).1.length ≤ _; rw [hx]; exact a
  · show (implWordR (implWordR r).2).1.length ≤ _; rw [hx, hy]; exact b
  · show (implWordR (implWordR (implWordR r).2).2).1.length ≤ _; rw [hx, hy, hz]; exact c
theorem fits0I {l : List UInt8} (hl : l.length ≤ 20000) (n : Int) : (⟨(implWordR (begR l)).1, [], n⟩ : Def).fits := ⟨small_max (Nat.le_trans (textR_lenI _) hl), Nat.zero_le _, fun s hs => by cases hs⟩
theorem fits1I {l : List UInt8} (hl : l.length ≤ 20000) {ss : List Step} {j : Nat} (hss : ss.length + j ≤ 8) (hfit : ∀ s, s ∈ ss → s.fits) (n : Int) : (⟨(implWordR (begR l)).1, ss, n⟩ : Def).fits := ⟨small_max (Nat.le_trans (textR_lenI _) hl), small_max (show ss.length ≤ 20000 by omega), hfit⟩
theorem longs_one {l : List UInt8} (hl : l.length ≤ 20000) : longs [l] = false := by
  simp only [longs, List.any_cons, List.any_nil, Bool.or_false, decide_eq_false_iff_not]; omega
theorem read_exitI {l : List UInt8} {ss : List Step} {rd : Rd} {j : Nat} (h : readSt implRs l = (ss ++ (stepsR implRs j rd).1, (stepsR implRs j rd).2)) (hj : j = 0) :
    readM implRs l = sel (overR (implNumR rd).2 && defOk ⟨(implWordR (begR l)).1, ss, (implNumR rd).1⟩) ⟨⟨(implWordR (begR l)).1, ss, (implNumR rd).1⟩, 0⟩ ⟨noDef, 3⟩ := by
  subst hj
  have h : readSt implRs l = (ss, rd) := by rw [h]; show (ss ++ [], rd) = _; rw [List.append_nil]
  unfold readM readDef
  rw [h]; rfl
theorem read_stepI {l : List UInt8} {ss : List Step} {rd : Rd} {j : Nat} (h : readSt implRs l = (ss ++ (stepsR implRs j rd).1, (stepsR implRs j rd).2)) (hj : 0 < j) :
    readSt implRs l = ((ss ++ [(stepR implRs rd).1]) ++ (stepsR implRs (j - 1) (stepR implRs rd).2).1, (stepsR implRs (j - 1) (stepR implRs rd).2).2) := by
  obtain ⟨i, rfl⟩ : ∃ i, j = i + 1 := ⟨j - 1, by omega⟩
  rw [h, Nat.add_sub_cancel, List.append_assoc]; rfl
theorem out0 {i j : Nat} {M : Int} (h : (i : Int) + j = M) (h2 : decide ((i : Int) < M) = false) : j = 0 := by have := of_decide_eq_false h2; omega
theorem in0 {i j : Nat} {M : Int} (h : (i : Int) + j = M) (h2 : decide ((i : Int) < M) = true) : 0 < j := by have := of_decide_eq_true h2; omega
set_option maxHeartbeats 8000000 in
theorem implDefReadWalk (l : List UInt8) (hl : l.length ≤ 20000) : Ent Try.prog 37 [.d (.s l)] [] (.d (defOutD (readM implRs l))) [] := by
  have c1 := implWordRd (begR l) hl
  have t1 : (implWordR (begR l)).2.text.length ≤ 20000 := hl
  have c2 := implMany (implWordR (begR l)).2 t1 8
  have hr := many_rangeI (implWordR (begR l)).2
  have t2 : (implManyR (implWordR (begR l)).2 8).2.text.length ≤ 20000 := t1
  have e0 : readSt implRs l = ([] ++ (stepsR implRs (implManyR (implWordR (begR l)).2 8).1.toNat (implManyR (implWordR (begR l)).2 8).2).1, (stepsR implRs (implManyR (implWordR (begR l)).2 8).1.toNat (implManyR (implWordR (begR l)).2 8).2).2) := rfl
  obtain ⟨nm, hnm⟩ : ∃ nm, nm = (implWordR (begR l)).1 := ⟨_, rfl⟩
  obtain ⟨o, ho⟩ : ∃ o, o = readM implRs l := ⟨_, rfl⟩
  rw [← ho]
  have c0 := isLong [l] (Nat.le_of_ble_eq_true rfl)
  rw [longs_one hl] at c0
  refine ent_of tok mixed (f := 37) Try.func37 (by kernel_rfl) (keep := false) ?_
  repeat' ((conv => whnf) <;> (first | ((with_reducible refine isCall ?_) <;> (first | (refine ⟨_, c0, ?_⟩; rintro _ _ ⟨rfl, rfl⟩) | (refine ⟨_, c1, ?_⟩; rintro _ _ ⟨rfl, rfl⟩) | (refine ⟨_, c2, ?_⟩; rintro _ _ ⟨rfl, rfl⟩) | (refine ⟨_, implWordRd rd ht, ?_⟩; rintro _ _ ⟨rfl, rfl⟩) | (refine ⟨_, implWordRd (implWordR rd).2 ht, ?_⟩; rintro _ _ ⟨rfl, rfl⟩) | (refine ⟨_, implWordRd (implWordR (implWordR rd).2).2 ht, ?_⟩; rintro _ _ ⟨rfl, rfl⟩) | (refine ⟨_, implNumRd (implWordR (implWordR (implWordR rd).2).2).2 ht, ?_⟩; rintro _ _ ⟨rfl, rfl⟩) | (refine ⟨_, implNumRd (implNumR (implWordR (implWordR (implWordR rd).2).2).2).2 ht, ?_⟩; rintro _ _ ⟨rfl, rfl⟩) | (refine ⟨_, implNumRd (implNumR (implNumR (implWordR (implWordR (implWordR rd).2).2).2).2).2 ht, ?_⟩; rintro _ _ ⟨rfl, rfl⟩) | (refine ⟨_, implNumRd rd ht, ?_⟩; rintro _ _ ⟨rfl, rfl⟩) | (refine ⟨_, implOverRd (implNumR rd).2, ?_⟩; rintro _ _ ⟨rfl, rfl⟩) | (refine ⟨_, implDefRight ⟨(implWordR (begR l)).1, [], (implNumR rd).1⟩ (fits0I hl _), ?_⟩; rintro _ _ ⟨rfl, rfl⟩) | (refine ⟨_, implDefRight ⟨(implWordR (begR l)).1, ss, (implNumR rd).1⟩ (fits1I hl hss hfit _), ?_⟩; rintro _ _ ⟨rfl, rfl⟩) | refine ⟨⟨rfl, List.cons_ne_nil _ _, room_one _⟩, ?_⟩ | (refine ⟨⟨(by decide), rfl, rfl, ?_⟩, ?_⟩; (refine room_steps hss (in0 hij ?_) _; assumption)) | fail)) | ((with_reducible refine isLoop ?_) <;> (first | (refine ⟨[18, 17, 2, 3, 4], [10002, 10004, 10012, 10042], fun st => ∃ (i j : Nat) (n : Int) (ss : List Step) (rd : Rd) (xs : List D), n = i ∧ (i : Int) + j = (implManyR (implWordR (begR l)).2 8).1 ∧ rd.text.length ≤ 20000 ∧ ss.length + j ≤ 8 ∧ (∀ s, s ∈ ss → s.fits) ∧ readSt implRs l = (ss ++ (stepsR implRs j rd).1, (stepsR implRs j rd).2) ∧ xs = ss.map stepD ∧ ((ss = [] ∧ st = ⟨[(18, .d (.i .i64 n)), (17, .d (.i .i64 (implManyR (implWordR (begR l)).2 8).1)), (2, .ptr 10002 0), (3, .ptr 10012 0), (4, .ptr 10004 0)], [(10002, .var [.d (.s []), .snil, .d (.i .i64 (Int.ofNat 0)), .d (.i .i64 (Int.ofNat 0))]), (10004, .var [.d (.s (implWordR (begR l)).1), .snil, .d (.i .i64 (Int.ofNat 0))]), (10012, .var (rdC rd))]⟩) ∨ st = ⟨[(18, .d (.i .i64 n)), (17, .d (.i .i64 (implManyR (implWordR (begR l)).2 8).1)), (2, .ptr 10002 0), (3, .ptr 10012 0), (4, .ptr 10004 0)], [(10002, .var [.d (.s []), .snil, .d (.i .i64 (Int.ofNat 0)), .d (.i .i64 (Int.ofNat 0))]), (10004, .var [.d (.s (implWordR (begR l)).1), .own 10042, .d (.i .i64 (Int.ofNat 0))]), (10012, .var (rdC rd)), (10042, .arr 6 false xs)]⟩), fun st => match look 18 st.env with | some (.d (.i _ n)) => 8 - n.toNat | _ => 0, rfl, ⟨0, _, _, [], _, [], rfl, (by rw [Int.toNat_of_nonneg hr.1]; exact Int.zero_add _), t2, (by show 0 + _ ≤ 8; omega), (fun s hs => by cases hs), e0, rfl, .inl ⟨rfl, rfl⟩⟩, ?_⟩; rintro st ⟨i, j, n, ss, rd, xs, rfl, hij, ht, hss, hfit, hst, rfl, (⟨rfl, rfl⟩ | rfl)⟩) | refine ⟨⟨rfl, List.cons_ne_nil _ _, room_one _⟩, ?_⟩ | (refine ⟨⟨(by decide), rfl, rfl, ?_⟩, ?_⟩; (refine room_steps hss (in0 hij ?_) _; assumption)) | fail)) | ((with_reducible refine isCut ?_) <;> (first | refine ⟨⟨none⟩, ?_⟩)) | ((first | with_reducible refine isEx ?_ | with_reducible refine isAnd ?_ | with_reducible refine isOr ?_) <;> (first | refine ⟨⟨rfl, List.cons_ne_nil _ _, room_one _⟩, ?_⟩ | (refine ⟨⟨(by decide), rfl, rfl, ?_⟩, ?_⟩; (refine room_steps hss (in0 hij ?_) _; assumption)) | ((with_reducible refine isSmall ?_) <;> (refine ⟨?_, ?_⟩; kernel_rfl)) | refine ⟨rfl, ?_⟩ | refine ⟨Int.natCast_nonneg _, ?_⟩)) | with_reducible refine Both.mk ?_ ?_ | rintro _ rfl | exact rfl | (split <;> (rename_i h; first | (simp only [beq_self_eq_true, eq_self, decide_true, Bool.not_true, Bool.false_eq_true] at h; done) | (try rw [h])))))
  all_goals try (conv => whnf)
  all_goals first
    | (rw [ho, read_exitI hst (out0 hij (by assumption)), not_ok' (by assumption : (!overR (implNumR rd).2) = true)]; exact ⟨rfl, rfl⟩)
    | (rw [ho, read_exitI hst (out0 hij (by assumption)), not_ok (by assumption : (!overR (implNumR rd).2) = false), not_ok' (by assumption : (!defOk ⟨(implWordR (begR l)).1, _, (implNumR rd).1⟩) = true)]; exact ⟨rfl, rfl⟩)
    | (rw [ho, read_exitI hst (out0 hij (by assumption)), not_ok (by assumption : (!overR (implNumR rd).2) = false), not_ok (by assumption : (!defOk ⟨(implWordR (begR l)).1, _, (implNumR rd).1⟩) = false)]; exact ⟨rfl, rfl⟩)
    | (have hj := in0 hij (by assumption)
       refine ⟨⟨i + 1, j - 1, _, _ ++ [(stepR implRs rd).1], (stepR implRs rd).2, _, step_up (n := 8) (by omega) (Nat.le_of_ble_eq_true rfl), (by omega), ht, ?_, fits_up hfit (stepR_fitsI ht), read_stepI hst hj, rfl, .inr ?_⟩, ?_⟩
       · simp only [List.length_append, List.length_cons, List.length_nil] at *; omega
       · first | rfl | (rw [List.map_append]; rfl)
       · exact mu_up (n := 8) (by omega) (Nat.le_of_ble_eq_true rfl))
    | trace_state
end Go.Pm.Try
