import Derived.Test.YtbenanocioeglaaNd
namespace Go.Pm.Try
open Go Go.Proofs
set_option linter.unusedVariables false
set_option linter.unusedSimpArgs false
set_option maxRecDepth 100000
def defOutD (o : DefOut) : D := .agg [.s o.def_.name, .sl false (o.def_.steps.map stepD), .i .i64 o.def_.pivot, .i .i64 o.code]
theorem many_range (r : Rd) : 0 ≤ (specManyR r 8).1 ∧ (specManyR r 8).1 ≤ 8 := by
  unfold specManyR
  cases h : (decide ((specNumR r).1 < 0) || decide ((specNumR r).1 > 8)) with
  | true => simp only [Bool.true_or, sel]; omega
  | false =>
    simp only [Bool.or_eq_false_iff, decide_eq_false_iff_not] at h
    cases (specNumR r).2.bad <;> simp only [Bool.false_or, sel] <;> omega
theorem manyR_text (r : Rd) : (specManyR r 8).2.text = r.text := by
  show (specNumR r).2.text = r.text
  exact specNumR_text r
theorem room_steps {ss : List Step} {j : Nat} (h : ss.length + j ≤ 8) (hj : 0 < j) (t : D) : room ((ss.map stepD).length + [t].length) 72 := by
  simp only [room, List.length_map, List.length_cons, List.length_nil]
  have : maxLen = 9223372036854775807 := rfl
  omega
theorem wordM_len (l : List UInt8) (a : Int) : (wordM l a).text.length ≤ l.length := by
  unfold wordM
  split
  · exact Nat.zero_le _
  · split
    · exact Nat.zero_le _
    · split
      · exact Nat.zero_le _
      · show ((l.take _).drop _).length ≤ l.length
        simp only [List.length_drop, List.length_take]; omega
theorem textR_len (r : Rd) : (specTextR r).1.length ≤ r.text.length := by
  unfold specTextR
  cases (r.bad || !decide ((wordM r.text r.pos).code = 0)) with
  | true => exact Nat.zero_le _
  | false => exact wordM_len _ _
theorem small_max {n : Nat} (h : n ≤ 20000) : n ≤ maxLen := Nat.le_trans h (Nat.le_of_ble_eq_true rfl)
theorem stepR_fits {r : Rd} (h : r.text.length ≤ 20000) : (stepR specRs r).1.fits := by
  have a := textR_len r
  have b := textR_len (specTextR r).2
  have c := textR_len (specTextR (specTextR r).2).2
  rw [specTextR_text] at b c
  rw [specTextR_text] at c
  exact ⟨small_max (Nat.le_trans a h), small_max (Nat.le_trans b h), small_max (Nat.le_trans c h)⟩
theorem stepR_text {r : Rd} : (stepR specRs r).2.text = r.text := by
  show (specNumR (specNumR (specNumR (specTextR (specTextR (specTextR r).2).2).2).2).2).2.text = r.text
  simp only [specNumR_text, specTextR_text]
theorem fits0 {l : List UInt8} (hl : l.length ≤ 20000) (n : Int) : (⟨(specTextR (begR l)).1, [], n⟩ : Def).fits := ⟨small_max (Nat.le_trans (textR_len _) hl), Nat.zero_le _, fun s hs => by cases hs⟩
theorem fits1 {l : List UInt8} (hl : l.length ≤ 20000) {ss : List Step} {j : Nat} (hss : ss.length + j ≤ 8) (hfit : ∀ s, s ∈ ss → s.fits) (n : Int) : (⟨(specTextR (begR l)).1, ss, n⟩ : Def).fits := ⟨small_max (Nat.le_trans (textR_len _) hl), small_max (show ss.length ≤ 20000 by omega), hfit⟩
theorem room_one (t : D) : room ([t].length) 72 := by
  simp only [room, List.length_cons, List.length_nil]
  have : maxLen = 9223372036854775807 := rfl
  omega
theorem pos_of {j : Nat} (h : decide ((j : Int) > 0) = true) : 0 < j := by have := of_decide_eq_true h; omega
theorem read_exit {l : List UInt8} {ss : List Step} {rd : Rd} {j : Nat} (h : readSt specRs l = (ss ++ (stepsR specRs j rd).1, (stepsR specRs j rd).2)) (hj : decide ((j : Int) > 0) = false) :
    readM specRs l = sel (overR (specNumR rd).2 && defOk ⟨(specTextR (begR l)).1, ss, (specNumR rd).1⟩) ⟨⟨(specTextR (begR l)).1, ss, (specNumR rd).1⟩, 0⟩ ⟨noDef, 3⟩ := by
  have hj := of_decide_eq_false hj
  have e : j = 0 := by omega
  subst e
  have h : readSt specRs l = (ss, rd) := by rw [h]; show (ss ++ [], rd) = _; rw [List.append_nil]
  unfold readM readDef
  rw [h]; rfl
theorem read_step {l : List UInt8} {ss : List Step} {rd : Rd} {j : Nat} (h : readSt specRs l = (ss ++ (stepsR specRs j rd).1, (stepsR specRs j rd).2)) (hj : 0 < j) :
    readSt specRs l = ((ss ++ [(stepR specRs rd).1]) ++ (stepsR specRs (j - 1) (stepR specRs rd).2).1, (stepsR specRs (j - 1) (stepR specRs rd).2).2) := by
  obtain ⟨i, rfl⟩ : ∃ i, j = i + 1 := ⟨j - 1, by omega⟩
  rw [h, Nat.add_sub_cancel, List.append_assoc]; rfl
theorem fits_up {ss : List Step} {t : Step} (h : ∀ s, s ∈ ss → s.fits) (ht : t.fits) : ∀ s, s ∈ ss ++ [t] → s.fits := by
  intro s hs
  rcases List.mem_append.1 hs with hs | hs
  · exact h s hs
  · rw [List.mem_singleton.1 hs]; exact ht
theorem down1 {j : Nat} (hj : 0 < j) (h8 : j ≤ 8) : IntKind.i64.wrap ((j : Int) - 1) = ((j - 1 : Nat) : Int) := by rw [wrap_i64_id _ (by omega) (by omega)]; omega
set_option maxHeartbeats 8000000 in
theorem specDefReadWalk (l : List UInt8) (hl : l.length ≤ 20000) : Ent Try.prog 36 [.d (.s l)] [] (.d (defOutD (readM specRs l))) [] := by
  have c1 := specText (begR l) hl
  have t1 : (specTextR (begR l)).2.text.length ≤ 20000 := by rw [specTextR_text]; exact hl
  have c2 := specMany (specTextR (begR l)).2 t1 8
  have hr := many_range (specTextR (begR l)).2
  have t2 : (specManyR (specTextR (begR l)).2 8).2.text.length ≤ 20000 := by rw [manyR_text]; exact t1
  have e0 : readSt specRs l = ([] ++ (stepsR specRs (specManyR (specTextR (begR l)).2 8).1.toNat (specManyR (specTextR (begR l)).2 8).2).1, (stepsR specRs (specManyR (specTextR (begR l)).2 8).1.toNat (specManyR (specTextR (begR l)).2 8).2).2) := rfl
  obtain ⟨nm, hnm⟩ : ∃ nm, nm = (specTextR (begR l)).1 := ⟨_, rfl⟩
  obtain ⟨o, ho⟩ : ∃ o, o = readM specRs l := ⟨_, rfl⟩
  rw [← ho]
  refine ent_of tok mixed (f := 36) Try.func36 (by kernel_rfl) (keep := false) ?_
  repeat' ((conv => whnf) <;> (first | ((with_reducible refine isCall ?_) <;> (first | (refine ⟨_, c1, ?_⟩; rintro _ _ ⟨rfl, rfl⟩) | (refine ⟨_, c2, ?_⟩; rintro _ _ ⟨rfl, rfl⟩) | (refine ⟨_, specText rd ht, ?_⟩; rintro _ _ ⟨rfl, rfl⟩) | (refine ⟨_, specText (specTextR rd).2 (by simp only [specTextR_text]; exact ht), ?_⟩; rintro _ _ ⟨rfl, rfl⟩) | (refine ⟨_, specText (specTextR (specTextR rd).2).2 (by simp only [specTextR_text]; exact ht), ?_⟩; rintro _ _ ⟨rfl, rfl⟩) | (refine ⟨_, specNum (specTextR (specTextR (specTextR rd).2).2).2 (by simp only [specTextR_text]; exact ht), ?_⟩; rintro _ _ ⟨rfl, rfl⟩) | (refine ⟨_, specNum (specNumR (specTextR (specTextR (specTextR rd).2).2).2).2 (by simp only [specTextR_text, specNumR_text]; exact ht), ?_⟩; rintro _ _ ⟨rfl, rfl⟩) | (refine ⟨_, specNum (specNumR (specNumR (specTextR (specTextR (specTextR rd).2).2).2).2).2 (by simp only [specTextR_text, specNumR_text]; exact ht), ?_⟩; rintro _ _ ⟨rfl, rfl⟩) | (refine ⟨_, specNum rd ht, ?_⟩; rintro _ _ ⟨rfl, rfl⟩) | (refine ⟨_, specDone (specNumR rd).2, ?_⟩; rintro _ _ ⟨rfl, rfl⟩) | (refine ⟨_, specDefRight ⟨(specTextR (begR l)).1, [], (specNumR rd).1⟩ (fits0 hl _), ?_⟩; rintro _ _ ⟨rfl, rfl⟩) | (refine ⟨_, specDefRight ⟨(specTextR (begR l)).1, ss, (specNumR rd).1⟩ (fits1 hl hss hfit _), ?_⟩; rintro _ _ ⟨rfl, rfl⟩) | refine ⟨⟨rfl, List.cons_ne_nil _ _, room_one _⟩, ?_⟩ | (refine ⟨⟨(by decide), rfl, rfl, ?_⟩, ?_⟩; (refine room_steps hss (pos_of ?_) _; assumption)) | fail)) | ((with_reducible refine isLoop ?_) <;> (first | (refine ⟨[5, 2, 3, 4], [10002, 10004, 10013, 10046], fun st => ∃ (j : Nat) (n : Int) (ss : List Step) (rd : Rd) (xs : List D), n = j ∧ rd.text.length ≤ 20000 ∧ ss.length + j ≤ 8 ∧ (∀ s, s ∈ ss → s.fits) ∧ readSt specRs l = (ss ++ (stepsR specRs j rd).1, (stepsR specRs j rd).2) ∧ xs = ss.map stepD ∧ ((ss = [] ∧ st = ⟨[(5, .d (.i .i64 n)), (2, .ptr 10002 0), (3, .ptr 10013 0), (4, .ptr 10004 0)], [(10002, .var [.d (.s []), .snil, .d (.i .i64 (Int.ofNat 0)), .d (.i .i64 (Int.ofNat 0))]), (10004, .var [.d (.s (specTextR (begR l)).1), .snil, .d (.i .i64 (Int.ofNat 0))]), (10013, .var (rdC rd))]⟩) ∨ st = ⟨[(5, .d (.i .i64 n)), (2, .ptr 10002 0), (3, .ptr 10013 0), (4, .ptr 10004 0)], [(10002, .var [.d (.s []), .snil, .d (.i .i64 (Int.ofNat 0)), .d (.i .i64 (Int.ofNat 0))]), (10004, .var [.d (.s (specTextR (begR l)).1), .own 10046, .d (.i .i64 (Int.ofNat 0))]), (10013, .var (rdC rd)), (10046, .arr 6 false xs)]⟩), fun st => match look 5 st.env with | some (.d (.i _ n)) => n.toNat | _ => 0, rfl, ⟨_, _, [], _, [], (Int.toNat_of_nonneg hr.1).symm, t2, (by show 0 + _ ≤ 8; omega), (fun s hs => by cases hs), e0, rfl, .inl ⟨rfl, rfl⟩⟩, ?_⟩; rintro st ⟨j, n, ss, rd, xs, rfl, ht, hss, hfit, hst, rfl, (⟨rfl, rfl⟩ | rfl)⟩) | refine ⟨⟨rfl, List.cons_ne_nil _ _, room_one _⟩, ?_⟩ | (refine ⟨⟨(by decide), rfl, rfl, ?_⟩, ?_⟩; (refine room_steps hss (pos_of ?_) _; assumption)) | fail)) | ((with_reducible refine isCut ?_) <;> (first | refine ⟨⟨none⟩, ?_⟩)) | ((first | with_reducible refine isEx ?_ | with_reducible refine isAnd ?_ | with_reducible refine isOr ?_) <;> (first | refine ⟨⟨rfl, List.cons_ne_nil _ _, room_one _⟩, ?_⟩ | (refine ⟨⟨(by decide), rfl, rfl, ?_⟩, ?_⟩; (refine room_steps hss (pos_of ?_) _; assumption)) | ((with_reducible refine isSmall ?_) <;> (refine ⟨?_, ?_⟩; kernel_rfl)) | refine ⟨rfl, ?_⟩ | refine ⟨Int.natCast_nonneg _, ?_⟩)) | with_reducible refine Both.mk ?_ ?_ | rintro _ rfl | exact rfl | (split <;> (rename_i h; first | (simp only [beq_self_eq_true, eq_self, decide_true, Bool.not_true, Bool.false_eq_true] at h; done) | (try rw [h])))))
  all_goals try (conv => whnf)
  · exfalso; have := of_decide_eq_true h; omega
  all_goals first
    | (rw [ho, read_exit hst (by assumption), not_ok' (by assumption : (!overR (specNumR rd).2) = true)]; exact ⟨rfl, rfl⟩)
    | (rw [ho, read_exit hst (by assumption), not_ok (by assumption : (!overR (specNumR rd).2) = false), not_ok' (by assumption : (!defOk ⟨(specTextR (begR l)).1, _, (specNumR rd).1⟩) = true)]; exact ⟨rfl, rfl⟩)
    | (rw [ho, read_exit hst (by assumption), not_ok (by assumption : (!overR (specNumR rd).2) = false), not_ok (by assumption : (!defOk ⟨(specTextR (begR l)).1, _, (specNumR rd).1⟩) = false)]; exact ⟨rfl, rfl⟩)
    | (have hj := pos_of (by assumption : decide ((j : Int) > 0) = true)
       refine ⟨⟨j - 1, _, _ ++ [(stepR specRs rd).1], (stepR specRs rd).2, _, down1 hj (by omega), by rw [stepR_text]; exact ht, ?_, fits_up hfit (stepR_fits ht), read_step hst hj, rfl, .inr ?_⟩, ?_⟩
       · simp only [List.length_append, List.length_cons, List.length_nil] at *; omega
       · first | rfl | (rw [List.map_append]; rfl)
       · show (IntKind.i64.wrap ((j : Int) - 1)).toNat < (j : Int).toNat
         rw [down1 hj (by omega)]; omega)
    | trace_state
end Go.Pm.Try
