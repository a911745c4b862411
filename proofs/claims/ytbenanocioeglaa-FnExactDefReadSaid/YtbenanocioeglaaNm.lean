import Derived.Test.YtbenanocioeglaaNl
import Derived.Test.YtbenanocioeglaaSl
namespace Go.Pm.Try
open Go Go.Proofs
set_option linter.unusedVariables false
set_option linter.unusedSimpArgs false
set_option maxRecDepth 100000
theorem stepsR_okI : ∀ (j : Nat) (r : Rd), r.text.length ≤ 20000 → (stepsR implRs j r).1.length = j ∧ ∀ s, s ∈ (stepsR implRs j r).1 → s.fits
  | 0, r, _ => ⟨rfl, fun s hs => by cases hs⟩
  | j + 1, r, h => by
    have ih := stepsR_okI j (stepR implRs r).2 h
    refine ⟨by simp only [stepsR, List.length_cons, ih.1], fun s hs => ?_⟩
    simp only [stepsR] at hs
    rcases List.mem_cons.1 hs with rfl | hs
    · exact stepR_fitsI h
    · exact ih.2 s hs
theorem noDef_fits : noDef.fits := ⟨Nat.zero_le _, Nat.zero_le _, fun s hs => by cases hs⟩
theorem readM_fits (l : List UInt8) (hl : l.length ≤ 20000) : (readM implRs l).def_.fits ∧ (readM implRs l).def_.steps.length ≤ 8 := by
  have key := stepsR_okI (readAt implRs l).2.1.toNat (readAt implRs l).2.2 hl
  have hr := many_rangeI (implWordR (begR l)).2
  have hlen : (readSt implRs l).1.length ≤ 8 := by
    show (stepsR implRs _ _).1.length ≤ 8
    rw [key.1]
    show (implManyR (implWordR (begR l)).2 8).1.toNat ≤ 8
    omega
  unfold readM
  cases overR (implRs.num (readSt implRs l).2).2 && defOk (readDef implRs l) with
  | true => exact ⟨⟨small_max (Nat.le_trans (textR_lenI _) hl), small_max (show (readSt implRs l).1.length ≤ 20000 by omega), key.2⟩, hlen⟩
  | false => exact ⟨noDef_fits, Nat.zero_le _⟩
theorem readAll_fits (l : List UInt8) : (readAll l).def_.fits ∧ (readAll l).def_.steps.length ≤ 8 := by
  unfold readAll
  by_cases h : l.length ≤ 20000
  · rw [decide_eq_true h, read_same]; exact readM_fits l h
  · rw [decide_eq_false h]; exact ⟨noDef_fits, Nat.zero_le _⟩
theorem implDefReadK (l : List UInt8) : Ent Try.prog 37 [.d (.s l)] [] (defOutK (readAll l)) [.arr 6 false ((readAll l).def_.steps.map stepD)] := by
  by_cases h : l.length ≤ 20000
  · rw [readAll, decide_eq_true h, read_same]; exact implDefReadK0 l h
  · rw [readAll, decide_eq_false h]
    have c0 := isLong [l] (Nat.le_of_ble_eq_true rfl)
    have hb : longs [l] = true := by
      simp only [longs, List.any_cons, List.any_nil, Bool.or_false, decide_eq_true_eq]; omega
    rw [hb] at c0
    refine ent_ofN (cx := ⟨tab, []⟩) tok mixed (f := 37) Try.func37 (by kernel_rfl) (keep := true) (nm := [.cell 20002 6 false 10002 1]) ?_
    repeat' ((conv => whnf) <;> (first
      | (refine ⟨_, c0, ?_⟩; rintro _ _ ⟨rfl, rfl⟩)
      | refine ⟨⟨none⟩, ?_⟩
      | refine Both.mk ?_ ?_
      | rintro _ rfl
      | refine ⟨rfl, ?_⟩
      | exact rfl
      | refine ⟨Int.natCast_nonneg _, ?_⟩
      | (split <;> (rename_i h; first | (simp only [beq_self_eq_true, eq_self, decide_true, Bool.not_true, Bool.false_eq_true] at h; done) | (try rw [h])))))
theorem markDefD (d : Def) (hlen : d.steps.length ≤ 8) : Ent Try.prog 31 [.agg [.d (.s d.name), .own 0, .d (.i .i64 d.pivot)], .d (.i .i64 1)] [.arr 6 false (d.steps.map stepD)]
    (.d (.i .i64 (1 + 6 * (d.steps.length : Int)))) [.arr 6 false (marksS d.steps.length)] := by
  have c1 := markStepD d.steps (Nat.le_trans hlen (by decide))
  refine ent_of (cx := ⟨tab, [82]⟩) tok mixed (f := 31) Try.func31 (by kernel_rfl) (keep := false) ?_
  repeat' ((conv => whnf) <;> (first
    | (refine ⟨_, c1, ?_⟩; rintro _ _ ⟨rfl, rfl⟩)
    | refine ⟨⟨none⟩, ?_⟩
    | refine Both.mk ?_ ?_
    | rintro _ rfl
    | refine ⟨rfl, ?_⟩
    | exact rfl
    | refine ⟨Int.natCast_nonneg _, ?_⟩
    | (split <;> (rename_i h; first | (simp only [beq_self_eq_true, eq_self, decide_true, Bool.not_true, Bool.false_eq_true] at h; done) | (try rw [h])))))
theorem markDefOutD (o : DefOut) (hlen : o.def_.steps.length ≤ 8) : Ent Try.prog 39 [defOutK o, .d (.i .i64 1)] [.arr 6 false (o.def_.steps.map stepD)]
    (.d (.i .i64 (1 + 6 * (o.def_.steps.length : Int)))) [.arr 6 false (marksS o.def_.steps.length)] := by
  have c1 := markDefD o.def_ hlen
  refine ent_of (cx := ⟨tab, [31]⟩) tok mixed (f := 39) Try.func39 (by kernel_rfl) (keep := false) ?_
  repeat' ((conv => whnf) <;> (first
    | (refine ⟨_, c1, ?_⟩; rintro _ _ ⟨rfl, rfl⟩)
    | refine ⟨⟨none⟩, ?_⟩
    | refine Both.mk ?_ ?_
    | rintro _ rfl
    | refine ⟨rfl, ?_⟩
    | exact rfl
    | refine ⟨Int.natCast_nonneg _, ?_⟩
    | (split <;> (rename_i h; first | (simp only [beq_self_eq_true, eq_self, decide_true, Bool.not_true, Bool.false_eq_true] at h; done) | (try rw [h])))))
theorem heldDefD (a : List UInt8) (p : Int) (n : Nat) (hl : n ≤ 8) : Ent Try.prog 93 [.d (.agg [.s a, .sl false (marksS n), .i .i64 p]), .d (.i .i64 1)] [] (.d (.i .i64 (1 + 6 * (n : Int)))) [] := by
  have c1 := heldSteps n (Nat.le_trans hl (by decide))
  have hpos : ¬ (1 + 6 * (n : Int)) < 0 := by omega
  obtain ⟨q, hq⟩ : ∃ q, q = 1 + 6 * (n : Int) := ⟨_, rfl⟩
  rw [← hq] at c1 hpos ⊢
  refine ent_of tok mixed (f := 93) Try.func93 (by kernel_rfl) (keep := false) ?_
  repeat' ((conv => whnf) <;> (first
    | (exact absurd (of_decide_eq_true h) hpos)
    | (refine ⟨_, c1, ?_⟩; rintro _ _ ⟨rfl, rfl⟩)
    | refine ⟨⟨none⟩, ?_⟩
    | refine Both.mk ?_ ?_
    | rintro _ rfl
    | refine ⟨rfl, ?_⟩
    | exact rfl
    | refine ⟨Int.natCast_nonneg _, ?_⟩
    | (split <;> (rename_i h; first | (simp only [beq_self_eq_true, eq_self, decide_true, Bool.not_true, Bool.false_eq_true] at h; done) | (try rw [h])))))
  all_goals first | exact absurd (of_decide_eq_true h) hpos | trace_state
theorem heldDefOutD (a : List UInt8) (p c : Int) (n : Nat) (hl : n ≤ 8) : Ent Try.prog 40 [.d (.agg [.s a, .sl false (marksS n), .i .i64 p, .i .i64 c]), .d (.i .i64 1)] [] (.d (.i .i64 (1 + 6 * (n : Int)))) [] := by
  have c1 := heldDefD a p n hl
  have hpos : ¬ (1 + 6 * (n : Int)) < 0 := by omega
  obtain ⟨q, hq⟩ : ∃ q, q = 1 + 6 * (n : Int) := ⟨_, rfl⟩
  rw [← hq] at c1 hpos ⊢
  refine ent_of tok mixed (f := 40) Try.func40 (by kernel_rfl) (keep := false) ?_
  repeat' ((conv => whnf) <;> (first
    | (exact absurd (of_decide_eq_true h) hpos)
    | (refine ⟨_, c1, ?_⟩; rintro _ _ ⟨rfl, rfl⟩)
    | refine ⟨⟨none⟩, ?_⟩
    | refine Both.mk ?_ ?_
    | rintro _ rfl
    | refine ⟨rfl, ?_⟩
    | exact rfl
    | refine ⟨Int.natCast_nonneg _, ?_⟩
    | (split <;> (rename_i h; first | (simp only [beq_self_eq_true, eq_self, decide_true, Bool.not_true, Bool.false_eq_true] at h; done) | (try rw [h])))))
  all_goals first | exact absurd (of_decide_eq_true h) hpos | trace_state
theorem eqDefOut (o : DefOut) (h : o.def_.fits) : Ent Try.prog 38 [.d (defOutD o), .d (defOutD o)] [] (.d (.b true)) [] := by
  have c1 := eqDef o.def_ h
  refine ent_of tok mixed (f := 38) Try.func38 (by kernel_rfl) (keep := false) ?_
  repeat' ((conv => whnf) <;> (first
    | (refine ⟨_, c1, ?_⟩; rintro _ _ ⟨rfl, rfl⟩)
    | refine ⟨⟨none⟩, ?_⟩
    | refine Both.mk ?_ ?_
    | rintro _ rfl
    | refine ⟨rfl, ?_⟩
    | exact rfl
    | refine ⟨Int.natCast_nonneg _, ?_⟩
    | (split <;> (rename_i h; first | (simp only [beq_self_eq_true, eq_self, decide_true, Bool.not_true, Bool.false_eq_true] at h; done) | (try rw [h])))))
theorem flat_steps : ∀ l : List Step, looseL (l.map stepD) = true
  | [] => rfl
  | a :: l => flat_steps l
theorem flat_defK {o : DefOut} (h : ((defOutK o).loose && flatObs [Ob.arr 6 false (o.def_.steps.map stepD)]) = false) : False := by
  have e : ((defOutK o).loose && flatObs [Ob.arr 6 false (o.def_.steps.map stepD)]) = true := by
    simp only [defOutK, AV.loose, looseV, D.flat, flatObs, flat_steps, Bool.and_self]
  rw [e] at h; cases h
set_option maxHeartbeats 8000000 in
theorem defReadLaw (l : List UInt8) : Ent Try.prog 8 [.d (.s l)] [] (.d (.b true)) [] := by
  obtain ⟨hf, hlen⟩ := readAll_fits l
  have c1 := specDefRead l
  have c2 := implDefReadK l
  generalize readAll l = o at *
  have c3 := eqDefOut o hf
  have c4 := markDefOutD o hlen
  have c5 := heldDefOutD o.def_.name o.def_.pivot o.code o.def_.steps.length hlen
  have hpos : ¬ (1 + 6 * (o.def_.steps.length : Int)) < 0 := by omega
  obtain ⟨q, hq⟩ : ∃ q, q = 1 + 6 * (o.def_.steps.length : Int) := ⟨_, rfl⟩
  rw [← hq] at c4 c5 hpos
  refine ent_of (cx := ⟨tab, [39]⟩) tok mixed (f := 8) Try.func8 (by kernel_rfl) (keep := false) ?_
  repeat' ((conv => whnf) <;> (first
    | (exfalso; refine flat_defK (o := o) ?_; assumption)
    | (refine ⟨_, c1, ?_⟩; rintro _ _ ⟨rfl, rfl⟩)
    | (refine ⟨_, c2, ?_⟩; rintro _ _ ⟨rfl, rfl⟩)
    | (refine ⟨_, c3, ?_⟩; rintro _ _ ⟨rfl, rfl⟩)
    | (refine ⟨_, c4, ?_⟩; rintro _ _ ⟨rfl, rfl⟩)
    | (refine ⟨_, c5, ?_⟩; rintro _ _ ⟨rfl, rfl⟩)
    | refine ⟨⟨none⟩, ?_⟩
    | refine Both.mk ?_ ?_
    | rintro _ rfl
    | refine ⟨rfl, ?_⟩
    | exact rfl
    | refine ⟨Int.natCast_nonneg _, ?_⟩
    | (split <;> (rename_i h; first | (simp only [beq_self_eq_true, eq_self, decide_true, Bool.not_true, Bool.false_eq_true] at h; done) | (try rw [h])))))
  all_goals first
    | exact absurd (of_decide_eq_true h) hpos
    | trace_state
theorem str_of {y : D} (h : Sh.str.of y) : ∃ l : List UInt8, y = .s l := by
  simp only [Sh.of] at h
  obtain ⟨l, rfl, _⟩ := h
  exact ⟨l, rfl⟩
end Go.Pm.Try
