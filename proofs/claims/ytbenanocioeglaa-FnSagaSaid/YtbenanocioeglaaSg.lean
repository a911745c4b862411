import Derived.Test.YtbenanocioeglaaSf
namespace Go.Pm.Try
open Go Go.Proofs
set_option linter.unusedVariables false
set_option linter.unusedSimpArgs false
set_option maxRecDepth 100000
/-! Answers, times, and turning. -/
structure Live (d : Def) (s : Saga) (t : Step) : Prop where
  p0 : 0 ≤ s.pos
  at_ : d.steps[s.pos.toNat]? = some t
  ok : stepOk t = true
  ow : owing t s = true
  d0 : 0 ≤ s.done
  dn : s.done < d.steps.length
  n8 : d.steps.length ≤ 8
  pd : s.pos ≤ s.done
theorem live {d : Def} {s : Saga} (h : sagaOk d s = true) (hp : s.ph = 1 ∨ s.ph = 2) : ∃ t, Live d s t := by
  simp only [sagaOk, Bool.and_eq_true] at h
  obtain ⟨hd, h⟩ := h
  have hl := defOk_len hd
  have : 0 ≤ s.pos ∧ s.pos ≤ s.done ∧ s.done < d.steps.length ∧ owingAt d s = true := by
    rcases hp with e | e
    · simp only [sagaOk1, e, inside] at h
      simp at h
      exact ⟨by omega, by omega, by omega, h.2⟩
    · simp only [sagaOk1, e, back, turned, inside, Bool.and_eq_true, decide_eq_true_eq] at h
      simp at h
      exact ⟨by omega, by omega, by omega, h.2⟩
  obtain ⟨h1, h2, h3, h4⟩ := this
  obtain ⟨t, ht⟩ := step_at h1 (show s.pos < d.steps.length by omega)
  exact ⟨t, h1, ht, stepOk_of hd ht, by rw [← owingAt_get ht]; exact h4, by omega, h3, by omega, h2⟩
theorem sagaOk_def {d : Def} {s : Saga} (h : sagaOk d s = true) : defOk d = true := by
  simp only [sagaOk, Bool.and_eq_true] at h; exact h.1
theorem waits_live {d : Def} {s : Saga} (h : sagaOk d s = true) (hw : s.waits = true) : s.ph = 1 ∨ s.ph = 2 := by
  simp only [sagaOk, Bool.and_eq_true] at h
  have h := h.2
  simp only [sagaOk1, quiet, hw] at h
  by_cases e1 : s.ph = 1
  · exact .inl e1
  · by_cases e2 : s.ph = 2
    · exact .inr e2
    · simp [e1, e2] at h
def over (s : Saga) : Bool := decide (3 ≤ s.ph) && decide (s.ph ≤ 5)
theorem over_live {d : Def} {s : Saga} (h : sagaOk d s = true) (ho : over s = false) : s.ph = 1 ∨ s.ph = 2 := by
  simp only [sagaOk, Bool.and_eq_true] at h
  have h := h.2
  simp only [over, Bool.and_eq_false_iff, decide_eq_false_iff_not] at ho
  by_cases e1 : s.ph = 1
  · exact .inl e1
  · by_cases e2 : s.ph = 2
    · exact .inr e2
    · have e3 : ¬ s.ph = 3 := by omega
      have e4 : ¬ s.ph = 4 := by omega
      have e5 : ¬ s.ph = 5 := by omega
      simp [sagaOk1, e1, e2, e3, e4, e5] at h
theorem specOver (s : Saga) : Ent Try.prog 108 [.d (sagaD s)] [] (.d (.b (over s))) [] := by
  refine ent_of tok mixed (f := 108) Try.func108 (by kernel_rfl) (keep := false) ?_
  repeat' ((conv => whnf) <;> (first | ((with_reducible refine isCall ?_) <;> (first | fail)) | ((with_reducible refine isCut ?_) <;> (first | refine ⟨⟨none⟩, ?_⟩)) | ((first | with_reducible refine isEx ?_ | with_reducible refine isAnd ?_ | with_reducible refine isOr ?_) <;> (first | ((with_reducible refine isSmall ?_) <;> (refine ⟨?_, ?_⟩; kernel_rfl)) | refine ⟨rfl, ?_⟩ | refine ⟨Int.natCast_nonneg _, ?_⟩)) | with_reducible refine Both.mk ?_ ?_ | rintro _ rfl | exact rfl | (split <;> (rename_i h; first | (simp only [beq_self_eq_true, eq_self, decide_true, Bool.not_true, Bool.false_eq_true] at h; done) | (try rw [h])))))
  all_goals ((conv => whnf); refine ⟨congrArg (fun b => AV.d (D.b b)) ?_, rfl⟩; simp only [over]; simp only [decide_eq_true_eq, decide_eq_false_iff_not] at *)
  all_goals (rw [Bool.eq_iff_iff]; simp; omega)
theorem implOver (s : Saga) : Ent Try.prog 22 [.d (sagaD s)] [] (.d (.b (over s))) [] := by
  refine ent_of tok mixed (f := 22) Try.func22 (by kernel_rfl) (keep := false) ?_
  repeat' ((conv => whnf) <;> (first | ((with_reducible refine isCall ?_) <;> (first | (refine ⟨_, within _ _ _, ?_⟩; rintro _ _ ⟨rfl, rfl⟩) | fail)) | ((with_reducible refine isCut ?_) <;> (first | refine ⟨⟨none⟩, ?_⟩)) | ((first | with_reducible refine isEx ?_ | with_reducible refine isAnd ?_ | with_reducible refine isOr ?_) <;> (first | ((with_reducible refine isSmall ?_) <;> (refine ⟨?_, ?_⟩; kernel_rfl)) | refine ⟨rfl, ?_⟩ | refine ⟨Int.natCast_nonneg _, ?_⟩)) | with_reducible refine Both.mk ?_ ?_ | rintro _ rfl | exact rfl | (split <;> (rename_i h; first | (simp only [beq_self_eq_true, eq_self, decide_true, Bool.not_true, Bool.false_eq_true] at h; done) | (try rw [h])))))
def waitT (t : Step) (n : Int) : Int := IntKind.i64.wrap (t.back * 2 ^ (min (n - 1).toNat 64))
theorem specWaitT (t : Step) (n : Int) (h : inside n 1 10 = true) : Ent Try.prog 104 [.d (stepD t), .d (.i .i64 n)] [] (.d (.i .i64 (waitT t n))) [] := l12Wait _ _ _ _ _ _ n h
theorem implWaitT (t : Step) (n : Int) (ht : stepOk t = true) (h : inside n 1 10 = true) : Ent Try.prog 47 [.d (stepD t), .d (.i .i64 n)] [] (.d (.i .i64 (waitT t n))) [] := by
  have c := implWait t.name t.act t.undo t.tries t.back t.out n
  have hn : nums t.tries t.back t.out = true := by
    simp only [stepOk, Bool.and_eq_true] at ht
    exact ht.2
  have e : waits t.tries t.back t.out n = waitT t n := by simp only [waits, hn, h, Bool.and_self, waitT]
  rw [e] at c
  exact c
def retry (t : Step) (s : Saga) (now : Int) : SagaOut := ⟨{ s with waits := false, clock := IntKind.i64.wrap (now + waitT t s.tries) }, noCmd, false, 0⟩
def turns (d : Def) (s : Saga) : Bool := decide (s.ph = 1) && (decide (d.pivot < 0) || decide (s.pos ≤ d.pivot))
def failT (d : Def) (s : Saga) (t : Step) (now : Int) : SagaOut := sel (decide (s.tries < t.tries)) (retry t s now) (sel (turns d s) (belowM d s s.done.toNat now) (ended s 5))
theorem tries_in {t : Step} {s : Saga} (ht : stepOk t = true) (h : owing t s = true) : inside s.tries 1 10 = true := by
  simp only [stepOk, nums, owing, inside, Bool.and_eq_true, decide_eq_true_eq] at *
  omega
set_option maxHeartbeats 2000000 in
theorem specFailed (d : Def) (s : Saga) (t : Step) (now : Int) (L : Live d s t) : Ent Try.prog 127 [.d (defD d), .d (sagaD s), .d (.i .i64 now)] [] (.d (outD (failT d s t now))) [] := by
  have c1 := specWaitT t s.tries (tries_in L.ok L.ow)
  have c2 := specBelow d s s.done.toNat now (by have := L.dn; have := L.d0; omega) (Nat.le_trans L.n8 (Nat.le_of_ble_eq_true rfl))
  rw [Int.toNat_of_nonneg L.d0] at c2
  obtain ⟨o, ho⟩ : ∃ o, o = belowM d s s.done.toNat now := ⟨_, rfl⟩
  rw [← ho] at c2
  rw [failT, ← ho]
  refine ent_of tok mixed (f := 127) Try.func127 (by kernel_rfl) (keep := false) ?_
  repeat' ((conv => whnf) <;> (first | ((with_reducible refine isCall ?_) <;> (first | (refine ⟨_, c1, ?_⟩; rintro _ _ ⟨rfl, rfl⟩) | (refine ⟨_, c2, ?_⟩; rintro _ _ ⟨rfl, rfl⟩) | refine ⟨_, get_map' L.at_, ?_⟩ | refine ⟨L.p0, ?_⟩ | fail)) | ((with_reducible refine isCut ?_) <;> (first | refine ⟨⟨none⟩, ?_⟩)) | ((first | with_reducible refine isEx ?_ | with_reducible refine isAnd ?_ | with_reducible refine isOr ?_) <;> (first | refine ⟨_, get_map' L.at_, ?_⟩ | refine ⟨L.p0, ?_⟩ | ((with_reducible refine isSmall ?_) <;> (refine ⟨?_, ?_⟩; kernel_rfl)) | refine ⟨rfl, ?_⟩ | refine ⟨Int.natCast_nonneg _, ?_⟩)) | with_reducible refine Both.mk ?_ ?_ | rintro _ rfl | exact rfl | (split <;> (rename_i h; first | (simp only [beq_self_eq_true, eq_self, decide_true, Bool.not_true, Bool.false_eq_true] at h; done) | (try rw [h])))))
  all_goals first
    | (rw [show turns d s = true by simp_all [turns]]; exact ⟨rfl, rfl⟩)
    | (rw [show turns d s = false by simp_all [turns]]; exact ⟨rfl, rfl⟩)
set_option maxHeartbeats 2000000 in
theorem implFailed (d : Def) (s : Saga) (t : Step) (now : Int) (L : Live d s t) (hp : s.ph = 1 ∨ s.ph = 2) : Ent Try.prog 76 [.d (defD d), .d (sagaD s), .d (.i .i64 now)] [] (.d (outD (failT d s t now))) [] := by
  have c1 := implWaitT t s.tries L.ok (tries_in L.ok L.ow)
  have c2 := implBackTo d s s.done.toNat now (by have := L.dn; have := L.d0; omega) (Nat.le_trans L.n8 (Nat.le_of_ble_eq_true rfl))
  rw [Int.toNat_of_nonneg L.d0] at c2
  obtain ⟨o, ho⟩ : ∃ o, o = belowM d s s.done.toNat now := ⟨_, rfl⟩
  rw [← ho] at c2
  rw [failT, ← ho]
  clear ho
  refine ent_of tok mixed (f := 76) Try.func76 (by kernel_rfl) (keep := false) ?_
  repeat' ((conv => whnf) <;> (first | ((with_reducible refine isCall ?_) <;> (first | (refine ⟨_, c1, ?_⟩; rintro _ _ ⟨rfl, rfl⟩) | (refine ⟨_, c2, ?_⟩; rintro _ _ ⟨rfl, rfl⟩) | (refine ⟨_, implEnds s 5, ?_⟩; rintro _ _ ⟨rfl, rfl⟩) | refine ⟨_, get_map' L.at_, ?_⟩ | refine ⟨L.p0, ?_⟩ | fail)) | ((with_reducible refine isCut ?_) <;> (first | refine ⟨⟨none⟩, ?_⟩)) | ((first | with_reducible refine isEx ?_ | with_reducible refine isAnd ?_ | with_reducible refine isOr ?_) <;> (first | refine ⟨_, get_map' L.at_, ?_⟩ | refine ⟨L.p0, ?_⟩ | ((with_reducible refine isSmall ?_) <;> (refine ⟨?_, ?_⟩; kernel_rfl)) | refine ⟨rfl, ?_⟩ | refine ⟨Int.natCast_nonneg _, ?_⟩)) | with_reducible refine Both.mk ?_ ?_ | rintro _ rfl | exact rfl | (split <;> (rename_i h; first | (simp only [beq_self_eq_true, eq_self, decide_true, Bool.not_true, Bool.false_eq_true] at h; done) | (try rw [h])))))
  all_goals clear c1 c2
  all_goals first
    | (rw [show turns d s = true by (simp only [decide_eq_true_eq, decide_eq_false_iff_not, turns, Bool.and_eq_true, Bool.or_eq_true] at *; omega)]; exact ⟨rfl, rfl⟩)
    | (rw [show turns d s = false by (simp only [decide_eq_true_eq, decide_eq_false_iff_not, turns, Bool.and_eq_false_iff, Bool.or_eq_false_iff] at *; omega)]; exact ⟨rfl, rfl⟩)
/-- What is asked of a saga: refused, where it is not right, or the time is none. -/
def asked (d : Def) (s : Saga) (now : Int) : Bool := sagaOk d s && timeOk now
theorem implAsked (d : Def) (hd : d.fits) (s : Saga) (now : Int) : Ent Try.prog 75 [.d (defD d), .d (sagaD s), .d (.i .i64 now)] [] (.d (.b (asked d s now))) [] := by
  obtain ⟨u, hu⟩ : ∃ u, u = sagaOk d s := ⟨_, rfl⟩
  have c1 := implSagaRight d hd s
  rw [← hu] at c1
  obtain ⟨v, hv⟩ : ∃ v, v = timeOk now := ⟨_, rfl⟩
  have c2 := implTime now
  rw [← hv] at c2
  have e : asked d s now = (u && v) := by rw [asked, hu, hv]
  rw [e]
  refine ent_of tok mixed (f := 75) Try.func75 (by kernel_rfl) (keep := false) ?_
  repeat' ((conv => whnf) <;> (first | ((with_reducible refine isCall ?_) <;> (first | (refine ⟨_, c1, ?_⟩; rintro _ _ ⟨rfl, rfl⟩) | (refine ⟨_, c2, ?_⟩; rintro _ _ ⟨rfl, rfl⟩) | fail)) | ((with_reducible refine isCut ?_) <;> (first | refine ⟨⟨none⟩, ?_⟩)) | ((first | with_reducible refine isEx ?_ | with_reducible refine isAnd ?_ | with_reducible refine isOr ?_) <;> (first | ((with_reducible refine isSmall ?_) <;> (refine ⟨?_, ?_⟩; kernel_rfl)) | refine ⟨rfl, ?_⟩ | refine ⟨Int.natCast_nonneg _, ?_⟩)) | with_reducible refine Both.mk ?_ ?_ | rintro _ rfl | exact rfl | (split <;> (rename_i h; first | (simp only [beq_self_eq_true, eq_self, decide_true, Bool.not_true, Bool.false_eq_true] at h; done) | (try rw [h])))))
def stays (d : Def) (s : Saga) : Bool := !decide (s.ph = 1) || (decide (d.pivot ≥ 0) && (decide (s.pos > d.pivot) || (decide (s.pos = d.pivot) && s.waits)))
def cancel1 (d : Def) (s : Saga) (now : Int) : SagaOut := sel (stays d s) (refused 12) (belowM d s s.done.toNat now)
def cancelM (d : Def) (s : Saga) (now : Int) : SagaOut := sel (asked d s now) (cancel1 d s now) (refused 1)
theorem stays_live {d : Def} {s : Saga} (h : stays d s = false) : s.ph = 1 := by
  simp only [stays, Bool.or_eq_false_iff, Bool.not_eq_false', decide_eq_true_eq] at h
  exact h.1
theorem ph_of {s : Saga} (h : (!decide (s.ph = 1)) = false) : s.ph = 1 := by simpa using h
set_option maxHeartbeats 2000000 in
theorem specCancel1 (d : Def) (s : Saga) (now : Int) (hs : sagaOk d s = true) : Ent Try.prog 83 [.d (defD d), .d (sagaD s), .d (.i .i64 now)] [] (.d (outD (cancel1 d s now))) [] := by
  have c2 : s.ph = 1 → Ent Try.prog 121 [.d (defD d), .d (sagaD s), .d (.i .i64 s.done), .d (.i .i64 now)] [] (.d (outD (belowM d s s.done.toNat now))) [] := fun h => by
    obtain ⟨t, L⟩ := live hs (.inl h)
    have c2 := specBelow d s s.done.toNat now (by have := L.dn; have := L.d0; omega) (Nat.le_trans L.n8 (Nat.le_of_ble_eq_true rfl))
    rw [Int.toNat_of_nonneg L.d0] at c2
    exact c2
  obtain ⟨o, ho⟩ : ∃ o, o = belowM d s s.done.toNat now := ⟨_, rfl⟩
  rw [← ho] at c2
  rw [cancel1, ← ho]
  clear ho
  refine ent_of tok mixed (f := 83) Try.func83 (by kernel_rfl) (keep := false) ?_
  rcases s with ⟨ph, done, pos, tries, waits, clock⟩
  cases waits
  all_goals
    repeat' ((conv => whnf) <;> (first | ((with_reducible refine isCall ?_) <;> (first | (refine ⟨_, c2 (ph_of (by assumption)), ?_⟩; rintro _ _ ⟨rfl, rfl⟩) | fail)) | ((with_reducible refine isCut ?_) <;> (first | refine ⟨⟨none⟩, ?_⟩)) | ((first | with_reducible refine isEx ?_ | with_reducible refine isAnd ?_ | with_reducible refine isOr ?_) <;> (first | ((with_reducible refine isSmall ?_) <;> (refine ⟨?_, ?_⟩; kernel_rfl)) | refine ⟨rfl, ?_⟩ | refine ⟨Int.natCast_nonneg _, ?_⟩)) | with_reducible refine Both.mk ?_ ?_ | rintro _ rfl | exact rfl | (split <;> (rename_i h; first | (simp only [beq_self_eq_true, eq_self, decide_true, Bool.not_true, Bool.false_eq_true] at h; done) | (try rw [h])))))
  all_goals clear c2 hs
  all_goals simp only [decide_eq_true_eq, decide_eq_false_iff_not, Bool.not_eq_true', Bool.not_eq_false'] at *
  all_goals first
    | (refine ⟨congrArg (fun b => AV.d (outD (sel b (refused 12) o))) (?_ : true = _), rfl⟩; simp [stays, *]; done)
    | (refine ⟨congrArg (fun b => AV.d (outD (sel b (refused 12) o))) (?_ : false = _), rfl⟩; simp [stays, *]; try omega)
set_option maxHeartbeats 2000000 in
theorem implCancel (d : Def) (hd : d.fits) (s : Saga) (now : Int) : Ent Try.prog 35 [.d (defD d), .d (sagaD s), .d (.i .i64 now)] [] (.d (outD (cancelM d s now))) [] := by
  obtain ⟨u, hu⟩ : ∃ u, u = asked d s now := ⟨_, rfl⟩
  have c1 := implAsked d hd s now
  rw [← hu] at c1
  have c2 : u = true → s.ph = 1 → Ent Try.prog 78 [.d (defD d), .d (sagaD s), .d (.i .i64 s.done), .d (.i .i64 now)] [] (.d (outD (belowM d s s.done.toNat now))) [] := fun hh h => by
    rw [hu, asked, Bool.and_eq_true] at hh
    obtain ⟨t, L⟩ := live hh.1 (.inl h)
    have c2 := implBackTo d s s.done.toNat now (by have := L.dn; have := L.d0; omega) (Nat.le_trans L.n8 (Nat.le_of_ble_eq_true rfl))
    rw [Int.toNat_of_nonneg L.d0] at c2
    exact c2
  obtain ⟨o, ho⟩ : ∃ o, o = belowM d s s.done.toNat now := ⟨_, rfl⟩
  rw [← ho] at c2
  rw [cancelM, cancel1, ← ho, ← hu]
  clear ho hu
  refine ent_of tok mixed (f := 35) Try.func35 (by kernel_rfl) (keep := false) ?_
  rcases s with ⟨ph, done, pos, tries, waits, clock⟩
  cases u
  ·
    repeat' ((conv => whnf) <;> (first | ((with_reducible refine isCall ?_) <;> (first | (refine ⟨_, c1, ?_⟩; rintro _ _ ⟨rfl, rfl⟩) | fail)) | ((with_reducible refine isCut ?_) <;> (first | refine ⟨⟨none⟩, ?_⟩)) | ((first | with_reducible refine isEx ?_ | with_reducible refine isAnd ?_ | with_reducible refine isOr ?_) <;> (first | ((with_reducible refine isSmall ?_) <;> (refine ⟨?_, ?_⟩; kernel_rfl)) | refine ⟨rfl, ?_⟩ | refine ⟨Int.natCast_nonneg _, ?_⟩)) | with_reducible refine Both.mk ?_ ?_ | rintro _ rfl | exact rfl | (split <;> (rename_i h; first | (simp only [beq_self_eq_true, eq_self, decide_true, Bool.not_true, Bool.false_eq_true] at h; done) | (try rw [h])))))
  cases waits
  all_goals
    repeat' ((conv => whnf) <;> (first | ((with_reducible refine isCall ?_) <;> (first | (refine ⟨_, c1, ?_⟩; rintro _ _ ⟨rfl, rfl⟩) | (refine ⟨_, c2 rfl (ph_of (by assumption)), ?_⟩; rintro _ _ ⟨rfl, rfl⟩) | fail)) | ((with_reducible refine isCut ?_) <;> (first | refine ⟨⟨none⟩, ?_⟩)) | ((first | with_reducible refine isEx ?_ | with_reducible refine isAnd ?_ | with_reducible refine isOr ?_) <;> (first | ((with_reducible refine isSmall ?_) <;> (refine ⟨?_, ?_⟩; kernel_rfl)) | refine ⟨rfl, ?_⟩ | refine ⟨Int.natCast_nonneg _, ?_⟩)) | with_reducible refine Both.mk ?_ ?_ | rintro _ rfl | exact rfl | (split <;> (rename_i h; first | (simp only [beq_self_eq_true, eq_self, decide_true, Bool.not_true, Bool.false_eq_true] at h; done) | (try rw [h])))))
  all_goals clear c2 c1
  all_goals simp only [decide_eq_true_eq, decide_eq_false_iff_not, Bool.not_eq_true', Bool.not_eq_false'] at *
  all_goals first
    | (refine ⟨congrArg (fun b => AV.d (outD (sel true (sel b (refused 12) o) (refused 1)))) (?_ : true = _), rfl⟩; simp [stays, *]; done)
    | (refine ⟨congrArg (fun b => AV.d (outD (sel true (sel b (refused 12) o) (refused 1)))) (?_ : false = _), rfl⟩; simp [stays, *]; try omega)
set_option maxHeartbeats 2000000 in
/-- What stands ahead of each answer of the reference: the def and the saga are right, and the time is one. -/
theorem specCancel (d : Def) (hd : d.fits) (s : Saga) (now : Int) : Ent Try.prog 34 [.d (defD d), .d (sagaD s), .d (.i .i64 now)] [] (.d (outD (cancelM d s now))) [] := by
  obtain ⟨u, hu⟩ : ∃ u, u = sagaOk d s := ⟨_, rfl⟩
  have c1 := specSagaRight d hd s
  rw [← hu] at c1
  obtain ⟨v, hv⟩ : ∃ v, v = timeOk now := ⟨_, rfl⟩
  have c2 := specTime now
  rw [← hv] at c2
  obtain ⟨o, ho⟩ : ∃ o, o = cancel1 d s now := ⟨_, rfl⟩
  have c3 : u = true → Ent Try.prog 83 [.d (defD d), .d (sagaD s), .d (.i .i64 now)] [] (.d (outD o)) [] := fun h => by rw [ho]; exact specCancel1 d s now (hu.symm.trans h)
  rw [cancelM, asked, ← ho, ← hu, ← hv]
  clear ho hu hv
  refine ent_of tok mixed (f := 34) Try.func34 (by kernel_rfl) (keep := false) ?_
  cases u <;> cases v
  all_goals
    repeat' ((conv => whnf) <;> (first | ((with_reducible refine isCall ?_) <;> (first | (refine ⟨_, c1, ?_⟩; rintro _ _ ⟨rfl, rfl⟩) | (refine ⟨_, c2, ?_⟩; rintro _ _ ⟨rfl, rfl⟩) | (refine ⟨_, c3 rfl, ?_⟩; rintro _ _ ⟨rfl, rfl⟩) | fail)) | ((with_reducible refine isCut ?_) <;> (first | refine ⟨⟨none⟩, ?_⟩)) | ((first | with_reducible refine isEx ?_ | with_reducible refine isAnd ?_ | with_reducible refine isOr ?_) <;> (first | ((with_reducible refine isSmall ?_) <;> (refine ⟨?_, ?_⟩; kernel_rfl)) | refine ⟨rfl, ?_⟩ | refine ⟨Int.natCast_nonneg _, ?_⟩)) | with_reducible refine Both.mk ?_ ?_ | rintro _ rfl | exact rfl | (split <;> (rename_i h; first | (simp only [beq_self_eq_true, eq_self, decide_true, Bool.not_true, Bool.false_eq_true] at h; done) | (try rw [h])))))
def bump (s : Saga) : Saga := { s with tries := IntKind.i64.wrap (s.tries + 1) }
def failAt (d : Def) (s : Saga) (now : Int) : SagaOut := match d.steps[s.pos.toNat]? with | some t => failT d s t now | none => refused 1
theorem failAt_get {d : Def} {s : Saga} {now : Int} {t : Step} (h : d.steps[s.pos.toNat]? = some t) : failAt d s now = failT d s t now := by simp only [failAt, h]
def tick1 (d : Def) (s : Saga) (now : Int) : SagaOut := sel (over s || decide (now < s.clock)) (refused 12) (sel s.waits (failAt d s now) (sendAt d (bump s) now))
def tickM (d : Def) (s : Saga) (now : Int) : SagaOut := sel (asked d s now) (tick1 d s now) (refused 1)
set_option maxHeartbeats 2000000 in
theorem specTick1 (d : Def) (s : Saga) (now : Int) (hs : sagaOk d s = true) : Ent Try.prog 94 [.d (defD d), .d (sagaD s), .d (.i .i64 now)] [] (.d (outD (tick1 d s now))) [] := by
  obtain ⟨u, hu⟩ : ∃ u, u = over s := ⟨_, rfl⟩
  have c1 := specOver s
  rw [← hu] at c1
  obtain ⟨o, ho⟩ : ∃ o, o = failAt d s now := ⟨_, rfl⟩
  have c2 : u = false → Ent Try.prog 127 [.d (defD d), .d (sagaD s), .d (.i .i64 now)] [] (.d (outD o)) [] := fun h => by
    obtain ⟨t, L⟩ := live hs (over_live hs (hu.symm.trans h))
    rw [ho, failAt_get L.at_]; exact specFailed d s t now L
  obtain ⟨o2, ho2⟩ : ∃ o, o = sendAt d (bump s) now := ⟨_, rfl⟩
  have c3 : u = false → Ent Try.prog 56 [.d (defD d), .d (sagaD (bump s)), .d (.i .i64 now)] [] (.d (outD o2)) [] := fun h => by
    obtain ⟨t, L⟩ := live hs (over_live hs (hu.symm.trans h))
    rw [ho2]; exact specSend' now L.p0 (show s.pos < _ by have := L.pd; have := L.dn; omega)
  rw [tick1, ← ho, ← hu, ← ho2]
  clear ho hu ho2
  refine ent_of tok mixed (f := 94) Try.func94 (by kernel_rfl) (keep := false) ?_
  rcases s with ⟨ph, done, pos, tries, waits, clock⟩
  cases u <;> cases waits
  all_goals
    repeat' ((conv => whnf) <;> (first | ((with_reducible refine isCall ?_) <;> (first | (refine ⟨_, c1, ?_⟩; rintro _ _ ⟨rfl, rfl⟩) | (refine ⟨_, c2 rfl, ?_⟩; rintro _ _ ⟨rfl, rfl⟩) | (refine ⟨_, c3 rfl, ?_⟩; rintro _ _ ⟨rfl, rfl⟩) | fail)) | ((with_reducible refine isCut ?_) <;> (first | refine ⟨⟨none⟩, ?_⟩)) | ((first | with_reducible refine isEx ?_ | with_reducible refine isAnd ?_ | with_reducible refine isOr ?_) <;> (first | ((with_reducible refine isSmall ?_) <;> (refine ⟨?_, ?_⟩; kernel_rfl)) | refine ⟨rfl, ?_⟩ | refine ⟨Int.natCast_nonneg _, ?_⟩)) | with_reducible refine Both.mk ?_ ?_ | rintro _ rfl | exact rfl | (split <;> (rename_i h; first | (simp only [beq_self_eq_true, eq_self, decide_true, Bool.not_true, Bool.false_eq_true] at h; done) | (try rw [h])))))
end Go.Pm.Try
