import Derived.Test.YtbenanocioeglaaSd
namespace Go.Pm.Try
open Go Go.Proofs
set_option linter.unusedVariables false
set_option linter.unusedSimpArgs false
set_option maxRecDepth 100000
/-! What a saga's machine hands back. -/
structure Cmd where
  step : Int
  undo : Bool
  tr : Int
structure SagaOut where
  saga : Saga
  cmd : Cmd
  owes : Bool
  code : Int
def cmdD (c : Cmd) : D := .agg [.i .i64 c.step, .b c.undo, .i .i64 c.tr]
def outD (o : SagaOut) : D := .agg [.i .i64 o.saga.ph, .i .i64 o.saga.done, .i .i64 o.saga.pos, .i .i64 o.saga.tries, .b o.saga.waits, .i .i64 o.saga.clock,
  .i .i64 o.cmd.step, .b o.cmd.undo, .i .i64 o.cmd.tr, .b o.owes, .i .i64 o.code]
def noSaga : Saga := ⟨0, 0, 0, 0, false, 0⟩
def noCmd : Cmd := ⟨0, false, 0⟩
def refused (code : Int) : SagaOut := ⟨noSaga, noCmd, false, code⟩
theorem eqSaga (s : Saga) : Ent Try.prog 60 [.d (sagaD s), .d (sagaD s)] [] (.d (.b true)) [] := by
  refine ent_of tok mixed (f := 60) Try.func60 (by kernel_rfl) (keep := false) ?_
  repeat' ((conv => whnf) <;> (first | ((with_reducible refine isCall ?_) <;> (first | fail)) | ((with_reducible refine isCut ?_) <;> (first | refine ⟨⟨none⟩, ?_⟩)) | ((first | with_reducible refine isEx ?_ | with_reducible refine isAnd ?_ | with_reducible refine isOr ?_) <;> (first | ((with_reducible refine isSmall ?_) <;> (refine ⟨?_, ?_⟩; kernel_rfl)) | refine ⟨rfl, ?_⟩ | refine ⟨Int.natCast_nonneg _, ?_⟩)) | with_reducible refine Both.mk ?_ ?_ | rintro _ rfl | exact rfl | (split <;> (rename_i h; first | (simp only [beq_self_eq_true, eq_self, decide_true, Bool.not_true, Bool.false_eq_true] at h; done) | (try rw [h])))))
  all_goals (exfalso; simp at h)
theorem eqCommand (s : Cmd) : Ent Try.prog 61 [.d (cmdD s), .d (cmdD s)] [] (.d (.b true)) [] := by
  refine ent_of tok mixed (f := 61) Try.func61 (by kernel_rfl) (keep := false) ?_
  repeat' ((conv => whnf) <;> (first | ((with_reducible refine isCall ?_) <;> (first | fail)) | ((with_reducible refine isCut ?_) <;> (first | refine ⟨⟨none⟩, ?_⟩)) | ((first | with_reducible refine isEx ?_ | with_reducible refine isAnd ?_ | with_reducible refine isOr ?_) <;> (first | ((with_reducible refine isSmall ?_) <;> (refine ⟨?_, ?_⟩; kernel_rfl)) | refine ⟨rfl, ?_⟩ | refine ⟨Int.natCast_nonneg _, ?_⟩)) | with_reducible refine Both.mk ?_ ?_ | rintro _ rfl | exact rfl | (split <;> (rename_i h; first | (simp only [beq_self_eq_true, eq_self, decide_true, Bool.not_true, Bool.false_eq_true] at h; done) | (try rw [h])))))
  all_goals (exfalso; simp at h)
theorem eqSagaOut (o : SagaOut) : Ent Try.prog 17 [.d (outD o), .d (outD o)] [] (.d (.b true)) [] := by
  refine ent_of tok mixed (f := 17) Try.func17 (by kernel_rfl) (keep := false) ?_
  repeat' ((conv => whnf) <;> (first | ((with_reducible refine isCall ?_) <;> (first | (refine ⟨_, eqSaga o.saga, ?_⟩; rintro _ _ ⟨rfl, rfl⟩) | (refine ⟨_, eqCommand o.cmd, ?_⟩; rintro _ _ ⟨rfl, rfl⟩) | fail)) | ((with_reducible refine isCut ?_) <;> (first | refine ⟨⟨none⟩, ?_⟩)) | ((first | with_reducible refine isEx ?_ | with_reducible refine isAnd ?_ | with_reducible refine isOr ?_) <;> (first | ((with_reducible refine isSmall ?_) <;> (refine ⟨?_, ?_⟩; kernel_rfl)) | refine ⟨rfl, ?_⟩ | refine ⟨Int.natCast_nonneg _, ?_⟩)) | with_reducible refine Both.mk ?_ ?_ | rintro _ rfl | exact rfl | (split <;> (rename_i h; first | (simp only [beq_self_eq_true, eq_self, decide_true, Bool.not_true, Bool.false_eq_true] at h; done) | (try rw [h])))))
  all_goals (exfalso; simp at h)
def timeOk (n : Int) : Bool := inside n 0 1000000000
theorem specTime (n : Int) : Ent Try.prog 55 [.d (.i .i64 n)] [] (.d (.b (timeOk n))) [] := by
  refine ent_of tok mixed (f := 55) Try.func55 (by kernel_rfl) (keep := false) ?_
  repeat' ((conv => whnf) <;> (first | ((with_reducible refine isCall ?_) <;> (first | fail)) | ((with_reducible refine isCut ?_) <;> (first | refine ⟨⟨none⟩, ?_⟩)) | ((first | with_reducible refine isEx ?_ | with_reducible refine isAnd ?_ | with_reducible refine isOr ?_) <;> (first | ((with_reducible refine isSmall ?_) <;> (refine ⟨?_, ?_⟩; kernel_rfl)) | refine ⟨rfl, ?_⟩ | refine ⟨Int.natCast_nonneg _, ?_⟩)) | with_reducible refine Both.mk ?_ ?_ | rintro _ rfl | exact rfl | (split <;> (rename_i h; first | (simp only [beq_self_eq_true, eq_self, decide_true, Bool.not_true, Bool.false_eq_true] at h; done) | (try rw [h])))))
  all_goals ((conv => whnf); refine ⟨congrArg (fun b => AV.d (D.b b)) ?_, rfl⟩; simp_all [timeOk, inside])
  all_goals (intros; omega)
theorem implTime (n : Int) : Ent Try.prog 58 [.d (.i .i64 n)] [] (.d (.b (timeOk n))) [] := by
  refine ent_of tok mixed (f := 58) Try.func58 (by kernel_rfl) (keep := false) ?_
  repeat' ((conv => whnf) <;> (first | ((with_reducible refine isCall ?_) <;> (first | (refine ⟨_, within _ _ _, ?_⟩; rintro _ _ ⟨rfl, rfl⟩) | fail)) | ((with_reducible refine isCut ?_) <;> (first | refine ⟨⟨none⟩, ?_⟩)) | ((first | with_reducible refine isEx ?_ | with_reducible refine isAnd ?_ | with_reducible refine isOr ?_) <;> (first | ((with_reducible refine isSmall ?_) <;> (refine ⟨?_, ?_⟩; kernel_rfl)) | refine ⟨rfl, ?_⟩ | refine ⟨Int.natCast_nonneg _, ?_⟩)) | with_reducible refine Both.mk ?_ ?_ | rintro _ rfl | exact rfl | (split <;> (rename_i h; first | (simp only [beq_self_eq_true, eq_self, decide_true, Bool.not_true, Bool.false_eq_true] at h; done) | (try rw [h])))))
def cmdOf (s : Saga) : Cmd := ⟨s.pos, decide (s.ph = 2), s.tries⟩
theorem specCommand (s : Saga) : Ent Try.prog 107 [.d (sagaD s)] [] (.d (cmdD (cmdOf s))) [] := by
  refine ent_of tok mixed (f := 107) Try.func107 (by kernel_rfl) (keep := false) ?_
  repeat' ((conv => whnf) <;> (first | ((with_reducible refine isCall ?_) <;> (first | fail)) | ((with_reducible refine isCut ?_) <;> (first | refine ⟨⟨none⟩, ?_⟩)) | ((first | with_reducible refine isEx ?_ | with_reducible refine isAnd ?_ | with_reducible refine isOr ?_) <;> (first | ((with_reducible refine isSmall ?_) <;> (refine ⟨?_, ?_⟩; kernel_rfl)) | refine ⟨rfl, ?_⟩ | refine ⟨Int.natCast_nonneg _, ?_⟩)) | with_reducible refine Both.mk ?_ ?_ | rintro _ rfl | exact rfl | (split <;> (rename_i h; first | (simp only [beq_self_eq_true, eq_self, decide_true, Bool.not_true, Bool.false_eq_true] at h; done) | (try rw [h])))))
theorem implCommand (s : Saga) : Ent Try.prog 77 [.d (sagaD s)] [] (.d (cmdD (cmdOf s))) [] := by
  refine ent_of tok mixed (f := 77) Try.func77 (by kernel_rfl) (keep := false) ?_
  repeat' ((conv => whnf) <;> (first | ((with_reducible refine isCall ?_) <;> (first | fail)) | ((with_reducible refine isCut ?_) <;> (first | refine ⟨⟨none⟩, ?_⟩)) | ((first | with_reducible refine isEx ?_ | with_reducible refine isAnd ?_ | with_reducible refine isOr ?_) <;> (first | ((with_reducible refine isSmall ?_) <;> (refine ⟨?_, ?_⟩; kernel_rfl)) | refine ⟨rfl, ?_⟩ | refine ⟨Int.natCast_nonneg _, ?_⟩)) | with_reducible refine Both.mk ?_ ?_ | rintro _ rfl | exact rfl | (split <;> (rename_i h; first | (simp only [beq_self_eq_true, eq_self, decide_true, Bool.not_true, Bool.false_eq_true] at h; done) | (try rw [h])))))
def sendT (t : Step) (s : Saga) (now : Int) : SagaOut := ⟨{ s with waits := true, clock := IntKind.i64.wrap (now + t.out) }, cmdOf s, true, 0⟩
theorem specSend (d : Def) (s : Saga) (now : Int) (t : Step) (h0 : 0 ≤ s.pos) (ht : d.steps[s.pos.toNat]? = some t) : Ent Try.prog 56 [.d (defD d), .d (sagaD s), .d (.i .i64 now)] [] (.d (outD (sendT t s now))) [] := by
  have c1 := specCommand { s with waits := true, clock := IntKind.i64.wrap (now + t.out) }
  refine ent_of tok mixed (f := 56) Try.func56 (by kernel_rfl) (keep := false) ?_
  repeat' ((conv => whnf) <;> (first | ((with_reducible refine isCall ?_) <;> (first | (refine ⟨_, c1, ?_⟩; rintro _ _ ⟨rfl, rfl⟩) | refine ⟨_, get_map' ht, ?_⟩ | refine ⟨h0, ?_⟩ | fail)) | ((with_reducible refine isCut ?_) <;> (first | refine ⟨⟨none⟩, ?_⟩)) | ((first | with_reducible refine isEx ?_ | with_reducible refine isAnd ?_ | with_reducible refine isOr ?_) <;> (first | refine ⟨_, get_map' ht, ?_⟩ | refine ⟨h0, ?_⟩ | ((with_reducible refine isSmall ?_) <;> (refine ⟨?_, ?_⟩; kernel_rfl)) | refine ⟨rfl, ?_⟩ | refine ⟨Int.natCast_nonneg _, ?_⟩)) | with_reducible refine Both.mk ?_ ?_ | rintro _ rfl | exact rfl | (split <;> (rename_i h; first | (simp only [beq_self_eq_true, eq_self, decide_true, Bool.not_true, Bool.false_eq_true] at h; done) | (try rw [h])))))
theorem implSend (d : Def) (s : Saga) (now : Int) (t : Step) (h0 : 0 ≤ s.pos) (ht : d.steps[s.pos.toNat]? = some t) : Ent Try.prog 59 [.d (defD d), .d (sagaD s), .d (.i .i64 now)] [] (.d (outD (sendT t s now))) [] := by
  have c1 := implCommand { s with waits := true, clock := IntKind.i64.wrap (now + t.out) }
  refine ent_of tok mixed (f := 59) Try.func59 (by kernel_rfl) (keep := false) ?_
  repeat' ((conv => whnf) <;> (first | ((with_reducible refine isCall ?_) <;> (first | (refine ⟨_, c1, ?_⟩; rintro _ _ ⟨rfl, rfl⟩) | refine ⟨_, get_map' ht, ?_⟩ | refine ⟨h0, ?_⟩ | fail)) | ((with_reducible refine isCut ?_) <;> (first | refine ⟨⟨none⟩, ?_⟩)) | ((first | with_reducible refine isEx ?_ | with_reducible refine isAnd ?_ | with_reducible refine isOr ?_) <;> (first | refine ⟨_, get_map' ht, ?_⟩ | refine ⟨h0, ?_⟩ | ((with_reducible refine isSmall ?_) <;> (refine ⟨?_, ?_⟩; kernel_rfl)) | refine ⟨rfl, ?_⟩ | refine ⟨Int.natCast_nonneg _, ?_⟩)) | with_reducible refine Both.mk ?_ ?_ | rintro _ rfl | exact rfl | (split <;> (rename_i h; first | (simp only [beq_self_eq_true, eq_self, decide_true, Bool.not_true, Bool.false_eq_true] at h; done) | (try rw [h])))))
def begun : Saga := ⟨1, 0, 0, 1, false, 0⟩
def sendAt (d : Def) (s : Saga) (now : Int) : SagaOut := match d.steps[s.pos.toNat]? with | some t => sendT t s now | none => refused 1
theorem sendAt_get {d : Def} {s : Saga} {now : Int} {t : Step} (h : d.steps[s.pos.toNat]? = some t) : sendAt d s now = sendT t s now := by simp only [sendAt, h]
theorem specSend' {d : Def} {s : Saga} (now : Int) (h0 : 0 ≤ s.pos) (h1 : s.pos < d.steps.length) : Ent Try.prog 56 [.d (defD d), .d (sagaD s), .d (.i .i64 now)] [] (.d (outD (sendAt d s now))) [] := by
  obtain ⟨t, ht⟩ := step_at h0 h1
  rw [sendAt_get ht]
  exact specSend d s now t h0 ht
theorem implSend' {d : Def} {s : Saga} (now : Int) (h0 : 0 ≤ s.pos) (h1 : s.pos < d.steps.length) : Ent Try.prog 59 [.d (defD d), .d (sagaD s), .d (.i .i64 now)] [] (.d (outD (sendAt d s now))) [] := by
  obtain ⟨t, ht⟩ := step_at h0 h1
  rw [sendAt_get ht]
  exact implSend d s now t h0 ht
theorem defOk_len {d : Def} (h : defOk d = true) : 1 ≤ d.steps.length ∧ d.steps.length ≤ 8 ∧ -1 ≤ d.pivot ∧ d.pivot < d.steps.length := by
  simp only [defOk, inside, Bool.and_eq_true, decide_eq_true_eq] at h
  omega
def start (d : Def) (now : Int) : SagaOut := match defOk d && timeOk now with | true => sendAt d begun now | false => refused 1
theorem specStart (d : Def) (hd : d.fits) (now : Int) : Ent Try.prog 14 [.d (defD d), .d (.i .i64 now)] [] (.d (outD (start d now))) [] := by
  obtain ⟨u, hu⟩ : ∃ u, u = defOk d := ⟨_, rfl⟩
  have c1 := specDefRight d hd
  rw [← hu] at c1
  obtain ⟨v, hv⟩ : ∃ v, v = timeOk now := ⟨_, rfl⟩
  have c2 := specTime now
  rw [← hv] at c2
  obtain ⟨o, ho⟩ : ∃ o, o = sendAt d begun now := ⟨_, rfl⟩
  have c3 : u = true → Ent Try.prog 56 [.d (defD d), .d (sagaD begun), .d (.i .i64 now)] [] (.d (outD o)) [] := fun h => by
    have := defOk_len (hu.symm.trans h)
    rw [ho]; exact specSend' now (Int.le_refl 0) (show (0 : Int) < _ by omega)
  have e : start d now = match u && v with | true => o | false => refused 1 := by rw [start, hu, hv, ho]
  rw [e]
  clear e ho hu hv
  refine ent_of tok mixed (f := 14) Try.func14 (by kernel_rfl) (keep := false) ?_
  cases u <;> cases v
  all_goals
    repeat' ((conv => whnf) <;> (first | ((with_reducible refine isCall ?_) <;> (first | (refine ⟨_, c1, ?_⟩; rintro _ _ ⟨rfl, rfl⟩) | (refine ⟨_, c2, ?_⟩; rintro _ _ ⟨rfl, rfl⟩) | (refine ⟨_, c3 rfl, ?_⟩; rintro _ _ ⟨rfl, rfl⟩) | fail)) | ((with_reducible refine isCut ?_) <;> (first | refine ⟨⟨none⟩, ?_⟩)) | ((first | with_reducible refine isEx ?_ | with_reducible refine isAnd ?_ | with_reducible refine isOr ?_) <;> (first | ((with_reducible refine isSmall ?_) <;> (refine ⟨?_, ?_⟩; kernel_rfl)) | refine ⟨rfl, ?_⟩ | refine ⟨Int.natCast_nonneg _, ?_⟩)) | with_reducible refine Both.mk ?_ ?_ | rintro _ rfl | exact rfl | (split <;> (rename_i h; first | (simp only [beq_self_eq_true, eq_self, decide_true, Bool.not_true, Bool.false_eq_true] at h; done) | (try rw [h])))))
theorem implStart (d : Def) (hd : d.fits) (now : Int) : Ent Try.prog 16 [.d (defD d), .d (.i .i64 now)] [] (.d (outD (start d now))) [] := by
  obtain ⟨u, hu⟩ : ∃ u, u = defOk d := ⟨_, rfl⟩
  have c1 := implDefRight d hd
  rw [← hu] at c1
  obtain ⟨v, hv⟩ : ∃ v, v = timeOk now := ⟨_, rfl⟩
  have c2 := implTime now
  rw [← hv] at c2
  obtain ⟨o, ho⟩ : ∃ o, o = sendAt d begun now := ⟨_, rfl⟩
  have c3 : u = true → Ent Try.prog 59 [.d (defD d), .d (sagaD begun), .d (.i .i64 now)] [] (.d (outD o)) [] := fun h => by
    have := defOk_len (hu.symm.trans h)
    rw [ho]; exact implSend' now (Int.le_refl 0) (show (0 : Int) < _ by omega)
  have e : start d now = match u && v with | true => o | false => refused 1 := by rw [start, hu, hv, ho]
  rw [e]
  clear e ho hu hv
  refine ent_of tok mixed (f := 16) Try.func16 (by kernel_rfl) (keep := false) ?_
  cases u <;> cases v
  all_goals
    repeat' ((conv => whnf) <;> (first | ((with_reducible refine isCall ?_) <;> (first | (refine ⟨_, c1, ?_⟩; rintro _ _ ⟨rfl, rfl⟩) | (refine ⟨_, c2, ?_⟩; rintro _ _ ⟨rfl, rfl⟩) | (refine ⟨_, c3 rfl, ?_⟩; rintro _ _ ⟨rfl, rfl⟩) | fail)) | ((with_reducible refine isCut ?_) <;> (first | refine ⟨⟨none⟩, ?_⟩)) | ((first | with_reducible refine isEx ?_ | with_reducible refine isAnd ?_ | with_reducible refine isOr ?_) <;> (first | ((with_reducible refine isSmall ?_) <;> (refine ⟨?_, ?_⟩; kernel_rfl)) | refine ⟨rfl, ?_⟩ | refine ⟨Int.natCast_nonneg _, ?_⟩)) | with_reducible refine Both.mk ?_ ?_ | rintro _ rfl | exact rfl | (split <;> (rename_i h; first | (simp only [beq_self_eq_true, eq_self, decide_true, Bool.not_true, Bool.false_eq_true] at h; done) | (try rw [h])))))
end Go.Pm.Try
