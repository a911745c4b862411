/-
The program's SagaRight returns what the reference's returns, for all arguments.
-/
import Derived.Test.YthkpoggeldnadaaPmQ1
namespace Go.Pm.Try
open Go Go.Proofs
set_option linter.unusedVariables false
set_option maxRecDepth 100000
def quiet (s : Saga) : Bool := (decide (s.tries = 0) && decide (s.clock = 0)) && !s.waits
def owingAt (d : Def) (s : Saga) : Bool := match d.steps[s.pos.toNat]? with | some t => owing t s | none => false
def sagaOk1 (d : Def) (s : Saga) : Bool :=
  if s.ph = 1 then (decide (s.pos = s.done) && inside s.pos 0 ((d.steps.length : Int) - 1)) && owingAt d s
  else if s.ph = 2 then back d s && owingAt d s
  else if s.ph = 3 then (decide (s.done = d.steps.length) && decide (s.pos = 0)) && quiet s
  else if s.ph = 4 then (turned d s && decide (s.pos = 0)) && quiet s
  else if s.ph = 5 then (((decide (s.pos = s.done) && decide (d.pivot ≥ 0)) && inside s.pos (d.pivot + 1) ((d.steps.length : Int) - 1)) || back d s) && quiet s
  else false
theorem owingAt_get {d : Def} {s : Saga} {t : Step} (h : d.steps[s.pos.toNat]? = some t) : owingAt d s = owing t s := by simp only [owingAt, h]
theorem back_pos {d : Def} {s : Saga} (h : back d s = true) : 0 ≤ s.pos ∧ s.pos < d.steps.length := by
  simp only [back, turned, inside, Bool.and_eq_true, decide_eq_true_eq] at h
  omega
theorem step_at {d : Def} {s : Saga} (h0 : 0 ≤ s.pos) (h1 : s.pos < d.steps.length) : ∃ t, d.steps[s.pos.toNat]? = some t := get_ex (by omega)
theorem specTries' {d : Def} {s : Saga} (h0 : 0 ≤ s.pos) (h1 : s.pos < d.steps.length) : Ent Try.prog 58 [.d (defD d), .d (sagaD s)] [] (.d (.b (owingAt d s))) [] := by
  obtain ⟨t, ht⟩ := step_at h0 h1
  rw [owingAt_get ht]
  exact specTries d s t h0 ht
theorem stepOk_of {d : Def} (hd : defOk d = true) {k : Nat} {t : Step} (ht : d.steps[k]? = some t) : stepOk t = true := by
  cases h : stepOk t with
  | true => rfl
  | false => rw [← defOk_bad1 ht h] at hd; cases hd
theorem implOwing' {d : Def} {s : Saga} (hd : defOk d = true) (h0 : 0 ≤ s.pos) (h1 : s.pos < d.steps.length) : Ent Try.prog 60 [.d (defD d), .d (sagaD s)] [] (.d (.b (owingAt d s))) [] := by
  obtain ⟨t, ht⟩ := step_at h0 h1
  rw [owingAt_get ht]
  exact implOwing d s t h0 ht (stepOk_of hd ht)
set_option maxHeartbeats 4000000 in
theorem specSaga (d : Def) (s : Saga) : Ent Try.prog 50 [.d (defD d), .d (sagaD s)] [] (.d (.b (sagaOk1 d s))) [] := by
  obtain ⟨u, hu⟩ : ∃ u, u = back d s := ⟨_, rfl⟩
  have c1 := specBack d s
  rw [← hu] at c1
  obtain ⟨u2, hu2⟩ : ∃ u, u = owingAt d s := ⟨_, rfl⟩
  have c2 : 0 ≤ s.pos → s.pos < d.steps.length → Ent Try.prog 58 [.d (defD d), .d (sagaD s)] [] (.d (.b u2)) [] := by rw [hu2]; exact specTries'
  refine ent_of tok mixed (f := 50) Try.func50 (by kernel_rfl) (keep := false) ?_
  repeat' ((conv => whnf) <;> (first
    | refine ⟨rfl, ?_⟩
    | exact rfl
    | (refine ⟨_, c1, ?_⟩; rintro _ _ ⟨rfl, rfl⟩)
    | (refine ⟨_, c2 (back_pos hu.symm).1 (back_pos hu.symm).2, ?_⟩; rintro _ _ ⟨rfl, rfl⟩)
    | (refine ⟨_, c2 (by simp only [List.length_map, decide_eq_true_eq] at *; omega) (by simp only [List.length_map, decide_eq_true_eq] at *; omega), ?_⟩; rintro _ _ ⟨rfl, rfl⟩)
    | (split <;> (rename_i h; try rw [h]))))
  all_goals (conv => whnf)
  all_goals (refine ⟨congrArg (fun b => AV.d (D.b b)) ?_, rfl⟩)
  all_goals clear c1 c2
  all_goals try simp only [List.length_map] at *
  all_goals simp_all [sagaOk1, inside, turned, quiet]
  all_goals try omega
set_option maxHeartbeats 4000000 in
theorem implSaga (d : Def) (s : Saga) (hd : defOk d = true) : Ent Try.prog 51 [.d (defD d), .d (sagaD s)] [] (.d (.b (sagaOk1 d s))) [] := by
  have hn : 1 ≤ d.steps.length ∧ d.steps.length ≤ 8 ∧ -1 ≤ d.pivot ∧ d.pivot ≤ 7 := by
    simp only [defOk, inside, Bool.and_eq_true, decide_eq_true_eq] at hd
    omega
  have hm : d.steps.length ≤ maxLen := Nat.le_trans hn.2.1 (Nat.le_of_ble_eq_true rfl)
  have e1 : IntKind.i64.wrap (d.pivot + 1) = d.pivot + 1 := wrap_i64_id _ (by omega) (by omega)
  obtain ⟨u, hu⟩ : ∃ u, u = back d s := ⟨_, rfl⟩
  have c1 := implBack d s hm
  rw [← hu] at c1
  obtain ⟨u2, hu2⟩ : ∃ u, u = owingAt d s := ⟨_, rfl⟩
  have c2 : 0 ≤ s.pos → s.pos < d.steps.length → Ent Try.prog 60 [.d (defD d), .d (sagaD s)] [] (.d (.b u2)) [] := by rw [hu2]; exact implOwing' hd
  obtain ⟨u3, hu3⟩ : ∃ u, u = turned d s := ⟨_, rfl⟩
  have c3 := implTurned d s hm
  rw [← hu3] at c3
  refine ent_of tok mixed (f := 51) Try.func51 (by kernel_rfl) (keep := false) ?_
  repeat' ((conv => whnf) <;> (first
    | refine ⟨rfl, ?_⟩
    | exact rfl
    | (refine ⟨_, c1, ?_⟩; rintro _ _ ⟨rfl, rfl⟩)
    | (refine ⟨_, c3, ?_⟩; rintro _ _ ⟨rfl, rfl⟩)
    | (refine ⟨_, within _ _ _, ?_⟩; rintro _ _ ⟨rfl, rfl⟩)
    | (refine ⟨_, c2 (back_pos hu.symm).1 (back_pos hu.symm).2, ?_⟩; rintro _ _ ⟨rfl, rfl⟩)
    | (refine ⟨_, c2 ?_ ?_, ?_⟩; rotate_left 2; rintro _ _ ⟨rfl, rfl⟩; rotate_left; all_goals try (simp only [wrap_len1 hm, List.length_map, inside_iff, decide_eq_true_eq] at *; omega))
    | (split <;> (rename_i h; try rw [h]))))
  all_goals (conv => whnf)
  all_goals (refine ⟨congrArg (fun b => AV.d (D.b b)) ?_, rfl⟩)
  all_goals clear c1 c2 c3
  all_goals try simp only [wrap_len1 hm, e1, List.length_map] at *
  all_goals clear hd
  all_goals simp_all [sagaOk1, inside, quiet]
  all_goals omega
def sagaOk (d : Def) (s : Saga) : Bool := defOk d && sagaOk1 d s
theorem specSagaRight (d : Def) (hd : d.fits) (s : Saga) : Ent Try.prog 30 [.d (defD d), .d (sagaD s)] [] (.d (.b (sagaOk d s))) [] := by
  obtain ⟨u, hu⟩ : ∃ u, u = defOk d := ⟨_, rfl⟩
  have c1 := specDefRight d hd
  rw [← hu] at c1
  obtain ⟨u2, hu2⟩ : ∃ u, u = sagaOk1 d s := ⟨_, rfl⟩
  have c2 := specSaga d s
  rw [← hu2] at c2
  have e : sagaOk d s = (u && u2) := by rw [sagaOk, hu, hu2]
  rw [e]
  refine ent_of tok mixed (f := 30) Try.func30 (by kernel_rfl) (keep := false) ?_
  repeat' ((conv => whnf) <;> (first
    | refine ⟨rfl, ?_⟩
    | exact rfl
    | (refine ⟨_, c1, ?_⟩; rintro _ _ ⟨rfl, rfl⟩)
    | (refine ⟨_, c2, ?_⟩; rintro _ _ ⟨rfl, rfl⟩)
    | (split <;> (rename_i h; try rw [h]))))
theorem implSagaRight (d : Def) (hd : d.fits) (s : Saga) : Ent Try.prog 31 [.d (defD d), .d (sagaD s)] [] (.d (.b (sagaOk d s))) [] := by
  obtain ⟨u, hu⟩ : ∃ u, u = defOk d := ⟨_, rfl⟩
  have c1 := implDefRight d hd
  rw [← hu] at c1
  obtain ⟨u2, hu2⟩ : ∃ u, u = sagaOk1 d s := ⟨_, rfl⟩
  have c2 : u = true → Ent Try.prog 51 [.d (defD d), .d (sagaD s)] [] (.d (.b u2)) [] := by rw [hu2, hu]; exact implSaga d s
  have e : sagaOk d s = (u && u2) := by rw [sagaOk, hu, hu2]
  rw [e]
  refine ent_of tok mixed (f := 31) Try.func31 (by kernel_rfl) (keep := false) ?_
  repeat' ((conv => whnf) <;> (first
    | refine ⟨rfl, ?_⟩
    | exact rfl
    | (refine ⟨_, c1, ?_⟩; rintro _ _ ⟨rfl, rfl⟩)
    | (refine ⟨_, c2 rfl, ?_⟩; rintro _ _ ⟨rfl, rfl⟩)
    | (split <;> (rename_i h; try rw [h]))))
set_option maxHeartbeats 4000000 in
theorem sagaLaw (d : Def) (hd : d.fits) (s : Saga) : Ent Try.prog 8 [.d (defD d), .d (sagaD s)] [] (.d (.b true)) [] := by
  obtain ⟨u, hu⟩ : ∃ u, u = sagaOk d s := ⟨_, rfl⟩
  have c1 := specSagaRight d hd s
  have c2 := implSagaRight d hd s
  rw [← hu] at c1 c2
  refine ent_of tok mixed (f := 8) Try.func8 (by kernel_rfl) (keep := false) ?_
  repeat' ((conv => whnf) <;> (first
    | refine ⟨rfl, ?_⟩
    | exact rfl
    | (refine ⟨_, szDef d hd, ?_⟩; rintro _ _ ⟨r, rfl, rfl, hr⟩)
    | (refine ⟨_, toDef d (hr (Int.not_lt.1 (of_decide_eq_false (by assumption)))), ?_⟩; rintro _ _ ⟨rfl, rfl⟩)
    | (refine ⟨_, toSaga s, ?_⟩; rintro _ _ ⟨rfl, rfl⟩)
    | (refine ⟨_, c1, ?_⟩; rintro _ _ ⟨rfl, rfl⟩)
    | (refine ⟨_, c2, ?_⟩; rintro _ _ ⟨rfl, rfl⟩)
    | (refine ⟨_, eqDef d hd, ?_⟩; rintro _ _ ⟨rfl, rfl⟩)
    | (split <;> (rename_i h; first | (simp only [beq_self_eq_true, Bool.not_true, Bool.false_eq_true] at h; done) | (try rw [h])))))
theorem saga_of {y : D} (h : (Sh.agg [.int .i64, .int .i64, .int .i64, .int .i64, .bool, .int .i64]).of y) : ∃ s : Saga, y = sagaD s := by
  simp only [Sh.of, ofL] at h
  obtain ⟨cs, rfl, x0, r0, rfl, ⟨a, rfl, _⟩, x1, r1, rfl, ⟨b, rfl, _⟩, x2, r2, rfl, ⟨c, rfl, _⟩, x3, r3, rfl, ⟨d, rfl, _⟩, x4, r4, rfl, ⟨e, rfl⟩, x5, r5, rfl, ⟨f, rfl, _⟩, rfl⟩ := h
  exact ⟨⟨a, b, c, d, e, f⟩, rfl⟩
end Go.Pm.Try
namespace Go.Proofs.Ythkpoggeldnadaa.fnExactSagaRight
open Go Go.Proofs Go.ChangeShapes Go.WideShapes Go.ChangeAt Go.RowKit Go.Pm
set_option linter.unusedVariables false
theorem own : ownKnob Try.prog.godebug = none := by kernel_rfl
theorem kids : Kids Try.prog (· < Try.prog.types.size) := kids_rows (by kernel_rfl) (by kernel_rfl)
theorem full : ∀ t e, t < Try.prog.types.size → Try.prog.underlying t = some (.slice e) → 0 < Try.prog.cellsOf e := slices_full_of Try.prog (by kernel_rfl)
theorem sh23 : shOf Try.prog 6 23 = some (.agg [.int .i64, .int .i64, .int .i64, .int .i64, .bool, .int .i64]) := by kernel_rfl
theorem sh49 : shOf Try.prog 6 49 = some (.agg [.str, .sl Go.Pm.Try.stepSh, .int .i64]) := by kernel_rfl
theorem lifted (os : Os) (started : os.Started) (H : Type) (enc : TypeId × Value → H) :
    ReturnsInHanded {} Try.checked os 8 .any (Rows.fnExactSagaRightSpec.pre6 enc Try.prog Try.f8 Rows.fnExactSagaRightRow.domain false) (Rows.fnExactSagaRightSpec.post enc Try.prog Try.f8 false true false false) := by
  refine returnsInHanded_of_change_sized (C := Try.checked) own started (by kernel_rfl) Try.func8
    (ChangeSpec.witness6 (enc := enc) (C := Try.checked) false ⟨#[], #[.agg #[.string ⟨#[]⟩, .slice none 0 0, .int .i64 0], .agg #[.int .i64 0, .int .i64 0, .int .i64 0, .int .i64 0, .bool false, .int .i64 0]], []⟩ 8 (by kernel_rfl) (by kernel_rfl) (by kernel_rfl) (by kernel_rfl)) ?_
  intro W base args ds gs before hval0 hW hcnd hsz0 _
  have hval : ∀ (j : Nat) t v, Try.f8.params[j]? = some t → args[j]? = some v → Value.okWide Try.prog W .any base t v := hval0
  have hW' := hW
  obtain ⟨p, q, hA0, hV, rfl, hfz, hnd⟩ := hW
  have hA : DataW.TrodAll enc Try.prog W 0 (fun _ => true) true Try.f8.params.toList args.toList ds p := hA0
  rw [Try.params8] at hA hval
  obtain ⟨rfl, rfl⟩ := trodVars_none hV
  have hA1 := hA
  obtain ⟨v0, v1, d0, d1, p0, p1, rfl, rfl, rfl, h0, h1⟩ := trodAll_two hA
  obtain ⟨x0, hx0, hrep0⟩ := arg_rep (X := noX) (fun b h => h) sh49 (hval 0 49 v0 rfl rfl) h0
  obtain ⟨x1, hx1, hrep1⟩ := arg_rep (X := noX) (fun b h => h) sh23 (hval 1 23 v1 rfl rfl) h1
  obtain ⟨d, rfl, hd⟩ := Go.Pm.Try.def_of hx0
  obtain ⟨s, rfl⟩ := Go.Pm.Try.saga_of hx1
  refine (law_calls (Go.Pm.Try.sagaLaw d hd s) (W := W) (args := #[v0, v1]) ?_).mono fun e W' ⟨he, bel⟩ => ?_
  · simp only [AV.repL, AV.rep]; exact ⟨v0, [v1], rfl, hrep0, v1, [], rfl, hrep1, rfl⟩
  subst he
  exact ⟨_, rfl, _, _, _, [], _, [], hW', trodAll_mk1 (shut_bool Try.underlying4 _), args_same kids full bel hA1 (by kernel_rfl), rfl, bel.frame _, fun h => by cases h⟩
theorem over : Rows.fnExactSagaRightRow.holds Try.pinned (OpenSpec.ofChange Rows.fnExactSagaRightSpec) :=
  OpenClaim.holds_of_wide 8 Try.f8 rfl rfl rfl rfl rfl rfl rfl ⟨rfl, rfl, rfl, rfl, rfl⟩ rfl rfl rfl rfl rfl (by kernel_rfl) Try.func8 (by kernel_rfl)
    (of_decide_eq_true (by kernel_rfl)) (by unfold Func.isWrapper; first | (rw [if_pos (by decide +kernel)]; kernel_rfl) | (rw [if_neg (by decide +kernel)]; exact ⟨rfl, rfl⟩))
    (fun os started H enc _ => lifted os started H enc)
end Go.Proofs.Ythkpoggeldnadaa.fnExactSagaRight
namespace Go.Proofs.Ythkpoggeldnadaa
theorem fnExactSagaRight_holds : Rows.FnExactSagaRightSaid := fnExactSagaRight.over
#print axioms fnExactSagaRight_holds
end Go.Proofs.Ythkpoggeldnadaa
