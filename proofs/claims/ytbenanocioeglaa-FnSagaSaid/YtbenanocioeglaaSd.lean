import Derived.Test.YtbenanocioeglaaSc
namespace Go.Pm.Try
open Go Go.Proofs
set_option linter.unusedVariables false
set_option linter.unusedSimpArgs false
set_option maxRecDepth 100000
structure Saga where
  ph : Int
  done : Int
  pos : Int
  tries : Int
  waits : Bool
  clock : Int
def sagaD (s : Saga) : D := .agg [.i .i64 s.ph, .i .i64 s.done, .i .i64 s.pos, .i .i64 s.tries, .b s.waits, .i .i64 s.clock]
theorem toSaga (s : Saga) : Ent Try.prog 28 [.d (sagaD s)] [] (.d (sagaD s)) [] := by
  refine ent_of tok mixed (f := 28) Try.func28 (by kernel_rfl) (keep := false) ?_
  repeat' ((conv => whnf) <;> (first
    | refine ⟨⟨none⟩, ?_⟩
    | refine Both.mk ?_ ?_
    | refine ⟨rfl, ?_⟩
    | exact rfl
    | (split <;> (rename_i h; try rw [h]))))
def owing (t : Step) (s : Saga) : Bool := (inside s.clock 0 2000000000 && inside s.tries 1 t.tries) && (s.waits || decide (s.tries < t.tries))
theorem specTries (d : Def) (s : Saga) (t : Step) (h0 : 0 ≤ s.pos) (ht : d.steps[s.pos.toNat]? = some t) : Ent Try.prog 117 [.d (defD d), .d (sagaD s)] [] (.d (.b (owing t s))) [] := by
  refine ent_of tok mixed (f := 117) Try.func117 (by kernel_rfl) (keep := false) ?_
  repeat' ((conv => whnf) <;> (first
    | refine ⟨⟨none⟩, ?_⟩
    | refine Both.mk ?_ ?_
    | refine ⟨rfl, ?_⟩
    | exact rfl
    | (refine ⟨_, get_map' ht, ?_⟩)
    | refine ⟨h0, ?_⟩
    | (refine ⟨_, l12In _ _ _, ?_⟩; rintro _ _ ⟨rfl, rfl⟩)
    | (split <;> (rename_i h; try rw [h]))))
  all_goals (conv => whnf)
  all_goals (refine ⟨congrArg (fun b => AV.d (D.b b)) ?_, rfl⟩)
  all_goals simp_all [owing]
theorem implOwing (d : Def) (s : Saga) (t : Step) (h0 : 0 ≤ s.pos) (ht : d.steps[s.pos.toNat]? = some t) (hr : stepOk t = true) : Ent Try.prog 131 [.d (defD d), .d (sagaD s)] [] (.d (.b (owing t s))) [] := by
  have e1 : IntKind.i64.wrap (t.tries - 1) = t.tries - 1 := by
    simp only [stepOk, nums, inside, Bool.and_eq_true, decide_eq_true_eq] at hr
    exact wrap_i64_id _ (by omega) (by omega)
  refine ent_of tok mixed (f := 131) Try.func131 (by kernel_rfl) (keep := false) ?_
  repeat' ((conv => whnf) <;> (first
    | refine ⟨⟨none⟩, ?_⟩
    | refine Both.mk ?_ ?_
    | refine ⟨rfl, ?_⟩
    | exact rfl
    | (refine ⟨_, get_map' ht, ?_⟩)
    | refine ⟨h0, ?_⟩
    | (refine ⟨_, within _ _ _, ?_⟩; rintro _ _ ⟨rfl, rfl⟩)
    | (split <;> (rename_i h; try rw [h]))))
  all_goals (conv => whnf)
  all_goals (refine ⟨congrArg (fun b => AV.d (D.b b)) ?_, rfl⟩)
  all_goals simp only [e1] at *
  all_goals simp_all [owing, inside]
  all_goals first | omega | (rw [Bool.eq_iff_iff]; simp; omega)
def undoAt (d : Def) (k : Int) : Bool := match d.steps[k.toNat]? with | some t => !decide (t.undo = []) | none => false
def turned (d : Def) (s : Saga) : Bool := inside s.done 0 ((d.steps.length : Int) - 1) && (decide (d.pivot < 0) || decide (s.done ≤ d.pivot))
def back (d : Def) (s : Saga) : Bool := (turned d s && inside s.pos 0 (s.done - 1)) && undoAt d s.pos
theorem undoAt_get {d : Def} {k : Int} {t : Step} (h : d.steps[k.toNat]? = some t) : undoAt d k = !decide (t.undo = []) := by simp only [undoAt, h]
theorem specBack (d : Def) (s : Saga) : Ent Try.prog 118 [.d (defD d), .d (sagaD s)] [] (.d (.b (back d s))) [] := by
  refine ent_of tok mixed (f := 118) Try.func118 (by kernel_rfl) (keep := false) ?_
  repeat' ((conv => whnf) <;> (first
    | refine ⟨⟨none⟩, ?_⟩
    | refine Both.mk ?_ ?_
    | refine ⟨rfl, ?_⟩
    | exact rfl
    | (obtain ⟨t, ht⟩ := get_ex (ss := d.steps) (k := s.pos.toNat) (by simp only [List.length_map, decide_eq_true_eq] at *; omega); refine ⟨_, get_map' ht, ?_⟩)
    | refine ⟨by simp only [decide_eq_true_eq] at *; omega, ?_⟩
    | (split <;> (rename_i h; try rw [h]))))
  all_goals (conv => whnf)
  all_goals (refine ⟨congrArg (fun b => AV.d (D.b b)) ?_, rfl⟩)
  all_goals try simp only [List.length_map] at *
  all_goals simp_all [back, turned, inside, undoAt]
  all_goals (intros; omega)
theorem implTurned (d : Def) (s : Saga) (hd : d.steps.length ≤ maxLen) : Ent Try.prog 133 [.d (defD d), .d (sagaD s)] [] (.d (.b (turned d s))) [] := by
  refine ent_of tok mixed (f := 133) Try.func133 (by kernel_rfl) (keep := false) ?_
  repeat' ((conv => whnf) <;> (first
    | refine ⟨⟨none⟩, ?_⟩
    | refine Both.mk ?_ ?_
    | refine ⟨rfl, ?_⟩
    | exact rfl
    | (refine ⟨_, within _ _ _, ?_⟩; rintro _ _ ⟨rfl, rfl⟩)
    | (split <;> (rename_i h; try rw [h]))))
  all_goals (conv => whnf)
  all_goals (refine ⟨congrArg (fun b => AV.d (D.b b)) ?_, rfl⟩)
  all_goals simp only [wrap_len1 hd, List.length_map] at *
  all_goals simp_all [turned]
  all_goals (intros; omega)
theorem implBack (d : Def) (s : Saga) (hd : d.steps.length ≤ maxLen) : Ent Try.prog 132 [.d (defD d), .d (sagaD s)] [] (.d (.b (back d s))) [] := by
  obtain ⟨u, hu⟩ : ∃ u, u = turned d s := ⟨_, rfl⟩
  have c1 := implTurned d s hd
  rw [← hu] at c1
  have e1 : u = true → IntKind.i64.wrap (s.done - 1) = s.done - 1 := by
    intro h
    rw [h] at hu
    have hu := hu.symm
    simp only [turned, inside, Bool.and_eq_true, decide_eq_true_eq] at hu
    have : maxLen = 9223372036854775807 := rfl
    exact wrap_i64_id _ (by omega) (by omega)
  refine ent_of tok mixed (f := 132) Try.func132 (by kernel_rfl) (keep := false) ?_
  repeat' ((conv => whnf) <;> (first
    | refine ⟨⟨none⟩, ?_⟩
    | refine Both.mk ?_ ?_
    | refine ⟨rfl, ?_⟩
    | exact rfl
    | (obtain ⟨t, ht⟩ := get_ex (ss := d.steps) (k := s.pos.toNat) (by simp_all [turned, inside]; omega); refine ⟨_, get_map' ht, ?_⟩)
    | (refine ⟨_, c1, ?_⟩; rintro _ _ ⟨rfl, rfl⟩)
    | (refine ⟨_, within _ _ _, ?_⟩; rintro _ _ ⟨rfl, rfl⟩)
    | (refine ⟨(?_ : 0 ≤ s.pos), ?_⟩; · simp_all [inside])
    | (split <;> (rename_i h; try rw [h]))))
  all_goals (conv => whnf)
  all_goals (refine ⟨congrArg (fun b => AV.d (D.b b)) ?_, rfl⟩)
  all_goals simp_all [back, inside, undoAt]
  all_goals (intros; omega)
def quiet (s : Saga) : Bool := (decide (s.tries = 0) && decide (s.clock = 0)) && !s.waits
def owingAt (d : Def) (s : Saga) : Bool := match d.steps[s.pos.toNat]? with | some t => owing t s | none => false
def sagaOk1 (d : Def) (s : Saga) : Bool :=
  if s.ph = 1 then (decide (s.pos = s.done) && inside s.pos 0 ((d.steps.length : Int) - 1)) && owingAt d s
  else if s.ph = 2 then back d s && owingAt d s
  else if s.ph = 3 then (decide (s.done = d.steps.length) && decide (s.pos = 0)) && quiet s
  else if s.ph = 4 then (turned d s && decide (s.pos = 0)) && quiet s
  else if s.ph = 5 then (((decide (s.pos = s.done) && decide (d.pivot ≥ 0)) && inside s.pos (d.pivot + 1) ((d.steps.length : Int) - 1)) || back d s) && quiet s
  else false
theorem owingAt_get {d : Def} {s : Saga} {t : Step} (h : d.steps[s.pos.toNat]? = some t) : owingAt d s = owing t s := by simp only [owingAt, h]
theorem back_pos {d : Def} {s : Saga} (h : back d s = true) : 0 ≤ s.pos ∧ s.pos < d.steps.length := by
  simp only [back, turned, inside, Bool.and_eq_true, decide_eq_true_eq] at h
  omega
theorem step_at {d : Def} {s : Saga} (h0 : 0 ≤ s.pos) (h1 : s.pos < d.steps.length) : ∃ t, d.steps[s.pos.toNat]? = some t := get_ex (by omega)
theorem specTries' {d : Def} {s : Saga} (h0 : 0 ≤ s.pos) (h1 : s.pos < d.steps.length) : Ent Try.prog 117 [.d (defD d), .d (sagaD s)] [] (.d (.b (owingAt d s))) [] := by
  obtain ⟨t, ht⟩ := step_at h0 h1
  rw [owingAt_get ht]
  exact specTries d s t h0 ht
theorem stepOk_of {d : Def} (hd : defOk d = true) {k : Nat} {t : Step} (ht : d.steps[k]? = some t) : stepOk t = true := by
  cases h : stepOk t with
  | true => rfl
  | false => rw [← defOk_bad1 ht h] at hd; cases hd
theorem implOwing' {d : Def} {s : Saga} (hd : defOk d = true) (h0 : 0 ≤ s.pos) (h1 : s.pos < d.steps.length) : Ent Try.prog 131 [.d (defD d), .d (sagaD s)] [] (.d (.b (owingAt d s))) [] := by
  obtain ⟨t, ht⟩ := step_at h0 h1
  rw [owingAt_get ht]
  exact implOwing d s t h0 ht (stepOk_of hd ht)
set_option maxHeartbeats 4000000 in
theorem specSaga (d : Def) (s : Saga) : Ent Try.prog 79 [.d (defD d), .d (sagaD s)] [] (.d (.b (sagaOk1 d s))) [] := by
  obtain ⟨u, hu⟩ : ∃ u, u = back d s := ⟨_, rfl⟩
  have c1 := specBack d s
  rw [← hu] at c1
  obtain ⟨u2, hu2⟩ : ∃ u, u = owingAt d s := ⟨_, rfl⟩
  have c2 : 0 ≤ s.pos → s.pos < d.steps.length → Ent Try.prog 117 [.d (defD d), .d (sagaD s)] [] (.d (.b u2)) [] := by rw [hu2]; exact specTries'
  refine ent_of tok mixed (f := 79) Try.func79 (by kernel_rfl) (keep := false) ?_
  repeat' ((conv => whnf) <;> (first
    | refine ⟨⟨none⟩, ?_⟩
    | refine Both.mk ?_ ?_
    | refine ⟨rfl, ?_⟩
    | exact rfl
    | (refine ⟨_, c1, ?_⟩; rintro _ _ ⟨rfl, rfl⟩)
    | (refine ⟨_, c2 (back_pos hu.symm).1 (back_pos hu.symm).2, ?_⟩; rintro _ _ ⟨rfl, rfl⟩)
    | (refine ⟨_, c2 (by simp only [List.length_map, decide_eq_true_eq] at *; omega) (by simp only [List.length_map, decide_eq_true_eq] at *; omega), ?_⟩; rintro _ _ ⟨rfl, rfl⟩)
    | (split <;> (rename_i h; try rw [h]))))
  all_goals (conv => whnf)
  all_goals (refine ⟨congrArg (fun b => AV.d (D.b b)) ?_, rfl⟩)
  all_goals clear c1 c2
  all_goals try simp only [List.length_map] at *
  all_goals simp_all [sagaOk1, inside, turned, quiet]
  all_goals try omega
set_option maxHeartbeats 4000000 in
theorem implSaga (d : Def) (s : Saga) (hd : defOk d = true) : Ent Try.prog 119 [.d (defD d), .d (sagaD s)] [] (.d (.b (sagaOk1 d s))) [] := by
  have hn : 1 ≤ d.steps.length ∧ d.steps.length ≤ 8 ∧ -1 ≤ d.pivot ∧ d.pivot ≤ 7 := by
    simp only [defOk, inside, Bool.and_eq_true, decide_eq_true_eq] at hd
    omega
  have hm : d.steps.length ≤ maxLen := Nat.le_trans hn.2.1 (Nat.le_of_ble_eq_true rfl)
  have e1 : IntKind.i64.wrap (d.pivot + 1) = d.pivot + 1 := wrap_i64_id _ (by omega) (by omega)
  obtain ⟨u, hu⟩ : ∃ u, u = back d s := ⟨_, rfl⟩
  have c1 := implBack d s hm
  rw [← hu] at c1
  obtain ⟨u2, hu2⟩ : ∃ u, u = owingAt d s := ⟨_, rfl⟩
  have c2 : 0 ≤ s.pos → s.pos < d.steps.length → Ent Try.prog 131 [.d (defD d), .d (sagaD s)] [] (.d (.b u2)) [] := by rw [hu2]; exact implOwing' hd
  obtain ⟨u3, hu3⟩ : ∃ u, u = turned d s := ⟨_, rfl⟩
  have c3 := implTurned d s hm
  rw [← hu3] at c3
  refine ent_of tok mixed (f := 119) Try.func119 (by kernel_rfl) (keep := false) ?_
  repeat' ((conv => whnf) <;> (first
    | refine ⟨⟨none⟩, ?_⟩
    | refine Both.mk ?_ ?_
    | refine ⟨rfl, ?_⟩
    | exact rfl
    | (refine ⟨_, c1, ?_⟩; rintro _ _ ⟨rfl, rfl⟩)
    | (refine ⟨_, c3, ?_⟩; rintro _ _ ⟨rfl, rfl⟩)
    | (refine ⟨_, within _ _ _, ?_⟩; rintro _ _ ⟨rfl, rfl⟩)
    | (refine ⟨_, c2 (back_pos hu.symm).1 (back_pos hu.symm).2, ?_⟩; rintro _ _ ⟨rfl, rfl⟩)
    | (refine ⟨_, c2 ?_ ?_, ?_⟩; rotate_left 2; rintro _ _ ⟨rfl, rfl⟩; rotate_left; all_goals try (simp only [wrap_len1 hm, List.length_map, inside_iff, decide_eq_true_eq] at *; omega))
    | (split <;> (rename_i h; try rw [h]))))
  all_goals (conv => whnf)
  all_goals (refine ⟨congrArg (fun b => AV.d (D.b b)) ?_, rfl⟩)
  all_goals clear c1 c2 c3
  all_goals try simp only [wrap_len1 hm, e1, List.length_map] at *
  all_goals clear hd
  all_goals simp_all [sagaOk1, inside, quiet]
  all_goals omega
def sagaOk (d : Def) (s : Saga) : Bool := defOk d && sagaOk1 d s
theorem specSagaRight (d : Def) (hd : d.fits) (s : Saga) : Ent Try.prog 26 [.d (defD d), .d (sagaD s)] [] (.d (.b (sagaOk d s))) [] := by
  obtain ⟨u, hu⟩ : ∃ u, u = defOk d := ⟨_, rfl⟩
  have c1 := specDefRight d hd
  rw [← hu] at c1
  obtain ⟨u2, hu2⟩ : ∃ u, u = sagaOk1 d s := ⟨_, rfl⟩
  have c2 := specSaga d s
  rw [← hu2] at c2
  have e : sagaOk d s = (u && u2) := by rw [sagaOk, hu, hu2]
  rw [e]
  refine ent_of tok mixed (f := 26) Try.func26 (by kernel_rfl) (keep := false) ?_
  repeat' ((conv => whnf) <;> (first
    | refine ⟨⟨none⟩, ?_⟩
    | refine Both.mk ?_ ?_
    | refine ⟨rfl, ?_⟩
    | exact rfl
    | (refine ⟨_, c1, ?_⟩; rintro _ _ ⟨rfl, rfl⟩)
    | (refine ⟨_, c2, ?_⟩; rintro _ _ ⟨rfl, rfl⟩)
    | (split <;> (rename_i h; try rw [h]))))
theorem implSagaRight (d : Def) (hd : d.fits) (s : Saga) : Ent Try.prog 80 [.d (defD d), .d (sagaD s)] [] (.d (.b (sagaOk d s))) [] := by
  obtain ⟨u, hu⟩ : ∃ u, u = defOk d := ⟨_, rfl⟩
  have c1 := implDefRight d hd
  rw [← hu] at c1
  obtain ⟨u2, hu2⟩ : ∃ u, u = sagaOk1 d s := ⟨_, rfl⟩
  have c2 : u = true → Ent Try.prog 119 [.d (defD d), .d (sagaD s)] [] (.d (.b u2)) [] := by rw [hu2, hu]; exact implSaga d s
  have e : sagaOk d s = (u && u2) := by rw [sagaOk, hu, hu2]
  rw [e]
  refine ent_of tok mixed (f := 80) Try.func80 (by kernel_rfl) (keep := false) ?_
  repeat' ((conv => whnf) <;> (first
    | refine ⟨⟨none⟩, ?_⟩
    | refine Both.mk ?_ ?_
    | refine ⟨rfl, ?_⟩
    | exact rfl
    | (refine ⟨_, c1, ?_⟩; rintro _ _ ⟨rfl, rfl⟩)
    | (refine ⟨_, c2 rfl, ?_⟩; rintro _ _ ⟨rfl, rfl⟩)
    | (split <;> (rename_i h; try rw [h]))))
theorem saga_of {y : D} (h : (Sh.agg [.int .i64, .int .i64, .int .i64, .int .i64, .bool, .int .i64]).of y) : ∃ s : Saga, y = sagaD s := by
  simp only [Sh.of, ofL] at h
  obtain ⟨cs, rfl, x0, r0, rfl, ⟨a, rfl, _⟩, x1, r1, rfl, ⟨b, rfl, _⟩, x2, r2, rfl, ⟨c, rfl, _⟩, x3, r3, rfl, ⟨d, rfl, _⟩, x4, r4, rfl, ⟨e, rfl⟩, x5, r5, rfl, ⟨f, rfl, _⟩, rfl⟩ := h
  exact ⟨⟨a, b, c, d, e, f⟩, rfl⟩
end Go.Pm.Try
