import Derived.Test.YthkpoggeldnadaaPmR9
namespace Go.Pm.Try
open Go Go.Proofs
set_option linter.unusedVariables false
set_option maxRecDepth 100000
structure Saga where
  ph : Int
  done : Int
  pos : Int
  tries : Int
  waits : Bool
  clock : Int
def sagaD (s : Saga) : D := .agg [.i .i64 s.ph, .i .i64 s.done, .i .i64 s.pos, .i .i64 s.tries, .b s.waits, .i .i64 s.clock]
theorem toSaga (s : Saga) : Ent Try.prog 10 [.d (sagaD s)] [] (.d (sagaD s)) [] := by
  refine ent_of tok mixed (f := 10) Try.func10 (by kernel_rfl) (keep := false) ?_
  repeat' ((conv => whnf) <;> (first
    | refine ⟨rfl, ?_⟩
    | exact rfl
    | (split <;> (rename_i h; try rw [h]))))
def owing (t : Step) (s : Saga) : Bool := (inside s.clock 0 2000000000 && inside s.tries 1 t.tries) && (s.waits || decide (s.tries < t.tries))
theorem specTries (d : Def) (s : Saga) (t : Step) (h0 : 0 ≤ s.pos) (ht : d.steps[s.pos.toNat]? = some t) : Ent Try.prog 58 [.d (defD d), .d (sagaD s)] [] (.d (.b (owing t s))) [] := by
  refine ent_of tok mixed (f := 58) Try.func58 (by kernel_rfl) (keep := false) ?_
  repeat' ((conv => whnf) <;> (first
    | refine ⟨rfl, ?_⟩
    | exact rfl
    | (refine ⟨_, get_map' ht, ?_⟩)
    | refine ⟨h0, ?_⟩
    | (refine ⟨_, l12In _ _ _, ?_⟩; rintro _ _ ⟨rfl, rfl⟩)
    | (split <;> (rename_i h; try rw [h]))))
  all_goals (conv => whnf)
  all_goals (refine ⟨congrArg (fun b => AV.d (D.b b)) ?_, rfl⟩)
  all_goals simp_all [owing]
theorem implOwing (d : Def) (s : Saga) (t : Step) (h0 : 0 ≤ s.pos) (ht : d.steps[s.pos.toNat]? = some t) (hr : stepOk t = true) : Ent Try.prog 60 [.d (defD d), .d (sagaD s)] [] (.d (.b (owing t s))) [] := by
  have e1 : IntKind.i64.wrap (t.tries - 1) = t.tries - 1 := by
    simp only [stepOk, nums, inside, Bool.and_eq_true, decide_eq_true_eq] at hr
    exact wrap_i64_id _ (by omega) (by omega)
  refine ent_of tok mixed (f := 60) Try.func60 (by kernel_rfl) (keep := false) ?_
  repeat' ((conv => whnf) <;> (first
    | refine ⟨rfl, ?_⟩
    | exact rfl
    | (refine ⟨_, get_map' ht, ?_⟩)
    | refine ⟨h0, ?_⟩
    | (refine ⟨_, within _ _ _, ?_⟩; rintro _ _ ⟨rfl, rfl⟩)
    | (split <;> (rename_i h; try rw [h]))))
  all_goals (conv => whnf)
  all_goals (refine ⟨congrArg (fun b => AV.d (D.b b)) ?_, rfl⟩)
  all_goals simp only [e1] at *
  all_goals simp_all [owing, inside]
  all_goals first | omega | (rw [Bool.eq_iff_iff]; simp; omega)
def undoAt (d : Def) (k : Int) : Bool := match d.steps[k.toNat]? with | some t => !decide (t.undo = []) | none => false
def turned (d : Def) (s : Saga) : Bool := inside s.done 0 ((d.steps.length : Int) - 1) && (decide (d.pivot < 0) || decide (s.done ≤ d.pivot))
def back (d : Def) (s : Saga) : Bool := (turned d s && inside s.pos 0 (s.done - 1)) && undoAt d s.pos
theorem undoAt_get {d : Def} {k : Int} {t : Step} (h : d.steps[k.toNat]? = some t) : undoAt d k = !decide (t.undo = []) := by simp only [undoAt, h]
theorem specBack (d : Def) (s : Saga) : Ent Try.prog 59 [.d (defD d), .d (sagaD s)] [] (.d (.b (back d s))) [] := by
  refine ent_of tok mixed (f := 59) Try.func59 (by kernel_rfl) (keep := false) ?_
  repeat' ((conv => whnf) <;> (first
    | refine ⟨rfl, ?_⟩
    | exact rfl
    | (obtain ⟨t, ht⟩ := get_ex (ss := d.steps) (k := s.pos.toNat) (by simp only [List.length_map, decide_eq_true_eq] at *; omega); refine ⟨_, get_map' ht, ?_⟩)
    | refine ⟨by simp only [decide_eq_true_eq] at *; omega, ?_⟩
    | (split <;> (rename_i h; try rw [h]))))
  all_goals (conv => whnf)
  all_goals (refine ⟨congrArg (fun b => AV.d (D.b b)) ?_, rfl⟩)
  all_goals try simp only [List.length_map] at *
  all_goals simp_all [back, turned, inside, undoAt]
  all_goals (intros; omega)
theorem implTurned (d : Def) (s : Saga) (hd : d.steps.length ≤ maxLen) : Ent Try.prog 62 [.d (defD d), .d (sagaD s)] [] (.d (.b (turned d s))) [] := by
  refine ent_of tok mixed (f := 62) Try.func62 (by kernel_rfl) (keep := false) ?_
  repeat' ((conv => whnf) <;> (first
    | refine ⟨rfl, ?_⟩
    | exact rfl
    | (refine ⟨_, within _ _ _, ?_⟩; rintro _ _ ⟨rfl, rfl⟩)
    | (split <;> (rename_i h; try rw [h]))))
  all_goals (conv => whnf)
  all_goals (refine ⟨congrArg (fun b => AV.d (D.b b)) ?_, rfl⟩)
  all_goals simp only [wrap_len1 hd, List.length_map] at *
  all_goals simp_all [turned]
  all_goals (intros; omega)
theorem implBack (d : Def) (s : Saga) (hd : d.steps.length ≤ maxLen) : Ent Try.prog 61 [.d (defD d), .d (sagaD s)] [] (.d (.b (back d s))) [] := by
  obtain ⟨u, hu⟩ : ∃ u, u = turned d s := ⟨_, rfl⟩
  have c1 := implTurned d s hd
  rw [← hu] at c1
  have e1 : u = true → IntKind.i64.wrap (s.done - 1) = s.done - 1 := by
    intro h
    rw [h] at hu
    have hu := hu.symm
    simp only [turned, inside, Bool.and_eq_true, decide_eq_true_eq] at hu
    have : maxLen = 9223372036854775807 := rfl
    exact wrap_i64_id _ (by omega) (by omega)
  refine ent_of tok mixed (f := 61) Try.func61 (by kernel_rfl) (keep := false) ?_
  repeat' ((conv => whnf) <;> (first
    | refine ⟨rfl, ?_⟩
    | exact rfl
    | (obtain ⟨t, ht⟩ := get_ex (ss := d.steps) (k := s.pos.toNat) (by simp_all [turned, inside]; omega); refine ⟨_, get_map' ht, ?_⟩)
    | (refine ⟨_, c1, ?_⟩; rintro _ _ ⟨rfl, rfl⟩)
    | (refine ⟨_, within _ _ _, ?_⟩; rintro _ _ ⟨rfl, rfl⟩)
    | (refine ⟨(?_ : 0 ≤ s.pos), ?_⟩; · simp_all [inside])
    | (split <;> (rename_i h; try rw [h]))))
  all_goals (conv => whnf)
  all_goals (refine ⟨congrArg (fun b => AV.d (D.b b)) ?_, rfl⟩)
  all_goals simp_all [back, inside, undoAt]
  all_goals (intros; omega)
end Go.Pm.Try
