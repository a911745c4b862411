import Derived.Test.YthkpoggeldnadaaPmR3
namespace Go.Pm.Try
open Go Go.Proofs
set_option linter.unusedVariables false
structure Def where
  name : List UInt8
  steps : List Step
  pivot : Int
def defD (d : Def) : D := .agg [.s d.name, .sl false (d.steps.map stepD), .i .i64 d.pivot]
structure Def.fits (d : Def) : Prop where
  name : d.name.length ≤ maxLen
  len : d.steps.length ≤ maxLen
  steps : ∀ s, s ∈ d.steps → s.fits
theorem szDef (d : Def) (hd : d.fits) : EntQ Try.prog 25 [.d (defD d), .d (.i .i64 1048576)] [] (fun R O => ∃ r, R = .d (.i .i64 r) ∧ O = [] ∧ (0 ≤ r → d.steps.length ≤ 1048576)) := by
  have e1 := sub_small (a := 1048576) (n := d.name.length) (by omega) (by omega) hd.name
  refine ent_of tok mixed (f := 25) Try.func25 (by kernel_rfl) (keep := false) ?_
  repeat' ((conv => whnf) <;> (first
    | refine ⟨rfl, ?_⟩
    | (refine ⟨_, szStepSB d.steps hd.len hd.steps _ (Int.not_lt.1 (of_decide_eq_false (by assumption))) (by rw [e1]; omega), ?_⟩; rintro _ _ ⟨r, rfl, rfl, hr1, hr2⟩)
    | (split <;> (rename_i h; try rw [h]))))
  all_goals (conv => whnf)
  all_goals first
    | exact ⟨_, rfl, rfl, fun h => by omega⟩
    | exact ⟨_, rfl, rfl, fun h => by have := hr2 h; rw [e1] at this; omega⟩
theorem toDef (d : Def) (hd : d.steps.length ≤ 1048576) : Ent Try.prog 27 [.d (defD d)] [] (.d (defD d)) [] := by
  refine ent_of tok mixed (f := 27) Try.func27 (by kernel_rfl) (keep := false) ?_
  repeat' ((conv => whnf) <;> (first
    | refine ⟨rfl, ?_⟩
    | exact rfl
    | (refine ⟨_, toStepS d.steps hd, ?_⟩; rintro _ _ ⟨rfl, rfl⟩)
    | (split <;> (rename_i h; try rw [h]))))
  all_goals trace_state
end Go.Pm.Try
