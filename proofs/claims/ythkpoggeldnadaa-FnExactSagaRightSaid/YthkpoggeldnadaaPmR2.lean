import Derived.Test.YthkpoggeldnadaaPmR1
namespace Go.Pm.Try
open Go Go.Proofs
set_option linter.unusedVariables false
theorem sub_small {a : Int} {n : Nat} (h0 : 0 ≤ a) (h1 : a ≤ 1048576) (hn : n ≤ maxLen) : IntKind.i64.wrap (a - (n : Int)) = a - n := by
  have : maxLen = 9223372036854775807 := rfl
  exact wrap_i64_id _ (by omega) (by omega)
theorem szStepB (s : Step) (hs : s.fits) (left : Int) (h0 : 0 ≤ left) (h1 : left ≤ 1048576) : EntQ Try.prog 17 [.d (stepD s), .d (.i .i64 left)] [] (fun R O => ∃ r, R = .d (.i .i64 r) ∧ O = [] ∧ r ≤ left) := by
  have e1 := sub_small h0 h1 hs.name
  refine ent_of tok mixed (f := 17) Try.func17 (by kernel_rfl) (keep := false) ?_
  repeat' ((conv => whnf) <;> (first
    | refine ⟨rfl, ?_⟩
    | (split <;> (rename_i h; try rw [h]))))
  all_goals ((conv => whnf); refine ⟨_, rfl, rfl, ?_⟩)
  all_goals first
    | (show (-1 : Int) ≤ left; omega)
    | (rename_i g1 _ g2 _
       have f1 := of_decide_eq_false g1
       have f2 := of_decide_eq_false g2
       rw [e1] at f1 f2
       have e2 := sub_small (a := left - s.name.length) (n := s.act.length) (by omega) (by omega) hs.act
       rw [e2] at f2
       have e3 := sub_small (a := left - s.name.length - s.act.length) (n := s.undo.length) (by omega) (by omega) hs.undo
       rw [e1, e2, e3]
       omega)
end Go.Pm.Try
