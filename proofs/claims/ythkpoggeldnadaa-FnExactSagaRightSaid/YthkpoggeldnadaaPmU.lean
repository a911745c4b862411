import Derived.Test.YthkpoggeldnadaaPmT
namespace Go.Pm.Try
open Go Go.Proofs
set_option linter.unusedVariables false
def inside (x lo hi : Int) : Bool := decide (lo ≤ x) && decide (x ≤ hi)
theorem inside_iff (x lo hi : Int) : inside x lo hi = true ↔ lo ≤ x ∧ x ≤ hi := by simp [inside]
theorem within (x lo hi : Int) : Ent Try.prog 32 [.d (.i .i64 x), .d (.i .i64 lo), .d (.i .i64 hi)] [] (.d (.b (inside x lo hi))) [] := by
  refine ent_of tok mixed (f := 32) Try.func32 (by kernel_rfl) (keep := false) ?_
  repeat' ((conv => whnf) <;> (first
    | refine ⟨rfl, ?_⟩
    | (split <;> (rename_i h; try rw [h]))))
  all_goals (conv => whnf)
  all_goals (refine ⟨congrArg (fun b => AV.d (D.b b)) ?_, rfl⟩; simp [inside, *])
theorem l12In (x lo hi : Int) : Ent Try.prog 35 [.d (.i .i64 x), .d (.i .i64 lo), .d (.i .i64 hi)] [] (.d (.b (inside x lo hi))) [] := by
  refine ent_of tok mixed (f := 35) Try.func35 (by kernel_rfl) (keep := false) ?_
  repeat' ((conv => whnf) <;> (first
    | refine ⟨rfl, ?_⟩
    | (split <;> (rename_i h; try rw [h]))))
  all_goals (conv => whnf)
  all_goals (refine ⟨congrArg (fun b => AV.d (D.b b)) ?_, rfl⟩; simp [inside, *])
end Go.Pm.Try
