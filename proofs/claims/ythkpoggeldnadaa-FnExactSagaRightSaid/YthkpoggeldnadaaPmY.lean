import Derived.Test.YthkpoggeldnadaaPmX
namespace Go.Pm.Try
open Go Go.Proofs
set_option linter.unusedVariables false
theorem eqStep (s t : Step) : EntQ Try.prog 57 [.d (stepD s), .d (stepD t)] [] (fun R O => ∃ b, R = .d (.b b) ∧ O = [] ∧ (s = t → b = true)) := by
  refine ent_of tok mixed (f := 57) Try.func57 (by kernel_rfl) (keep := false) ?_
  repeat' ((conv => whnf) <;> (first
    | refine ⟨rfl, ?_⟩
    | (split <;> (rename_i h; try rw [h]))))
  all_goals (conv => whnf)
  all_goals (refine ⟨_, rfl, rfl, ?_⟩; intro e; subst e; simp_all)
set_option maxHeartbeats 4000000 in
theorem eqStepS (ss : List Step) (hs : ss.length ≤ maxLen) : Ent Try.prog 49 [.d (.sl false (ss.map stepD)), .d (.sl false (ss.map stepD))] [] (.d (.b true)) [] := by
  refine ent_of tok mixed (f := 49) Try.func49 (by kernel_rfl) (keep := false) ?_
  repeat' ((conv => whnf) <;> (first
    | (refine ⟨[5, 0, 1, 4], [], fun s => ∃ (k : Nat) (n : Int), n = k ∧ k ≤ ss.length ∧ s = ⟨[(5, .d (.i .i64 n)), (0, .d (.sl false (ss.map stepD))), (1, .d (.sl false (ss.map stepD))), (4, .d (.b false))], []⟩,
        fun s => match look 5 s.env with | some (.d (.i _ n)) => ss.length - n.toNat | _ => 0, rfl, ⟨0, _, rfl, Nat.zero_le _, rfl⟩, ?_⟩; rintro s ⟨k, n, rfl, hk, rfl⟩)
    | (refine ⟨_, get_map (k := k) (lt_of_dec (by assumption)), ?_⟩)
    | (exact ⟨rfl, ⟨k + 1, _, step_up (lt_of_dec (by assumption)) hs, lt_of_dec (by assumption), rfl⟩, mu_up (lt_of_dec (by assumption)) hs⟩)
    | (refine ⟨_, eqStep _ _, ?_⟩; rintro _ _ ⟨b, rfl, rfl, hb⟩; cases hb rfl)
    | refine ⟨rfl, ?_⟩
    | refine ⟨Int.natCast_nonneg _, ?_⟩
    | (split <;> (rename_i h; first | (simp only [decide_true, Bool.not_true, Bool.false_eq_true] at h; done) | try rw [h]))))
  all_goals (conv => whnf)
  all_goals trace_state
end Go.Pm.Try
