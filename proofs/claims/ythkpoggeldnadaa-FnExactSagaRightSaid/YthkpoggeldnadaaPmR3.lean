import Derived.Test.YthkpoggeldnadaaPmR2
namespace Go.Pm.Try
open Go Go.Proofs
set_option linter.unusedVariables false
set_option maxHeartbeats 4000000 in
theorem szStepSB (ss : List Step) (hs : ss.length ≤ maxLen) (hf : ∀ s, s ∈ ss → s.fits) (left : Int) (h0 : 0 ≤ left) (h1 : left ≤ 1048576) :
    EntQ Try.prog 42 [.d (.sl false (ss.map stepD)), .d (.i .i64 left)] [] (fun R O => ∃ r, R = .d (.i .i64 r) ∧ O = [] ∧ r ≤ left ∧ (0 ≤ r → (ss.length : Int) ≤ left)) := by
  have e1 := sub_small (n := (ss.map stepD).length) h0 h1 (by rw [List.length_map]; exact hs)
  refine ent_of tok mixed (f := 42) Try.func42 (by kernel_rfl) (keep := false) ?_
  repeat' ((conv => whnf) <;> (first
    | (refine ⟨[5, 1, 0, 4], [], fun s => ∃ (k : Nat) (n l : Int), n = k ∧ k ≤ ss.length ∧ (0 ≤ l ∧ l ≤ left ∧ (ss.length : Int) ≤ left) ∧ s = ⟨[(5, .d (.i .i64 n)), (1, .d (.i .i64 l)), (0, .d (.sl false (ss.map stepD))), (4, .d (.i .i64 0))], []⟩,
        fun s => match look 5 s.env with | some (.d (.i _ n)) => ss.length - n.toNat | _ => 0, rfl, ⟨0, _, _, rfl, Nat.zero_le _, (by
          have := of_decide_eq_false (by assumption)
          rw [e1, List.length_map] at this ⊢
          omega), rfl⟩, ?_⟩; rintro s ⟨k, n, l, rfl, hk, hl, rfl⟩)
    | (refine ⟨_, get_map (k := k) (lt_of_dec (by assumption)), ?_⟩)
    | exact ⟨rfl, ⟨k + 1, _, _, step_up (lt_of_dec (by assumption)) hs, lt_of_dec (by assumption), ⟨Int.not_lt.1 (of_decide_eq_false (by assumption)), Int.le_trans hr hl.2.1, hl.2.2⟩, rfl⟩, mu_up (lt_of_dec (by assumption)) hs⟩
    | (refine ⟨_, szStepB _ (hf _ (List.getElem_mem (lt_of_dec (by assumption)))) _ hl.1 (Int.le_trans hl.2.1 h1), ?_⟩; rintro _ _ ⟨r, rfl, rfl, hr⟩)
    | refine ⟨rfl, ?_⟩
    | refine ⟨Int.natCast_nonneg _, ?_⟩
    | (split <;> (rename_i h; try rw [h]))))
  all_goals (conv => whnf)
  all_goals first
    | exact ⟨_, rfl, rfl, by omega, fun h => by omega⟩
    | exact ⟨_, rfl, rfl, hl.2.1, fun _ => hl.2.2⟩
  all_goals trace_state
end Go.Pm.Try
