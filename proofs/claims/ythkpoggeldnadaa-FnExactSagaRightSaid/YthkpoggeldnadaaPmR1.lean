import Derived.Test.YthkpoggeldnadaaPmV
namespace Go.Pm.Try
open Go Go.Proofs
set_option linter.unusedVariables false
def stepZ : D := .agg [.s [], .s [], .s [], .i .i64 (Int.ofNat 0), .i .i64 (Int.ofNat 0), .i .i64 (Int.ofNat 0)]
def filled (ss : List Step) (k : Nat) : List D := (ss.take k).map stepD ++ List.replicate (ss.length - k) stepZ
theorem filled_zero (ss : List Step) : List.replicate (ss.length) stepZ = filled ss 0 := by simp [filled]
theorem filled_all (ss : List Step) : filled ss ss.length = ss.map stepD := by simp [filled]
theorem filled_up (ss : List Step) {k : Nat} (h : k < ss.length) : (filled ss k).set k (stepD (ss[k]'h)) = filled ss (k + 1) := by
  unfold filled
  rw [List.set_append_right _ _ (by simp; omega)]
  rw [List.take_succ_eq_append_getElem h, List.map_append, List.append_assoc]
  congr 1
  have e : ss.length - k = (ss.length - (k + 1)) + 1 := by omega
  rw [e, List.replicate_succ]
  simp [Nat.min_eq_left (Nat.le_of_lt h)]
theorem filled_len (ss : List Step) {k : Nat} (h : k ≤ ss.length) : (filled ss k).length = ss.length := by simp [filled]; omega
set_option maxHeartbeats 4000000 in
theorem toStepS (ss : List Step) (hs : ss.length ≤ 1048576) : Ent Try.prog 44 [.d (.sl false (ss.map stepD))] [] (.d (.sl false (ss.map stepD))) [] := by
  have hm : ss.length ≤ maxLen := Nat.le_trans hs (by decide)
  refine ent_of tok mixed (f := 44) Try.func44 (by kernel_rfl) (keep := false) ?_
  repeat' ((conv => whnf) <;> (first
    | (refine ⟨[4, 3, 0, 2], [10007], fun s => ∃ (k : Nat) (n : Int) (zs : List D), n = k ∧ k ≤ ss.length ∧ zs = filled ss k ∧ s = ⟨[(4, .d (.i .i64 n)), (3, .own 10007), (0, .d (.sl false (ss.map stepD))), (2, .snil)], [(10007, .arr 6 false zs)]⟩,
        fun s => match look 4 s.env with | some (.d (.i _ n)) => ss.length - n.toNat | _ => 0, rfl, ⟨0, _, _, rfl, Nat.zero_le _, ?_, rfl⟩, ?_⟩; rotate_left; rintro s ⟨k, n, zs, rfl, hk, hz, rfl⟩)
    | (refine ⟨_, get_map (k := k) (lt_of_dec (by assumption)), ?_⟩)
    | exact ⟨rfl, ⟨k + 1, _, _, step_up (lt_of_dec (by assumption)) hm, lt_of_dec (by assumption), (by rw [hz]; exact filled_up ss (lt_of_dec (by assumption))), rfl⟩, mu_up (lt_of_dec (by assumption)) hm⟩
    | refine ⟨⟨(by rw [hz]; show k < _; rw [filled_len ss hk]; exact lt_of_dec (by assumption)), rfl⟩, ?_⟩
    | refine ⟨rfl, ?_⟩
    | refine ⟨Int.natCast_nonneg _, ?_⟩
    | refine ⟨⟨rfl, Int.natCast_nonneg _, (by rw [List.length_map]; show (ss.length : Int) * ((72 : Nat) : Int) ≤ 281474976710656; omega), (by rw [List.length_map]; have : ((maxLen : Nat) : Int) = 9223372036854775807 := rfl; omega)⟩, ?_⟩
    | refine ⟨⟨Int.natCast_nonneg _, (by rw [hz, filled_len ss hk]; have := lt_of_dec (by assumption); omega)⟩, ?_⟩
    | (refine ⟨_, toStep _ _ _ _ _ _, ?_⟩; rintro _ _ ⟨rfl, rfl⟩)
    | (split <;> (rename_i h; try rw [h]))))
  · conv => whnf
    refine ⟨congrArg (fun x => AV.d (D.sl false x)) ?_, rfl⟩
    have e : k = ss.length := by
      rename_i h
      have := of_decide_eq_false h
      rw [List.length_map] at this
      omega
    rw [hz, e, filled_all]
  · rw [List.length_map]; exact filled_zero ss
end Go.Pm.Try
