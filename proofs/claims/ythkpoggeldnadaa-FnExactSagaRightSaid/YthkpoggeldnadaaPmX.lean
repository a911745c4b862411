import Derived.Test.YthkpoggeldnadaaPmW
namespace Go.Pm.Try
open Go Go.Proofs
set_option linter.unusedVariables false
structure Step where
  name : List UInt8
  act : List UInt8
  undo : List UInt8
  tries : Int
  back : Int
  out : Int
def stepD (s : Step) : D := .agg [.s s.name, .s s.act, .s s.undo, .i .i64 s.tries, .i .i64 s.back, .i .i64 s.out]
theorem get_map {α : Type} {f : α → D} {ss : List α} {k : Nat} (h : k < ss.length) : (ss.map f)[k]? = some (f (ss[k]'h)) := by simp [h]
theorem step_up {k n : Nat} (h : k < n) (hn : n ≤ maxLen) : IntKind.i64.wrap ((k : Int) + 1) = ((k + 1 : Nat) : Int) := by
  have : maxLen = 9223372036854775807 := rfl
  rw [wrap_i64_id _ (by omega) (by omega)]; rfl
theorem lt_of_dec {α : Type} {f : α → D} {ss : List α} {k : Nat} (h : decide ((k : Int) < ((ss.map f).length : Int)) = true) : k < ss.length := by
  have := of_decide_eq_true h
  rw [List.length_map] at this
  omega
theorem mu_up {k n : Nat} (h : k < n) (hn : n ≤ maxLen) : n - (IntKind.i64.wrap ((k : Int) + 1)).toNat < n - ((k : Int)).toNat := by
  rw [step_up h hn]; omega
set_option maxHeartbeats 4000000 in
theorem szStepS (ss : List Step) (hs : ss.length ≤ maxLen) (left : Int) : EntQ Try.prog 42 [.d (.sl false (ss.map stepD)), .d (.i .i64 left)] [] (fun R O => ∃ r, R = .d (.i .i64 r) ∧ O = []) := by
  refine ent_of tok mixed (f := 42) Try.func42 (by kernel_rfl) (keep := false) ?_
  repeat' ((conv => whnf) <;> (first
    | (refine ⟨[5, 1, 0, 4], [], fun s => ∃ (k : Nat) (n l : Int), n = k ∧ k ≤ ss.length ∧ s = ⟨[(5, .d (.i .i64 n)), (1, .d (.i .i64 l)), (0, .d (.sl false (ss.map stepD))), (4, .d (.i .i64 0))], []⟩,
        fun s => match look 5 s.env with | some (.d (.i _ n)) => ss.length - n.toNat | _ => 0, rfl, ⟨0, _, _, rfl, Nat.zero_le _, rfl⟩, ?_⟩; rintro s ⟨k, n, l, rfl, hk, rfl⟩)
    | (refine ⟨_, get_map (k := k) (lt_of_dec (by assumption)), ?_⟩)
    | (exact ⟨rfl, ⟨k + 1, _, _, step_up (lt_of_dec (by assumption)) hs, lt_of_dec (by assumption), rfl⟩, mu_up (lt_of_dec (by assumption)) hs⟩)
    | (refine ⟨_, szStep _ _ _ _ _ _ _, ?_⟩; rintro _ _ ⟨r, rfl, rfl⟩)
    | exact ⟨_, rfl, rfl⟩
    | refine ⟨rfl, ?_⟩
    | refine ⟨Int.natCast_nonneg _, ?_⟩
    | (split <;> (rename_i h; try rw [h]))))
end Go.Pm.Try
