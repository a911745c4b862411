import Derived.Test.YtbenanocioeglaaNf
namespace Go.Pm.Try
open Go Go.Proofs
set_option linter.unusedVariables false
set_option linter.unusedSimpArgs false
set_option maxRecDepth 100000
def strD (l : List UInt8) : D := .s l
def longs (ls : List (List UInt8)) : Bool := ls.any fun l => decide ((l.length : Int) > 20000)
theorem isLong (ls : List (List UInt8)) (hs : ls.length ≤ maxLen) : Ent Try.prog 88 [.d (.sl false (ls.map strD))] [] (.d (.b (longs ls))) [] := by
  obtain ⟨u, hu⟩ : ∃ u, u = longs ls := ⟨_, rfl⟩
  rw [← hu]
  refine ent_of tok mixed (f := 88) Try.func88 (by kernel_rfl) (keep := false) ?_
  repeat' ((conv => whnf) <;> (first | ((with_reducible refine isCall ?_) <;> (first | (obtain ⟨t, ht⟩ := get_ex (ss := ls) (k := k) (lt_of_dec (by assumption)); refine ⟨_, get_map' ht, ?_⟩) | exact ⟨rfl, ⟨k + 1, _, step_up (get_lt ht) hs, get_lt ht, any_up' ht hv (by assumption), rfl⟩, mu_up (get_lt ht) hs⟩ | fail)) | ((with_reducible refine isLoop ?_) <;> (first | (refine ⟨[7, 6, 5], [], fun s => ∃ (k : Nat) (n : Int), n = k ∧ k ≤ ls.length ∧ (ls.take k).any (fun l => decide ((l.length : Int) > 20000)) = false ∧ s = ⟨[(7, .d (.i .i64 n)), (6, .d (.i .i64 ((ls.map strD).length : Int))), (5, .d (.sl false (ls.map strD)))], []⟩, fun s => match look 7 s.env with | some (.d (.i _ n)) => ls.length - n.toNat | _ => 0, rfl, ⟨0, _, rfl, Nat.zero_le _, rfl, rfl⟩, ?_⟩; rintro s ⟨k, n, rfl, hk, hv, rfl⟩) | (obtain ⟨t, ht⟩ := get_ex (ss := ls) (k := k) (lt_of_dec (by assumption)); refine ⟨_, get_map' ht, ?_⟩) | exact ⟨rfl, ⟨k + 1, _, step_up (get_lt ht) hs, get_lt ht, any_up' ht hv (by assumption), rfl⟩, mu_up (get_lt ht) hs⟩ | fail)) | ((with_reducible refine isCut ?_) <;> (first | refine ⟨⟨none⟩, ?_⟩)) | ((first | with_reducible refine isEx ?_ | with_reducible refine isAnd ?_ | with_reducible refine isOr ?_) <;> (first | (obtain ⟨t, ht⟩ := get_ex (ss := ls) (k := k) (lt_of_dec (by assumption)); refine ⟨_, get_map' ht, ?_⟩) | exact ⟨rfl, ⟨k + 1, _, step_up (get_lt ht) hs, get_lt ht, any_up' ht hv (by assumption), rfl⟩, mu_up (get_lt ht) hs⟩ | ((with_reducible refine isSmall ?_) <;> (refine ⟨?_, ?_⟩; kernel_rfl)) | refine ⟨rfl, ?_⟩ | refine ⟨Int.natCast_nonneg _, ?_⟩)) | with_reducible refine Both.mk ?_ ?_ | rintro _ rfl | exact rfl | (split <;> (rename_i h; first | (simp only [beq_self_eq_true, eq_self, decide_true, Bool.not_true, Bool.false_eq_true] at h; done) | (try rw [h])))))
  all_goals (conv => whnf)
  · refine ⟨congrArg (fun b => AV.d (D.b b)) ?_, rfl⟩
    rw [hu, longs]; symm
    rw [List.any_eq_true]
    exact ⟨t, get_mem ht, h⟩
  · refine ⟨congrArg (fun b => AV.d (D.b b)) ?_, rfl⟩
    have e : k = ls.length := by have := of_decide_eq_false h; rw [List.length_map] at this; omega
    rw [e, List.take_length] at hv
    rw [hu, longs, hv]
end Go.Pm.Try
