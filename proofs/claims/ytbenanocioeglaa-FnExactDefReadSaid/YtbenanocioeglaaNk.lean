import Derived.Test.YtbenanocioeglaaNj
namespace Go.Pm.Try
open Go Go.Proofs
set_option linter.unusedVariables false
set_option linter.unusedSimpArgs false
set_option maxRecDepth 100000
def markedStep (k : Nat) : Step := ⟨markTextM (1 + 6 * (k : Int)), markTextM (1 + 6 * (k : Int) + 1), markTextM (1 + 6 * (k : Int) + 2), 1 + 6 * (k : Int) + 3, 1 + 6 * (k : Int) + 4, 1 + 6 * (k : Int) + 5⟩
def marksS : Nat → List D
  | 0 => []
  | k + 1 => marksS k ++ [stepD (markedStep k)]
theorem marksS_len : ∀ k : Nat, (marksS k).length = k
  | 0 => rfl
  | k + 1 => by simp [marksS, marksS_len k]
theorem marksS_set {xs : List D} {k : Nat} (h : k < xs.length) : (marksS k ++ xs.drop k).set k (stepD (markedStep k)) = marksS (k + 1) ++ xs.drop (k + 1) := by
  rw [List.set_append_right _ _ (by rw [marksS_len]; exact Nat.le_refl _), marksS_len, Nat.sub_self, List.drop_eq_getElem_cons h]
  simp only [List.set_cons_zero, marksS, List.append_assoc, List.cons_append, List.nil_append]
theorem marksAll {k : Nat} (h : k ≤ 1048576) : up (up (up (up (1 + 6 * (k : Int))))) = 1 + 6 * (k : Int) + 4 ∧ up (up (up (up (up (1 + 6 * (k : Int)))))) = 1 + 6 * (k : Int) + 5 := by
  have m := marks6 h
  have e4 : up (1 + 6 * (k : Int) + 3) = 1 + 6 * (k : Int) + 3 + 1 := bump (by omega) (by omega)
  have e5 : up (1 + 6 * (k : Int) + 4) = 1 + 6 * (k : Int) + 4 + 1 := bump (by omega) (by omega)
  have f4 : up (up (up (up (1 + 6 * (k : Int))))) = 1 + 6 * (k : Int) + 4 := by rw [m.2.2.1, e4]; omega
  exact ⟨f4, by rw [f4, e5]; omega⟩
theorem drop_get {xs : List D} {k : Nat} (hk : k < xs.length) : ∀ (ms : List D), ms.length = k → (ms ++ xs.drop k)[k]? = xs[k]? := by
  intro ms hm
  rw [List.getElem?_append_right (by omega), hm, Nat.sub_self, List.getElem?_drop, Nat.add_zero]
set_option maxHeartbeats 4000000 in
theorem markStepD (ss : List Step) (hlen : ss.length ≤ 1048576) : Ent Try.prog 82 [.own 0, .d (.i .i64 1)] [.arr 6 false (ss.map stepD)] (.d (.i .i64 (1 + 6 * (ss.length : Int)))) [.arr 6 false (marksS ss.length)] := by
  have hm : ss.length ≤ maxLen := Nat.le_trans hlen (Nat.le_of_ble_eq_true rfl)
  refine ent_of (cx := ⟨tab, []⟩) tok mixed (f := 82) Try.func82 (by kernel_rfl) (keep := false) ?_
  repeat' ((conv => whnf) <;> (first
    | (refine ⟨[5, 1, 0], [0], fun s => ∃ (k : Nat) (n m : Int) (xs : List D), n = k ∧ k ≤ ss.length ∧ m = 1 + 6 * (k : Int) ∧ xs = marksS k ++ (ss.map stepD).drop k ∧ xs.length = ss.length ∧ s = ⟨[(5, .d (.i .i64 n)), (1, .d (.i .i64 m)), (0, .own 0)], [(0, .arr 6 false xs)]⟩, fun s => match look 5 s.env with | some (.d (.i _ n)) => ss.length - n.toNat | _ => 0, rfl, ⟨0, _, _, _, rfl, Nat.zero_le _, rfl, rfl, List.length_map .., rfl⟩, ?_⟩; rintro s ⟨k, n, m, xs, rfl, hk, rfl, hxs, hxl, rfl⟩; have e := marks6 (k := k) (by omega); have e' := marksAll (k := k) (by omega); have q1 := markTextD (1 + 6 * (k : Int)) (by omega); have q2 := markTextD (up (1 + 6 * (k : Int))) (by rw [e.1]; omega); have q3 := markTextD (up (up (1 + 6 * (k : Int)))) (by rw [e.2.1]; omega))
    | refine ⟨⟨Int.natCast_nonneg _, (by have := lt_of_dec0 (xs := xs) (k := k) (by assumption); (try simp only [List.length_set]); omega)⟩, ?_⟩
    | (obtain ⟨t, ht⟩ := get_ex (ss := ss) (k := k) (by have := lt_of_dec0 (xs := xs) (k := k) (by assumption); omega); have hx : xs[k]? = some (stepD t) := (by rw [hxs, drop_get (by rw [List.length_map]; exact get_lt ht) _ (marksS_len k)]; exact get_map' ht); refine ⟨_, hx, ?_⟩)
    | refine ⟨_, set_get (n := xs.length) (by simp only [List.length_set]) (get_lt hx), ?_⟩
    | (refine ⟨_, q1, ?_⟩; rintro _ _ ⟨rfl, rfl⟩)
    | (refine ⟨_, q2, ?_⟩; rintro _ _ ⟨rfl, rfl⟩)
    | (refine ⟨_, q3, ?_⟩; rintro _ _ ⟨rfl, rfl⟩)
    | refine ⟨⟨none⟩, ?_⟩
    | refine Both.mk ?_ ?_
    | rintro _ rfl
    | refine ⟨rfl, ?_⟩
    | exact rfl
    | refine ⟨Int.natCast_nonneg _, ?_⟩
    | (split <;> (rename_i h; first | (simp only [beq_self_eq_true, eq_self, decide_true, Bool.not_true, Bool.false_eq_true] at h; done) | (try rw [h])))))
  all_goals (conv => whnf)
  · have hks : k < ss.length := get_lt ht
    refine ⟨⟨k + 1, _, _, _, step_up hks hm, hks, e.2.2.2, ?_, by simp only [List.length_set]; exact hxl, rfl⟩, mu_up hks hm⟩
    have E : (⟨markTextM (1 + 6 * (k : Int)), markTextM (up (1 + 6 * (k : Int))), markTextM (up (up (1 + 6 * (k : Int)))), up (up (up (1 + 6 * (k : Int)))), up (up (up (up (1 + 6 * (k : Int))))), up (up (up (up (up (1 + 6 * (k : Int)))))) ⟩ : Step) = markedStep k := by
      unfold markedStep
      rw [e'.2, e'.1, e.2.2.1, e.2.1, e.1]
    simp only [List.set_set]
    rw [hxs, ← marksS_set (by rw [List.length_map]; exact hks), ← E]
    rfl
  · rename_i h
    have h := of_decide_eq_false h
    have e : k = ss.length := by omega
    subst e
    refine ⟨rfl, congrArg (fun x => [Ob.arr 6 false x]) ?_⟩
    rw [hxs, List.drop_eq_nil_of_le (by rw [List.length_map]; exact Nat.le_refl _), List.append_nil]
theorem marksS_get : ∀ {n k : Nat}, k < n → (marksS n)[k]? = some (stepD (markedStep k))
  | 0, k, h => by omega
  | n + 1, k, h => by
    simp only [marksS]
    by_cases e : k < n
    · rw [List.getElem?_append_left (by rw [marksS_len]; exact e)]; exact marksS_get e
    · have e : k = n := by omega
      subst e
      rw [List.getElem?_append_right (by rw [marksS_len]; exact Nat.le_refl _), marksS_len]; simp
theorem marked_get {n k : Nat} (hn : n ≤ 1048576) (h : k < n) : (marksS n)[k]? = some (.agg [.s (markTextM (1 + 6 * (k : Int))), .s (markTextM (IntKind.i64.wrap ((1 + 6 * (k : Int)) + 1))), .s (markTextM (IntKind.i64.wrap ((IntKind.i64.wrap ((1 + 6 * (k : Int)) + 1)) + 1))), .i .i64 (IntKind.i64.wrap ((IntKind.i64.wrap ((IntKind.i64.wrap ((1 + 6 * (k : Int)) + 1)) + 1)) + 1)), .i .i64 (IntKind.i64.wrap ((IntKind.i64.wrap ((IntKind.i64.wrap ((IntKind.i64.wrap ((1 + 6 * (k : Int)) + 1)) + 1)) + 1)) + 1)), .i .i64 (IntKind.i64.wrap ((IntKind.i64.wrap ((IntKind.i64.wrap ((IntKind.i64.wrap ((IntKind.i64.wrap ((1 + 6 * (k : Int)) + 1)) + 1)) + 1)) + 1)) + 1))]) := by
  have e := marks6 (k := k) (by omega)
  have e' := marksAll (k := k) (by omega)
  have E : (⟨markTextM (1 + 6 * (k : Int)), markTextM (up (1 + 6 * (k : Int))), markTextM (up (up (1 + 6 * (k : Int)))), up (up (up (1 + 6 * (k : Int)))), up (up (up (up (1 + 6 * (k : Int))))), up (up (up (up (up (1 + 6 * (k : Int)))))) ⟩ : Step) = markedStep k := by
    unfold markedStep
    rw [e'.2, e'.1, e.2.2.1, e.2.1, e.1]
  rw [marksS_get h, ← E]; rfl
set_option maxHeartbeats 4000000 in
theorem heldSteps (n : Nat) (hl : n ≤ 1048576) : Ent Try.prog 126 [.d (.sl false (marksS n)), .d (.i .i64 1)] [] (.d (.i .i64 (1 + 6 * (n : Int)))) [] := by
  have hm : n ≤ maxLen := Nat.le_trans hl (Nat.le_of_ble_eq_true rfl)
  have hml := marksS_len n
  refine ent_of tok mixed (f := 126) Try.func126 (by kernel_rfl) (keep := false) ?_
  repeat' ((conv => whnf) <;> (first
    | (refine ⟨[5, 1, 0], [], fun s => ∃ (k : Nat) (i m : Int), i = k ∧ k ≤ n ∧ m = 1 + 6 * (k : Int) ∧ s = ⟨[(5, .d (.i .i64 i)), (1, .d (.i .i64 m)), (0, .d (.sl false (marksS n)))], []⟩, fun s => match look 5 s.env with | some (.d (.i _ i)) => n - i.toNat | _ => 0, rfl, ⟨0, _, _, rfl, Nat.zero_le _, rfl, rfl⟩, ?_⟩; rintro s ⟨k, i, m, rfl, hk, rfl, rfl⟩; have e := marks6 (k := k) (by omega); have q1 := markTextD (1 + 6 * (k : Int)) (by omega); have q2 := markTextD (IntKind.i64.wrap ((1 + 6 * (k : Int)) + 1)) (by have := e.1; unfold up at this; omega); have q3 := markTextD (IntKind.i64.wrap ((IntKind.i64.wrap ((1 + 6 * (k : Int)) + 1)) + 1)) (by have := e.2.1; unfold up at this; omega))
    | (refine ⟨_, marked_get (k := k) hl (by have := lt_of_dec0 (by assumption); omega), ?_⟩)
    | (have hk2 := lt_of_dec0 (by assumption); exact ⟨rfl, ⟨k + 1, _, _, step_up (n := n) (by omega) hm, (by omega : k + 1 ≤ n), e.2.2.2, rfl⟩, mu_up (n := n) (by omega) hm⟩)
    | (refine ⟨_, q1, ?_⟩; rintro _ _ ⟨rfl, rfl⟩)
    | (refine ⟨_, q2, ?_⟩; rintro _ _ ⟨rfl, rfl⟩)
    | (refine ⟨_, q3, ?_⟩; rintro _ _ ⟨rfl, rfl⟩)
    | refine ⟨⟨none⟩, ?_⟩
    | refine Both.mk ?_ ?_
    | rintro _ rfl
    | refine ⟨rfl, ?_⟩
    | exact rfl
    | refine ⟨Int.natCast_nonneg _, ?_⟩
    | (split <;> (rename_i h; first | (simp only [beq_self_eq_true, eq_self, decide_true, Bool.not_true, Bool.false_eq_true] at h; done) | (try rw [h])))))
  all_goals (conv => whnf)
  have e : k = n := by have := of_decide_eq_false (by assumption : decide ((k : Int) < ((marksS n).length : Int)) = false); omega
  subst e
  exact ⟨rfl, rfl⟩
end Go.Pm.Try
