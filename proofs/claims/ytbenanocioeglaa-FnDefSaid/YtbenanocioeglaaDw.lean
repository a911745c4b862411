/-
What is drawn for the laws of defs.
-/
import Derived.Test.YtbenanocioeglaaDv
import Derived.Test.YtbenanocioeglaaBi
namespace Go.Pm.Try
open Go Go.Proofs
set_option linter.unusedVariables false
set_option linter.unusedSimpArgs false
set_option maxRecDepth 100000
set_option maxHeartbeats 1000000 in
theorem drawDefBytes (code : List UInt8) (hc : code.length ≤ 1048576) : EntQ Try.prog 44 [.d (.sl false (u8s code))] [] (fun R O => ∃ d : Def, R = .d (defD d) ∧ O = [] ∧ DefIn d) := by
  refine ent_of tok mixed (f := 44) Try.func44 (by kernel_rfl) (keep := false) ?_
  repeat' ((conv => whnf) <;> (first | ((with_reducible refine isCall ?_) <;> (first | (refine ⟨_, srcSource code hc, ?_⟩; rintro _ _ ⟨z, m, rfl, rfl, hs⟩) | (refine ⟨_, srcDef (m := m) hs, ?_⟩; rintro _ _ ⟨d, k2, m2, rfl, rfl, hs2, hd⟩) | fail)) | ((with_reducible refine isCut ?_) <;> (first | refine ⟨⟨none⟩, ?_⟩)) | ((first | with_reducible refine isEx ?_ | with_reducible refine isAnd ?_ | with_reducible refine isOr ?_) <;> (first | ((with_reducible refine isSmall ?_) <;> (refine ⟨?_, ?_⟩; kernel_rfl)) | refine ⟨rfl, ?_⟩ | refine ⟨Int.natCast_nonneg _, ?_⟩)) | with_reducible refine Both.mk ?_ ?_ | rintro _ rfl | exact rfl | (split <;> (rename_i h; first | (simp only [beq_self_eq_true, eq_self, decide_true, Bool.not_true, Bool.false_eq_true] at h; done) | (try rw [h])))))
  all_goals (conv => whnf)
  all_goals exact ⟨d, rfl, rfl, hd⟩
theorem defBytes_len (d : Def) : (defBytes d).length ≤ 1048576 := by
  cases h : defOk d with
  | false => rw [defBytes_bad h]; decide
  | true => have := (defOk_put h).2; omega
set_option maxHeartbeats 1000000 in
theorem drawDefRead (code : List UInt8) (hc : code.length ≤ 1048576) : EntQ Try.prog 49 [.d (.sl false (u8s code))] [] (fun R O => ∃ t : List UInt8, R = .d (.s t) ∧ O = [] ∧ t.length ≤ 2097153) := by
  refine ent_of tok mixed (f := 49) Try.func49 (by kernel_rfl) (keep := false) ?_
  repeat' ((conv => whnf) <;> (first | ((with_reducible refine isCall ?_) <;> (first | (refine ⟨_, srcSource code hc, ?_⟩; rintro _ _ ⟨z, m, rfl, rfl, hs⟩) | (refine ⟨_, srcDef (m := m) hs, ?_⟩; rintro _ _ ⟨d, k2, m2, rfl, rfl, hs2, hd⟩) | (refine ⟨_, specDefBytes d hd.fits, ?_⟩; rintro _ _ ⟨rfl, rfl⟩) | (refine ⟨_, srcSpoil6 (m := m2) hs2 (defBytes d) (defBytes_len d), ?_⟩; rintro _ _ ⟨t, k3, m3, rfl, rfl, hs3, hl⟩) | fail)) | ((with_reducible refine isCut ?_) <;> (first | refine ⟨⟨none⟩, ?_⟩)) | ((first | with_reducible refine isEx ?_ | with_reducible refine isAnd ?_ | with_reducible refine isOr ?_) <;> (first | ((with_reducible refine isSmall ?_) <;> (refine ⟨?_, ?_⟩; kernel_rfl)) | refine ⟨rfl, ?_⟩ | refine ⟨Int.natCast_nonneg _, ?_⟩)) | with_reducible refine Both.mk ?_ ?_ | rintro _ rfl | exact rfl | (split <;> (rename_i h; first | (simp only [beq_self_eq_true, eq_self, decide_true, Bool.not_true, Bool.false_eq_true] at h; done) | (try rw [h])))))
  all_goals (conv => whnf)
  all_goals exact ⟨t, rfl, rfl, by have := defBytes_len d; omega⟩
set_option maxHeartbeats 1000000 in
theorem drawWait (code : List UInt8) (hc : code.length ≤ 1048576) : EntQ Try.prog 46 [.d (.sl false (u8s code))] [] (fun R O => ∃ (x : Step) (n : Int), R = .tup [.d (stepD x), .d (.i .i64 n)] ∧ O = [] ∧ StepIn x) := by
  refine ent_of tok mixed (f := 46) Try.func46 (by kernel_rfl) (keep := false) ?_
  repeat' ((conv => whnf) <;> (first | ((with_reducible refine isCall ?_) <;> (first | (refine ⟨_, srcSource code hc, ?_⟩; rintro _ _ ⟨z, m, rfl, rfl, hs⟩) | (refine ⟨_, srcStep (m := m) hs 0, ?_⟩; rintro _ _ ⟨x, k2, m2, rfl, rfl, hs2, hx⟩) | (refine ⟨_, srcOne (m := m2) hs2 8 (by decide), ?_⟩; rintro _ _ ⟨b3, k3, m3, rfl, rfl, hs3⟩) | (refine ⟨_, srcEdge (m := m3) hs3, ?_⟩; rintro _ _ ⟨n, k4, m4, rfl, rfl, hs4, hn⟩) | (refine ⟨_, srcN (m := m3) hs3 12 (by decide), ?_⟩; rintro _ _ ⟨n, k4, m4, rfl, rfl, hs4, hn⟩) | fail)) | ((with_reducible refine isCut ?_) <;> (first | refine ⟨⟨none⟩, ?_⟩)) | ((first | with_reducible refine isEx ?_ | with_reducible refine isAnd ?_ | with_reducible refine isOr ?_) <;> (first | ((with_reducible refine isSmall ?_) <;> (refine ⟨?_, ?_⟩; kernel_rfl)) | refine ⟨rfl, ?_⟩ | refine ⟨Int.natCast_nonneg _, ?_⟩)) | with_reducible refine Both.mk ?_ ?_ | rintro _ rfl | exact rfl | (split <;> (rename_i h; first | (simp only [beq_self_eq_true, eq_self, decide_true, Bool.not_true, Bool.false_eq_true] at h; done) | (try rw [h])))))
  all_goals (conv => whnf)
  all_goals exact ⟨x, n, rfl, rfl, hx⟩
/-- Each wait but the first is twice the one ahead. -/
theorem waits_twice (x y z : Int) {n : Int} (h1 : decide (n > 1) = true) (h2 : decide (n ≤ 10) = true) : waits x y z n = IntKind.i64.wrap (2 * waits x y z (IntKind.i64.wrap (n - 1))) := by
  have h1 := of_decide_eq_true h1
  have h2 := of_decide_eq_true h2
  rw [wrap_i64_id (n - 1) (by omega) (by omega)]
  have e1 : inside n 1 10 = true := by simp [inside]; omega
  have e2 : inside (n - 1) 1 10 = true := by simp [inside]; omega
  unfold waits
  rw [e1, e2]
  cases hn : nums x y z with
  | false => rfl
  | true =>
    simp only [Bool.true_and]
    simp only [nums, inside, Bool.and_eq_true, decide_eq_true_eq] at hn
    obtain ⟨⟨_, _⟩, ⟨hy0, hy1⟩, _⟩ := hn
    obtain ⟨k, hk⟩ : ∃ k : Nat, n = (k : Int) + 2 := ⟨(n - 2).toNat, by omega⟩
    subst hk
    have e3 : min ((k : Int) + 2 - 1).toNat 64 = k + 1 := by omega
    have e4 : min ((k : Int) + 2 - 1 - 1).toNat 64 = k := by omega
    rw [e3, e4, Int.pow_succ]
    have hp : 1 ≤ (2 : Int) ^ k ∧ (2 : Int) ^ k ≤ 256 := by
      have h8 : k = 0 ∨ k = 1 ∨ k = 2 ∨ k = 3 ∨ k = 4 ∨ k = 5 ∨ k = 6 ∨ k = 7 ∨ k = 8 := by omega
      rcases h8 with rfl | rfl | rfl | rfl | rfl | rfl | rfl | rfl | rfl <;> decide
    generalize (2 : Int) ^ k = p at *
    have w0 : 0 ≤ y * p := Int.mul_nonneg (by omega) (by omega)
    have w1 : y * p ≤ 1000 * 256 := Int.mul_le_mul hy1 hp.2 (by omega) (by decide)
    rw [show y * (p * 2) = 2 * (y * p) by rw [← Int.mul_assoc, Int.mul_comm]]
    generalize y * p = w at *
    rw [wrap_i64_id w (by omega) (by omega)]
end Go.Pm.Try
/-
A drawn right def is read back from its bytes; what is read of drawn bytes is told by just these bytes; each wait but the first is twice the one ahead.
-/
namespace Go.Pm.Try
open Go Go.Proofs
set_option linter.unusedVariables false
set_option linter.unusedSimpArgs false
set_option maxRecDepth 100000
theorem len_ok {l : List UInt8} (h : decide (((u8s l).length : Int) > 1048576) = false) : l.length ≤ 1048576 := by
  have h := of_decide_eq_false h
  unfold u8s at h
  rw [List.length_map] at h
  omega
theorem defOk_iff (d : Def) : defOk d = !decide (defBytes d = []) := by
  cases h : defOk d with
  | false => rw [defBytes_bad h]; rfl
  | true =>
    have : defBytes d ≠ [] := by
      rw [defBytes_ok h]
      intro e
      have := congrArg List.length e
      simp only [List.length_append, List.length_nil] at this
      exact putNum_ne d.pivot (List.eq_nil_of_length_eq_zero (by omega))
    rw [decide_eq_false this]; rfl
theorem implReadPut (d : Def) (h : (!decide (defBytes d = [])) = true) : Ent Try.prog 37 [.d (.s (defBytes d))] [] (.d (defOutD ⟨d, 0⟩)) [] := by
  rw [← defOk_iff] at h
  have c := implDefRead (defBytes d)
  rwa [readAll_put h] at c
theorem readAll_fit {l : List UInt8} (h : (readAll l).code = 0) : (readAll l).def_.fits := by
  have hm : maxLen = 9223372036854775807 := rfl
  unfold readAll at h ⊢
  cases e : decide (l.length ≤ 20000) with
  | false => rw [e] at h; cases h
  | true =>
    rw [e] at h
    obtain ⟨_, hp, _⟩ := read_get h
    have := hp.l; have := hp.len
    refine ⟨?_, ?_, fun s hs => ?_⟩
    · show (readM specRs l).def_.name.length ≤ maxLen; omega
    · show (readM specRs l).def_.steps.length ≤ maxLen; omega
    · have hs := hp.steps s hs
      exact ⟨by have := hs.l1; omega, by have := hs.l2; omega, by have := hs.l3; omega⟩
theorem implPutRead {l : List UInt8} (h : (!decide ((readAll l).code = 0)) = false) : Ent Try.prog 20 [.d (defD (readAll l).def_)] [] (.d (.s l)) [] := by
  have c := implDefBytes _ (readAll_fit (by simpa using h))
  rwa [readAll_get (by simpa using h)] at c
set_option maxHeartbeats 4000000 in
theorem fnDefLaw (code more : List UInt8) : Ent Try.prog 11 [.d (.sl false (u8s code)), .d (.sl false (u8s more))] [] (.d (.b true)) [] := by
  refine ent_of tok mixed (f := 11) Try.func11 (by kernel_rfl) (keep := false) ?_
  repeat' ((conv => whnf) <;> (first | ((with_reducible refine isCall ?_) <;> (first | (refine ⟨_, drawDefBytes code (len_ok (by assumption)), ?_⟩; rintro _ _ ⟨d, rfl, rfl, hd⟩) | (refine ⟨_, implDefBytes d hd.fits, ?_⟩; rintro _ _ ⟨rfl, rfl⟩) | (refine ⟨_, specDefBytes d hd.fits, ?_⟩; rintro _ _ ⟨rfl, rfl⟩) | (refine ⟨_, implDefRight d hd.fits, ?_⟩; rintro _ _ ⟨rfl, rfl⟩) | (refine ⟨_, implReadPut d (by assumption), ?_⟩; rintro _ _ ⟨rfl, rfl⟩) | (refine ⟨_, drawWait more (len_ok (by assumption)), ?_⟩; rintro _ _ ⟨x, n, rfl, rfl, hx⟩) | (refine ⟨_, implWait x.name x.act x.undo x.tries x.back x.out _, ?_⟩; rintro _ _ ⟨rfl, rfl⟩) | (refine ⟨_, specWait x.name x.act x.undo x.tries x.back x.out _, ?_⟩; rintro _ _ ⟨rfl, rfl⟩) | (refine ⟨_, drawDefRead more (len_ok (by assumption)), ?_⟩; rintro _ _ ⟨t, rfl, rfl, ht⟩) | (refine ⟨_, implDefRead t, ?_⟩; rintro _ _ ⟨rfl, rfl⟩) | (refine ⟨_, specDefRead t, ?_⟩; rintro _ _ ⟨rfl, rfl⟩) | (refine ⟨_, implPutRead (l := t) (by assumption), ?_⟩; rintro _ _ ⟨rfl, rfl⟩) | fail)) | ((with_reducible refine isCut ?_) <;> (first | refine ⟨⟨none⟩, ?_⟩)) | ((first | with_reducible refine isEx ?_ | with_reducible refine isAnd ?_ | with_reducible refine isOr ?_) <;> (first | ((with_reducible refine isSmall ?_) <;> (refine ⟨?_, ?_⟩; kernel_rfl)) | refine ⟨rfl, ?_⟩ | refine ⟨Int.natCast_nonneg _, ?_⟩)) | with_reducible refine Both.mk ?_ ?_ | rintro _ rfl | exact rfl | (split <;> (rename_i h; first | (simp only [beq_self_eq_true, eq_self, decide_true, Bool.not_true, Bool.false_eq_true] at h; done) | (try rw [h])))))
  all_goals (conv => whnf)
  all_goals first
    | (have h := h; rw [defOk_iff] at h; exact absurd h (by simp))
    | (rw [waits_twice x.tries x.back x.out (by assumption) (by assumption)] at h; exact absurd h (by simp))
    | exact ⟨congrArg (fun b => AV.d (D.b b)) (decide_eq_true rfl), rfl⟩
    | exact absurd h (by simp)
    | (with_reducible trace_state)
end Go.Pm.Try
