/-
Numbers as bytes: PutNum.
-/
import Derived.Test.YtbenanocioeglaaBa
import Derived.Test.YtbenanocioeglaaSc
namespace Go.Pm.Try
open Go Go.Proofs
set_option linter.unusedVariables false
set_option linter.unusedSimpArgs false
set_option maxRecDepth 100000
theorem roomB {n : Nat} {x : D} (h : n ≤ 1000000) : room (n + [x].length) 1 := by
  have : maxLen = 9223372036854775807 := rfl
  simp only [room, List.length_cons, List.length_nil]
  omega
theorem wrap_u64_small {x : Int} (h0 : 0 ≤ x) (h : x < 18446744073709551616) : IntKind.u64.wrap x = x := by
  simp only [IntKind.wrap, IntKind.signed, IntKind.bits, Bool.false_and, Bool.false_eq_true, if_false]
  omega
theorem specFold (n : Int) (h1 : -9223372036854775808 ≤ n) (h2 : n ≤ 9223372036854775807) : Ent Try.prog 113 [.d (.i .i64 n)] [] (.d (.i .u64 (foldU n : Nat))) [] := by
  obtain ⟨o, ho⟩ : ∃ o, o = foldU n := ⟨_, rfl⟩
  rw [← ho]
  refine ent_of tok mixed (f := 113) Try.func113 (by kernel_rfl) (keep := false) ?_
  repeat' ((conv => whnf) <;> (first | ((with_reducible refine isCall ?_) <;> (first | fail)) | ((with_reducible refine isCut ?_) <;> (first | refine ⟨⟨none⟩, ?_⟩)) | ((first | with_reducible refine isEx ?_ | with_reducible refine isAnd ?_ | with_reducible refine isOr ?_) <;> (first | ((with_reducible refine isSmall ?_) <;> (refine ⟨?_, ?_⟩; kernel_rfl)) | refine ⟨rfl, ?_⟩ | refine ⟨Int.natCast_nonneg _, ?_⟩)) | with_reducible refine Both.mk ?_ ?_ | rintro _ rfl | exact rfl | (split <;> (rename_i h; first | (simp only [beq_self_eq_true, eq_self, decide_true, Bool.not_true, Bool.false_eq_true] at h; done) | (try rw [h])))))
  all_goals (conv => whnf)
  all_goals (refine ⟨congrArg (fun x => AV.d (D.i .u64 x)) ?_, rfl⟩)
  · have hn := of_decide_eq_true h
    have e : (foldU n : Nat) = (-2 * n - 1).toNat := by rw [foldU, if_pos hn]
    rw [wrap_i64_id (n + 1) (by omega) (by omega), wrap_i64_id (0 - (n + 1)) (by omega) (by omega), wrap_u64_small (x := 0 - (n + 1)) (by omega) (by omega), wrap_u64_small (x := 2 * (0 - (n + 1))) (by omega) (by omega), wrap_u64_small (by omega) (by omega), ho, e]
    omega
  · have hn := of_decide_eq_false h
    have e : (foldU n : Nat) = (2 * n).toNat := by rw [foldU, if_neg hn]
    rw [wrap_u64_small (x := n) (by omega) (by omega), wrap_u64_small (by omega) (by omega), ho, e]
    omega
theorem fold_small {n : Int} (h1 : -9223372036854775808 ≤ n) (h2 : n ≤ 9223372036854775807) : foldU n < 18446744073709551616 := by
  unfold foldU; split <;> omega
/-- The bytes, one behind the other. -/
theorem putU_more {f u : Nat} (hf : 0 < f) (h : ¬ u < 128) : putU f u = UInt8.ofNat (u % 128 + 128) :: putU (f - 1) (u / 128) := by
  obtain ⟨g, rfl⟩ : ∃ g, f = g + 1 := ⟨f - 1, by omega⟩
  rw [putU, if_neg h, Nat.add_sub_cancel]
theorem putU_last {f u : Nat} (h : u < 128) : putU f u = [UInt8.ofNat u] := by
  cases f with
  | zero => rfl
  | succ f => rw [putU, if_pos h]
def putNum (n : Int) : List UInt8 := putU 9 (foldU n)
theorem u8_of (u : Nat) : IntKind.u8.wrap (u : Int) = ((UInt8.ofNat u).toNat : Int) := by
  rw [UInt8.toNat_ofNat']
  simp only [IntKind.wrap, IntKind.signed, IntKind.bits, Bool.false_and, Bool.false_eq_true, if_false]
  omega
theorem u8s_push (acc : List UInt8) (u : Nat) : u8s acc ++ [D.i .u8 (IntKind.u8.wrap (u : Int))] = u8s (acc ++ [UInt8.ofNat u]) := by
  rw [u8_of]; unfold u8s; rw [List.map_append]; rfl
theorem put_lt {f u : Nat} (hf : 0 < f) (hu : u < 2 ^ (7 * f + 1)) : u / 128 < 2 ^ (7 * (f - 1) + 1) := by
  obtain ⟨g, rfl⟩ : ∃ g, f = g + 1 := ⟨f - 1, by omega⟩
  rw [Nat.add_sub_cancel]
  have e : 2 ^ (7 * (g + 1) + 1) = 2 ^ (7 * g + 1) * 128 := by rw [show 7 * (g + 1) + 1 = (7 * g + 1) + 7 by omega, Nat.pow_add]
  rw [e] at hu
  exact Nat.div_lt_of_lt_mul (by rw [Nat.mul_comm]; exact hu)
set_option maxHeartbeats 1000000 in
theorem specPutNum (n : Int) (h1 : -9223372036854775808 ≤ n) (h2 : n ≤ 9223372036854775807) : Ent Try.prog 64 [.d (.i .i64 n)] [] (.d (.s (putNum n))) [] := by
  obtain ⟨o, ho⟩ : ∃ o, o = putNum n := ⟨_, rfl⟩
  rw [← ho]
  have c1 := specFold n h1 h2
  have hb := fold_small h1 h2
  unfold putNum at ho
  generalize foldU n = w at *
  refine ent_of tok mixed (f := 64) Try.func64 (by kernel_rfl) (keep := false) ?_
  repeat' ((conv => whnf) <;> (first | ((with_reducible refine isCall ?_) <;> (first | (refine ⟨_, c1, ?_⟩; rintro _ _ ⟨rfl, rfl⟩) | (refine ⟨_, u8s_push acc u, ?_⟩) | (refine ⟨(by decide : (128 : Int) ≠ 0), ?_⟩) | (refine ⟨⟨by decide, rfl, rfl, roomB (by unfold u8s; rw [List.length_map]; omega)⟩, ?_⟩) | fail)) | ((with_reducible refine isLoop ?_) <;> (first | (refine ⟨[3, 4], [10007], fun st => ∃ (f u : Nat) (v : Int) (acc : List UInt8) (xs : List D), v = u ∧ u < 2 ^ (7 * f + 1) ∧ f ≤ 9 ∧ acc.length + f ≤ 9 ∧ o = acc ++ putU f u ∧ xs = u8s acc ∧ st = ⟨[(3, .d (.i .u64 v)), (4, .own 10007)], [(10007, .arr 1 false xs)]⟩, fun st => match look 3 st.env with | some (.d (.i _ v)) => v.toNat | _ => 0, rfl, ⟨9, w, _, [], _, rfl, hb, Nat.le_refl _, by decide, ho, rfl, rfl⟩, ?_⟩; rintro st ⟨f, u, v, acc, xs, rfl, hu, hf, hacc, hu2, rfl, rfl⟩) | (refine ⟨_, u8s_push acc u, ?_⟩) | (refine ⟨(by decide : (128 : Int) ≠ 0), ?_⟩) | (refine ⟨⟨by decide, rfl, rfl, roomB (by unfold u8s; rw [List.length_map]; omega)⟩, ?_⟩) | fail)) | ((with_reducible refine isCut ?_) <;> (first | refine ⟨⟨none⟩, ?_⟩)) | ((first | with_reducible refine isEx ?_ | with_reducible refine isAnd ?_ | with_reducible refine isOr ?_) <;> (first | (refine ⟨_, u8s_push acc u, ?_⟩) | (refine ⟨(by decide : (128 : Int) ≠ 0), ?_⟩) | (refine ⟨⟨by decide, rfl, rfl, roomB (by unfold u8s; rw [List.length_map]; omega)⟩, ?_⟩) | ((with_reducible refine isSmall ?_) <;> (refine ⟨?_, ?_⟩; kernel_rfl)) | refine ⟨rfl, ?_⟩ | refine ⟨Int.natCast_nonneg _, ?_⟩)) | with_reducible refine Both.mk ?_ ?_ | rintro _ rfl | exact rfl | (split <;> (rename_i h; first | (simp only [beq_self_eq_true, eq_self, decide_true, Bool.not_true, Bool.false_eq_true] at h; done) | (try rw [h])))))
  all_goals (conv => whnf)
  all_goals first
    | (have hu128 : ¬ u < 128 := by have := of_decide_eq_true h; omega
       have hf0 : 0 < f := by
         rcases Nat.eq_zero_or_pos f with e | e
         · subst e; simp at hu; omega
         · exact e
       have hu64 : u < 18446744073709551616 := Nat.lt_of_lt_of_le hu (Nat.pow_le_pow_right (n := 2) (by decide) (by omega : 7 * f + 1 ≤ 64))
       have ed : IntKind.u64.wrap ((u : Int).tdiv 128) = ((u / 128 : Nat) : Int) := by rw [Int.tdiv_eq_ediv_of_nonneg (by omega), wrap_u64_small (by omega) (by omega)]; omega
       have et : (u : Int).tmod 128 = ((u % 128 : Nat) : Int) := by rw [Int.tmod_eq_emod_of_nonneg (by omega)]; omega
       have em : IntKind.u64.wrap ((u : Int).tmod 128 + 128) = ((u % 128 + 128 : Nat) : Int) := by rw [et, wrap_u64_small (by omega) (by omega)]; omega
       have ex : u8s acc ++ [D.i .u8 (IntKind.u8.wrap (IntKind.u64.wrap ((u : Int).tmod 128 + 128)))] = u8s (acc ++ [UInt8.ofNat (u % 128 + 128)]) := by rw [em]; exact u8s_push acc _
       refine ⟨⟨f - 1, u / 128, _, acc ++ [UInt8.ofNat (u % 128 + 128)], _, ed, put_lt hf0 hu, by omega, by simp only [List.length_append, List.length_cons, List.length_nil]; omega, by rw [hu2, putU_more hf0 hu128, List.append_assoc]; rfl, ex, rfl⟩, ?_⟩
       show (IntKind.u64.wrap ((u : Int).tdiv 128)).toNat < (u : Int).toNat
       rw [ed]; omega)
    | (rw [hu2, putU_last (by have := of_decide_eq_false h; omega)]; exact ⟨rfl, rfl⟩)
    | trace_state
end Go.Pm.Try
