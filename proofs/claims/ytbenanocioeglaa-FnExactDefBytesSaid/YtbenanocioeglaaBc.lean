/-
Numbers and texts as bytes: the program's.
-/
import Derived.Test.YtbenanocioeglaaBb
namespace Go.Pm.Try
open Go Go.Proofs
set_option linter.unusedVariables false
set_option linter.unusedSimpArgs false
set_option maxRecDepth 100000
theorem wrap_u64_mod (x : Int) : IntKind.u64.wrap x = x % 18446744073709551616 := by
  simp only [IntKind.wrap, IntKind.signed, IntKind.bits, Bool.false_and, Bool.false_eq_true, if_false]
  omega
theorem fold_bit {n : Int} (h1 : -9223372036854775808 ≤ n) (h2 : n ≤ 9223372036854775807) :
    bitD .u64 (· ^^^ ·) (IntKind.u64.wrap (IntKind.u64.wrap n * 2 ^ min (Int.toNat 1) IntKind.u64.bits)) (IntKind.u64.wrap (n.fdiv (2 ^ min (Int.toNat 63) IntKind.i64.bits))) = .i .u64 (foldU n : Nat) := by
  have e1 : (2 : Int) ^ min (Int.toNat 1) IntKind.u64.bits = 2 := rfl
  have e2 : (2 : Int) ^ min (Int.toNat 63) IntKind.i64.bits = 9223372036854775808 := rfl
  rw [e1, e2, Int.fdiv_eq_ediv_of_nonneg _ (by decide)]
  by_cases hn : n < 0
  · have a1 : IntKind.u64.wrap (IntKind.u64.wrap n * 2) = (((2 * n + 18446744073709551616).toNat : Nat) : Int) := by rw [wrap_u64_mod, wrap_u64_mod]; omega
    have a2 : IntKind.u64.wrap (n / 9223372036854775808) = 18446744073709551615 := by rw [wrap_u64_mod]; omega
    rw [a1, a2, bit_xor1u (by omega), foldU, if_pos hn]
    congr 1; omega
  · have a1 : IntKind.u64.wrap (IntKind.u64.wrap n * 2) = (((2 * n).toNat : Nat) : Int) := by rw [wrap_u64_mod, wrap_u64_mod]; omega
    have a2 : IntKind.u64.wrap (n / 9223372036854775808) = 0 := by rw [wrap_u64_mod]; omega
    rw [a1, a2, bit_xor0u (by omega), foldU, if_neg hn]
theorem wrap_u8_mod (u : Nat) : IntKind.u8.wrap (u : Int) = ((u % 256 : Nat) : Int) := by
  simp only [IntKind.wrap, IntKind.signed, IntKind.bits, Bool.false_and, Bool.false_eq_true, if_false]
  omega
theorem or_push (acc : List UInt8) (u : Nat) : u8s acc ++ [bitD .u8 (· ||| ·) (IntKind.u8.wrap (u : Int)) 128] = u8s (acc ++ [UInt8.ofNat (u % 128 + 128)]) := by
  rw [wrap_u8_mod, bit_or128 (Nat.mod_lt _ (by decide)), ← u8s_push, wrap_u8_mod]
  congr 4; omega
theorem shift7 (u : Nat) : (u : Int).fdiv (2 ^ min (Int.toNat 7) IntKind.u64.bits) = ((u / 128 : Nat) : Int) := by
  have e1 : (2 : Int) ^ min (Int.toNat 7) IntKind.u64.bits = 128 := rfl
  rw [e1, Int.fdiv_eq_ediv_of_nonneg _ (by decide)]; omega
set_option maxHeartbeats 1000000 in
theorem implPutNum (n : Int) (h1 : -9223372036854775808 ≤ n) (h2 : n ≤ 9223372036854775807) : Ent Try.prog 67 [.d (.i .i64 n)] [] (.d (.s (putNum n))) [] := by
  obtain ⟨o, ho⟩ : ∃ o, o = putNum n := ⟨_, rfl⟩
  rw [← ho]
  have hb := fold_small h1 h2
  have hw := (D.i.inj (fold_bit h1 h2)).2
  unfold putNum at ho
  refine ent_of tok mixed (f := 67) Try.func67 (by kernel_rfl) (keep := false) ?_
  repeat' ((conv => whnf) <;> (first | ((with_reducible refine isCall ?_) <;> (first | (refine ⟨_, u8s_push acc u, ?_⟩) | (refine ⟨(by decide : (0 : Int) ≤ 1), ?_⟩) | (refine ⟨(by decide : (0 : Int) ≤ 63), ?_⟩) | (refine ⟨(by decide : (0 : Int) ≤ 7), ?_⟩) | (refine ⟨⟨by decide, rfl, rfl, roomB (by unfold u8s; rw [List.length_map]; omega)⟩, ?_⟩) | fail)) | ((with_reducible refine isLoop ?_) <;> (first | (refine ⟨[3, 4], [10012], fun st => ∃ (f u : Nat) (v : Int) (acc : List UInt8) (xs : List D), v = u ∧ u < 2 ^ (7 * f + 1) ∧ f ≤ 9 ∧ acc.length + f ≤ 9 ∧ o = acc ++ putU f u ∧ xs = u8s acc ∧ st = ⟨[(3, .d (.i .u64 v)), (4, .own 10012)], [(10012, .arr 1 false xs)]⟩, fun st => match look 3 st.env with | some (.d (.i _ v)) => v.toNat | _ => 0, rfl, ⟨9, foldU n, _, [], _, hw, hb, Nat.le_refl _, by decide, ho, rfl, rfl⟩, ?_⟩; rintro st ⟨f, u, v, acc, xs, rfl, hu, hf, hacc, hu2, rfl, rfl⟩) | (refine ⟨_, u8s_push acc u, ?_⟩) | (refine ⟨(by decide : (0 : Int) ≤ 1), ?_⟩) | (refine ⟨(by decide : (0 : Int) ≤ 63), ?_⟩) | (refine ⟨(by decide : (0 : Int) ≤ 7), ?_⟩) | (refine ⟨⟨by decide, rfl, rfl, roomB (by unfold u8s; rw [List.length_map]; omega)⟩, ?_⟩) | fail)) | ((with_reducible refine isCut ?_) <;> (first | refine ⟨⟨none⟩, ?_⟩)) | ((first | with_reducible refine isEx ?_ | with_reducible refine isAnd ?_ | with_reducible refine isOr ?_) <;> (first | (refine ⟨_, u8s_push acc u, ?_⟩) | (refine ⟨(by decide : (0 : Int) ≤ 1), ?_⟩) | (refine ⟨(by decide : (0 : Int) ≤ 63), ?_⟩) | (refine ⟨(by decide : (0 : Int) ≤ 7), ?_⟩) | (refine ⟨⟨by decide, rfl, rfl, roomB (by unfold u8s; rw [List.length_map]; omega)⟩, ?_⟩) | ((with_reducible refine isSmall ?_) <;> (refine ⟨?_, ?_⟩; kernel_rfl)) | refine ⟨rfl, ?_⟩ | refine ⟨Int.natCast_nonneg _, ?_⟩)) | with_reducible refine Both.mk ?_ ?_ | rintro _ rfl | exact rfl | (split <;> (rename_i h; first | (simp only [beq_self_eq_true, eq_self, decide_true, Bool.not_true, Bool.false_eq_true] at h; done) | (try rw [h])))))
  all_goals (conv => whnf)
  all_goals first
    | (have hu128 : ¬ u < 128 := by have := of_decide_eq_true h; omega
       have hf0 : 0 < f := by
         rcases Nat.eq_zero_or_pos f with e | e
         · subst e; simp at hu; omega
         · exact e
       refine ⟨⟨f - 1, u / 128, _, acc ++ [UInt8.ofNat (u % 128 + 128)], _, shift7 u, put_lt hf0 hu, by omega, by simp only [List.length_append, List.length_cons, List.length_nil]; omega, by rw [hu2, putU_more hf0 hu128, List.append_assoc]; rfl, or_push acc u, rfl⟩, ?_⟩
       show ((u : Int).fdiv (2 ^ min (Int.toNat 7) IntKind.u64.bits)).toNat < (u : Int).toNat
       rw [shift7]; omega)
    | (rw [hu2, putU_last (by have := of_decide_eq_false h; omega)]; exact ⟨rfl, rfl⟩)
    | trace_state
end Go.Pm.Try
