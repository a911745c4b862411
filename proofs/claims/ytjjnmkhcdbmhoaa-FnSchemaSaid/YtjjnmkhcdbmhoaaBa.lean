/-
Numbers as bytes: plain laws (for PutNum).
-/
import Derived.Test.YtjjnmkhcdbmhoaaPmLb
import Derived.Test.YtjjnmkhcdbmhoaaCi
namespace Go.Pm
open Go
set_option linter.unusedVariables false
theorem bit_or128 {c : Nat} (hc : c < 256) : bitD .u8 (· ||| ·) (c : Int) 128 = .i .u8 ((c % 128 + 128 : Nat) : Int) := by
  have h : (BitVec.ofInt 8 (c : Int) ||| BitVec.ofInt 8 128).toNat = c % 128 + 128 := by
    rw [ofInt_nat, show BitVec.ofInt 8 128 = BitVec.ofNat 8 128 from rfl, BitVec.toNat_or, BitVec.toNat_ofNat, BitVec.toNat_ofNat, Nat.mod_eq_of_lt hc]
    have hall : ∀ c, c < 256 → c ||| 128 % 2 ^ 8 = c % 128 + 128 := by decide +kernel
    exact hall c hc
  show D.i .u8 (IntKind.u8.wrap ((BitVec.ofInt 8 (c : Int) ||| BitVec.ofInt 8 128).toNat : Int)) = _
  rw [h, wrap_u8_nat (by omega)]
theorem bit_xor0u {x : Nat} (hx : x < 18446744073709551616) : bitD .u64 (· ^^^ ·) (x : Int) 0 = .i .u64 (x : Int) := by
  have h : (BitVec.ofInt 64 (x : Int) ^^^ BitVec.ofInt 64 0).toNat = x := by
    rw [ofInt_nat, show BitVec.ofInt 64 0 = BitVec.ofNat 64 0 from rfl, BitVec.toNat_xor, BitVec.toNat_ofNat, BitVec.toNat_ofNat, Nat.mod_eq_of_lt (by omega)]
    simp
  show D.i .u64 (IntKind.u64.wrap ((BitVec.ofInt 64 (x : Int) ^^^ BitVec.ofInt 64 0).toNat : Int)) = _
  rw [h, wrap_u64_nat hx]
theorem bit_xor1u {x : Nat} (hx : x < 18446744073709551616) : bitD .u64 (· ^^^ ·) (x : Int) 18446744073709551615 = .i .u64 ((18446744073709551615 - x : Nat) : Int) := by
  have h : (BitVec.ofInt 64 (x : Int) ^^^ BitVec.ofInt 64 18446744073709551615).toNat = 18446744073709551615 - x := by
    rw [ofInt_nat, show BitVec.ofInt 64 18446744073709551615 = BitVec.allOnes 64 from by decide, BitVec.xor_allOnes, BitVec.toNat_not, BitVec.toNat_ofNat, Nat.mod_eq_of_lt (by omega)]
  show D.i .u64 (IntKind.u64.wrap ((BitVec.ofInt 64 (x : Int) ^^^ BitVec.ofInt 64 18446744073709551615).toNat : Int)) = _
  rw [h, wrap_u64_nat (by omega)]
/-- The bytes of a folded number. -/
def putU : Nat → Nat → List UInt8
  | 0, u => [UInt8.ofNat u]
  | f + 1, u => if u < 128 then [UInt8.ofNat u] else UInt8.ofNat (u % 128 + 128) :: putU f (u / 128)
def foldU (n : Int) : Nat := if n < 0 then (-2 * n - 1).toNat else (2 * n).toNat
end Go.Pm
/-
Numbers as bytes: PutNum.
-/
namespace Go.Pm.Try
open Go Go.Proofs
set_option linter.unusedVariables false
set_option linter.unusedSimpArgs false
set_option maxRecDepth 100000
theorem roomB {n : Nat} {x : D} (h : n ≤ 1000000) : room (n + [x].length) 1 := by
  have : maxLen = 9223372036854775807 := rfl
  simp only [room, List.length_cons, List.length_nil]
  omega
theorem wrap_u64_small {x : Int} (h0 : 0 ≤ x) (h : x < 18446744073709551616) : IntKind.u64.wrap x = x := by
  simp only [IntKind.wrap, IntKind.signed, IntKind.bits, Bool.false_and, Bool.false_eq_true, if_false]
  omega
theorem specFold (n : Int) (h1 : -9223372036854775808 ≤ n) (h2 : n ≤ 9223372036854775807) : Ent Try.prog 55 [.d (.i .i64 n)] [] (.d (.i .u64 (foldU n : Nat))) [] := by
  obtain ⟨o, ho⟩ : ∃ o, o = foldU n := ⟨_, rfl⟩
  rw [← ho]
  refine ent_of tok mixed (f := 55) Try.func55 (by kernel_rfl) (keep := false) ?_
  repeat' ((conv => whnf) <;> (first | ((with_reducible refine isCall ?_) <;> (first | fail)) | ((with_reducible refine isCut ?_) <;> (first | refine ⟨⟨none⟩, ?_⟩)) | ((first | with_reducible refine isEx ?_ | with_reducible refine isAnd ?_ | with_reducible refine isOr ?_) <;> (first | ((with_reducible refine isSmall ?_) <;> (refine ⟨?_, ?_⟩; kernel_rfl)) | refine ⟨rfl, ?_⟩ | refine ⟨Int.natCast_nonneg _, ?_⟩)) | with_reducible refine Both.mk ?_ ?_ | rintro _ rfl | exact rfl | (split <;> (rename_i h; first | (simp only [beq_self_eq_true, eq_self, decide_true, Bool.not_true, Bool.false_eq_true] at h; done) | (try rw [h])))))
  all_goals (conv => whnf)
  all_goals (refine ⟨congrArg (fun x => AV.d (D.i .u64 x)) ?_, rfl⟩)
  · have hn := of_decide_eq_true h
    have e : (foldU n : Nat) = (-2 * n - 1).toNat := by rw [foldU, if_pos hn]
    rw [wrap_i64_id (n + 1) (by omega) (by omega), wrap_i64_id (0 - (n + 1)) (by omega) (by omega), wrap_u64_small (x := 0 - (n + 1)) (by omega) (by omega), wrap_u64_small (x := 2 * (0 - (n + 1))) (by omega) (by omega), wrap_u64_small (by omega) (by omega), ho, e]
    omega
  · have hn := of_decide_eq_false h
    have e : (foldU n : Nat) = (2 * n).toNat := by rw [foldU, if_neg hn]
    rw [wrap_u64_small (x := n) (by omega) (by omega), wrap_u64_small (by omega) (by omega), ho, e]
    omega
theorem fold_small {n : Int} (h1 : -9223372036854775808 ≤ n) (h2 : n ≤ 9223372036854775807) : foldU n < 18446744073709551616 := by
  unfold foldU; split <;> omega
/-- The bytes, one behind the other. -/
theorem putU_more {f u : Nat} (hf : 0 < f) (h : ¬ u < 128) : putU f u = UInt8.ofNat (u % 128 + 128) :: putU (f - 1) (u / 128) := by
  obtain ⟨g, rfl⟩ : ∃ g, f = g + 1 := ⟨f - 1, by omega⟩
  rw [putU, if_neg h, Nat.add_sub_cancel]
theorem putU_last {f u : Nat} (h : u < 128) : putU f u = [UInt8.ofNat u] := by
  cases f with
  | zero => rfl
  | succ f => rw [putU, if_pos h]
def putNum (n : Int) : List UInt8 := putU 9 (foldU n)
theorem u8_of (u : Nat) : IntKind.u8.wrap (u : Int) = ((UInt8.ofNat u).toNat : Int) := by
  rw [UInt8.toNat_ofNat']
  simp only [IntKind.wrap, IntKind.signed, IntKind.bits, Bool.false_and, Bool.false_eq_true, if_false]
  omega
theorem u8s_push (acc : List UInt8) (u : Nat) : u8s acc ++ [D.i .u8 (IntKind.u8.wrap (u : Int))] = u8s (acc ++ [UInt8.ofNat u]) := by
  rw [u8_of]; unfold u8s; rw [List.map_append]; rfl
theorem put_lt {f u : Nat} (hf : 0 < f) (hu : u < 2 ^ (7 * f + 1)) : u / 128 < 2 ^ (7 * (f - 1) + 1) := by
  obtain ⟨g, rfl⟩ : ∃ g, f = g + 1 := ⟨f - 1, by omega⟩
  rw [Nat.add_sub_cancel]
  have e : 2 ^ (7 * (g + 1) + 1) = 2 ^ (7 * g + 1) * 128 := by rw [show 7 * (g + 1) + 1 = (7 * g + 1) + 7 by omega, Nat.pow_add]
  rw [e] at hu
  exact Nat.div_lt_of_lt_mul (by rw [Nat.mul_comm]; exact hu)
set_option maxHeartbeats 1000000 in
theorem specPutNum (n : Int) (h1 : -9223372036854775808 ≤ n) (h2 : n ≤ 9223372036854775807) : Ent Try.prog 26 [.d (.i .i64 n)] [] (.d (.s (putNum n))) [] := by
  obtain ⟨o, ho⟩ : ∃ o, o = putNum n := ⟨_, rfl⟩
  rw [← ho]
  have c1 := specFold n h1 h2
  have hb := fold_small h1 h2
  unfold putNum at ho
  generalize foldU n = w at *
  refine ent_of tok mixed (f := 26) Try.func26 (by kernel_rfl) (keep := false) ?_
  repeat' ((conv => whnf) <;> (first | ((with_reducible refine isCall ?_) <;> (first | (refine ⟨_, c1, ?_⟩; rintro _ _ ⟨rfl, rfl⟩) | (refine ⟨_, u8s_push acc u, ?_⟩) | (refine ⟨(by decide : (128 : Int) ≠ 0), ?_⟩) | (refine ⟨⟨by decide, rfl, rfl, roomB (by unfold u8s; rw [List.length_map]; omega)⟩, ?_⟩) | fail)) | ((with_reducible refine isLoop ?_) <;> (first | (refine ⟨[3, 4], [10007], fun st => ∃ (f u : Nat) (v : Int) (acc : List UInt8) (xs : List D), v = u ∧ u < 2 ^ (7 * f + 1) ∧ f ≤ 9 ∧ acc.length + f ≤ 9 ∧ o = acc ++ putU f u ∧ xs = u8s acc ∧ st = ⟨[(3, .d (.i .u64 v)), (4, .own 10007)], [(10007, .arr 1 false xs)]⟩, fun st => match look 3 st.env with | some (.d (.i _ v)) => v.toNat | _ => 0, rfl, ⟨9, w, _, [], _, rfl, hb, Nat.le_refl _, by decide, ho, rfl, rfl⟩, ?_⟩; rintro st ⟨f, u, v, acc, xs, rfl, hu, hf, hacc, hu2, rfl, rfl⟩) | (refine ⟨_, u8s_push acc u, ?_⟩) | (refine ⟨(by decide : (128 : Int) ≠ 0), ?_⟩) | (refine ⟨⟨by decide, rfl, rfl, roomB (by unfold u8s; rw [List.length_map]; omega)⟩, ?_⟩) | fail)) | ((with_reducible refine isCut ?_) <;> (first | refine ⟨⟨none⟩, ?_⟩)) | ((first | with_reducible refine isEx ?_ | with_reducible refine isAnd ?_ | with_reducible refine isOr ?_) <;> (first | (refine ⟨_, u8s_push acc u, ?_⟩) | (refine ⟨(by decide : (128 : Int) ≠ 0), ?_⟩) | (refine ⟨⟨by decide, rfl, rfl, roomB (by unfold u8s; rw [List.length_map]; omega)⟩, ?_⟩) | ((with_reducible refine isSmall ?_) <;> (refine ⟨?_, ?_⟩; kernel_rfl)) | refine ⟨rfl, ?_⟩ | refine ⟨Int.natCast_nonneg _, ?_⟩)) | with_reducible refine Both.mk ?_ ?_ | rintro _ rfl | exact rfl | (split <;> (rename_i h; first | (simp only [beq_self_eq_true, eq_self, decide_true, Bool.not_true, Bool.false_eq_true] at h; done) | (try rw [h])))))
  all_goals (conv => whnf)
  all_goals first
    | (have hu128 : ¬ u < 128 := by have := of_decide_eq_true h; omega
       have hf0 : 0 < f := by
         rcases Nat.eq_zero_or_pos f with e | e
         · subst e; simp at hu; omega
         · exact e
       have hu64 : u < 18446744073709551616 := Nat.lt_of_lt_of_le hu (Nat.pow_le_pow_right (n := 2) (by decide) (by omega : 7 * f + 1 ≤ 64))
       have ed : IntKind.u64.wrap ((u : Int).tdiv 128) = ((u / 128 : Nat) : Int) := by rw [Int.tdiv_eq_ediv_of_nonneg (by omega), wrap_u64_small (by omega) (by omega)]; omega
       have et : (u : Int).tmod 128 = ((u % 128 : Nat) : Int) := by rw [Int.tmod_eq_emod_of_nonneg (by omega)]; omega
       have em : IntKind.u64.wrap ((u : Int).tmod 128 + 128) = ((u % 128 + 128 : Nat) : Int) := by rw [et, wrap_u64_small (by omega) (by omega)]; omega
       have ex : u8s acc ++ [D.i .u8 (IntKind.u8.wrap (IntKind.u64.wrap ((u : Int).tmod 128 + 128)))] = u8s (acc ++ [UInt8.ofNat (u % 128 + 128)]) := by rw [em]; exact u8s_push acc _
       refine ⟨⟨f - 1, u / 128, _, acc ++ [UInt8.ofNat (u % 128 + 128)], _, ed, put_lt hf0 hu, by omega, by simp only [List.length_append, List.length_cons, List.length_nil]; omega, by rw [hu2, putU_more hf0 hu128, List.append_assoc]; rfl, ex, rfl⟩, ?_⟩
       show (IntKind.u64.wrap ((u : Int).tdiv 128)).toNat < (u : Int).toNat
       rw [ed]; omega)
    | (rw [hu2, putU_last (by have := of_decide_eq_false h; omega)]; exact ⟨rfl, rfl⟩)
    | trace_state
end Go.Pm.Try
/-
Numbers and texts as bytes: the program's.
-/
namespace Go.Pm.Try
open Go Go.Proofs
set_option linter.unusedVariables false
set_option linter.unusedSimpArgs false
set_option maxRecDepth 100000
theorem wrap_u64_mod (x : Int) : IntKind.u64.wrap x = x % 18446744073709551616 := by
  simp only [IntKind.wrap, IntKind.signed, IntKind.bits, Bool.false_and, Bool.false_eq_true, if_false]
  omega
theorem fold_bit {n : Int} (h1 : -9223372036854775808 ≤ n) (h2 : n ≤ 9223372036854775807) :
    bitD .u64 (· ^^^ ·) (IntKind.u64.wrap (IntKind.u64.wrap n * 2 ^ min (Int.toNat 1) IntKind.u64.bits)) (IntKind.u64.wrap (n.fdiv (2 ^ min (Int.toNat 63) IntKind.i64.bits))) = .i .u64 (foldU n : Nat) := by
  have e1 : (2 : Int) ^ min (Int.toNat 1) IntKind.u64.bits = 2 := rfl
  have e2 : (2 : Int) ^ min (Int.toNat 63) IntKind.i64.bits = 9223372036854775808 := rfl
  rw [e1, e2, Int.fdiv_eq_ediv_of_nonneg _ (by decide)]
  by_cases hn : n < 0
  · have a1 : IntKind.u64.wrap (IntKind.u64.wrap n * 2) = (((2 * n + 18446744073709551616).toNat : Nat) : Int) := by rw [wrap_u64_mod, wrap_u64_mod]; omega
    have a2 : IntKind.u64.wrap (n / 9223372036854775808) = 18446744073709551615 := by rw [wrap_u64_mod]; omega
    rw [a1, a2, bit_xor1u (by omega), foldU, if_pos hn]
    congr 1; omega
  · have a1 : IntKind.u64.wrap (IntKind.u64.wrap n * 2) = (((2 * n).toNat : Nat) : Int) := by rw [wrap_u64_mod, wrap_u64_mod]; omega
    have a2 : IntKind.u64.wrap (n / 9223372036854775808) = 0 := by rw [wrap_u64_mod]; omega
    rw [a1, a2, bit_xor0u (by omega), foldU, if_neg hn]
theorem wrap_u8_mod (u : Nat) : IntKind.u8.wrap (u : Int) = ((u % 256 : Nat) : Int) := by
  simp only [IntKind.wrap, IntKind.signed, IntKind.bits, Bool.false_and, Bool.false_eq_true, if_false]
  omega
theorem or_push (acc : List UInt8) (u : Nat) : u8s acc ++ [bitD .u8 (· ||| ·) (IntKind.u8.wrap (u : Int)) 128] = u8s (acc ++ [UInt8.ofNat (u % 128 + 128)]) := by
  rw [wrap_u8_mod, bit_or128 (Nat.mod_lt _ (by decide)), ← u8s_push, wrap_u8_mod]
  congr 4; omega
theorem shift7 (u : Nat) : (u : Int).fdiv (2 ^ min (Int.toNat 7) IntKind.u64.bits) = ((u / 128 : Nat) : Int) := by
  have e1 : (2 : Int) ^ min (Int.toNat 7) IntKind.u64.bits = 128 := rfl
  rw [e1, Int.fdiv_eq_ediv_of_nonneg _ (by decide)]; omega
set_option maxHeartbeats 1000000 in
theorem implPutNum (n : Int) (h1 : -9223372036854775808 ≤ n) (h2 : n ≤ 9223372036854775807) : Ent Try.prog 20 [.d (.i .i64 n)] [] (.d (.s (putNum n))) [] := by
  obtain ⟨o, ho⟩ : ∃ o, o = putNum n := ⟨_, rfl⟩
  rw [← ho]
  have hb := fold_small h1 h2
  have hw := (D.i.inj (fold_bit h1 h2)).2
  unfold putNum at ho
  refine ent_of tok mixed (f := 20) Try.func20 (by kernel_rfl) (keep := false) ?_
  repeat' ((conv => whnf) <;> (first | ((with_reducible refine isCall ?_) <;> (first | (refine ⟨_, u8s_push acc u, ?_⟩) | (refine ⟨(by decide : (0 : Int) ≤ 1), ?_⟩) | (refine ⟨(by decide : (0 : Int) ≤ 63), ?_⟩) | (refine ⟨(by decide : (0 : Int) ≤ 7), ?_⟩) | (refine ⟨⟨by decide, rfl, rfl, roomB (by unfold u8s; rw [List.length_map]; omega)⟩, ?_⟩) | fail)) | ((with_reducible refine isLoop ?_) <;> (first | (refine ⟨[3, 4], [10012], fun st => ∃ (f u : Nat) (v : Int) (acc : List UInt8) (xs : List D), v = u ∧ u < 2 ^ (7 * f + 1) ∧ f ≤ 9 ∧ acc.length + f ≤ 9 ∧ o = acc ++ putU f u ∧ xs = u8s acc ∧ st = ⟨[(3, .d (.i .u64 v)), (4, .own 10012)], [(10012, .arr 1 false xs)]⟩, fun st => match look 3 st.env with | some (.d (.i _ v)) => v.toNat | _ => 0, rfl, ⟨9, foldU n, _, [], _, hw, hb, Nat.le_refl _, by decide, ho, rfl, rfl⟩, ?_⟩; rintro st ⟨f, u, v, acc, xs, rfl, hu, hf, hacc, hu2, rfl, rfl⟩) | (refine ⟨_, u8s_push acc u, ?_⟩) | (refine ⟨(by decide : (0 : Int) ≤ 1), ?_⟩) | (refine ⟨(by decide : (0 : Int) ≤ 63), ?_⟩) | (refine ⟨(by decide : (0 : Int) ≤ 7), ?_⟩) | (refine ⟨⟨by decide, rfl, rfl, roomB (by unfold u8s; rw [List.length_map]; omega)⟩, ?_⟩) | fail)) | ((with_reducible refine isCut ?_) <;> (first | refine ⟨⟨none⟩, ?_⟩)) | ((first | with_reducible refine isEx ?_ | with_reducible refine isAnd ?_ | with_reducible refine isOr ?_) <;> (first | (refine ⟨_, u8s_push acc u, ?_⟩) | (refine ⟨(by decide : (0 : Int) ≤ 1), ?_⟩) | (refine ⟨(by decide : (0 : Int) ≤ 63), ?_⟩) | (refine ⟨(by decide : (0 : Int) ≤ 7), ?_⟩) | (refine ⟨⟨by decide, rfl, rfl, roomB (by unfold u8s; rw [List.length_map]; omega)⟩, ?_⟩) | ((with_reducible refine isSmall ?_) <;> (refine ⟨?_, ?_⟩; kernel_rfl)) | refine ⟨rfl, ?_⟩ | refine ⟨Int.natCast_nonneg _, ?_⟩)) | with_reducible refine Both.mk ?_ ?_ | rintro _ rfl | exact rfl | (split <;> (rename_i h; first | (simp only [beq_self_eq_true, eq_self, decide_true, Bool.not_true, Bool.false_eq_true] at h; done) | (try rw [h])))))
  all_goals (conv => whnf)
  all_goals first
    | (have hu128 : ¬ u < 128 := by have := of_decide_eq_true h; omega
       have hf0 : 0 < f := by
         rcases Nat.eq_zero_or_pos f with e | e
         · subst e; simp at hu; omega
         · exact e
       refine ⟨⟨f - 1, u / 128, _, acc ++ [UInt8.ofNat (u % 128 + 128)], _, shift7 u, put_lt hf0 hu, by omega, by simp only [List.length_append, List.length_cons, List.length_nil]; omega, by rw [hu2, putU_more hf0 hu128, List.append_assoc]; rfl, or_push acc u, rfl⟩, ?_⟩
       show ((u : Int).fdiv (2 ^ min (Int.toNat 7) IntKind.u64.bits)).toNat < (u : Int).toNat
       rw [shift7]; omega)
    | (rw [hu2, putU_last (by have := of_decide_eq_false h; omega)]; exact ⟨rfl, rfl⟩)
    | trace_state
end Go.Pm.Try
/-
Numbers and texts as bytes: PutText.
-/
namespace Go.Pm.Try
open Go Go.Proofs
set_option linter.unusedVariables false
set_option linter.unusedSimpArgs false
set_option maxRecDepth 100000
theorem putU_len : ∀ (f u : Nat), (putU f u).length ≤ f + 1
  | 0, u => by simp [putU]
  | f + 1, u => by
    rw [putU]; split
    · simp
    · have := putU_len f (u / 128); simp only [List.length_cons]; omega
theorem putNum_len (n : Int) : (putNum n).length ≤ 10 := putU_len 9 _
theorem putU_ne (f u : Nat) : putU f u ≠ [] := by
  cases f with
  | zero => simp [putU]
  | succ f => rw [putU]; split <;> simp
theorem putNum_ne (n : Int) : putNum n ≠ [] := putU_ne 9 _
def putText (t : List UInt8) : List UInt8 := match decide ((t.length : Int) > 20000) with | true => [] | false => putNum t.length ++ t
theorem putText_len (t : List UInt8) : (putText t).length ≤ 20010 := by
  unfold putText
  split
  · simp
  · rename_i h
    have h := of_decide_eq_false h
    have := putNum_len t.length
    rw [List.length_append]; omega
theorem putText_long {t : List UInt8} (h : decide ((t.length : Int) > 20000) = true) : putText t = [] := by simp only [putText, h]
theorem putText_short {t : List UInt8} (h : decide ((t.length : Int) > 20000) = false) : putText t = putNum t.length ++ t := by simp only [putText, h]
theorem text_sum {x y : List UInt8} {a b : Nat} (h1 : x.length ≤ a) (h2 : y.length ≤ b) (h : a + b ≤ 9223372036854775807) : ((x.length + y.length : Nat) : Int) ≤ 9223372036854775807 := by omega
def strB (l : List UInt8) : D := .s l
theorem isLongs (ls : List (List UInt8)) (hs : ls.length ≤ maxLen) : Ent Try.prog 35 [.d (.sl false (ls.map strB))] [] (.d (.b (ls.any fun l => decide ((l.length : Int) > 20000)))) [] := by
  obtain ⟨u, hu⟩ : ∃ u, u = ls.any fun l => decide ((l.length : Int) > 20000) := ⟨_, rfl⟩
  rw [← hu]
  refine ent_of tok mixed (f := 35) Try.func35 (by kernel_rfl) (keep := false) ?_
  repeat' ((conv => whnf) <;> (first | ((with_reducible refine isCall ?_) <;> (first | (obtain ⟨t, ht⟩ := get_ex (ss := ls) (k := k) (lt_of_dec (by assumption)); refine ⟨_, get_map' ht, ?_⟩) | exact ⟨rfl, ⟨k + 1, _, step_up (get_lt ht) hs, get_lt ht, any_up' ht hv (by assumption), rfl⟩, mu_up (get_lt ht) hs⟩ | fail)) | ((with_reducible refine isLoop ?_) <;> (first | (refine ⟨[7, 6, 5], [], fun s => ∃ (k : Nat) (n : Int), n = k ∧ k ≤ ls.length ∧ (ls.take k).any (fun l => decide ((l.length : Int) > 20000)) = false ∧ s = ⟨[(7, .d (.i .i64 n)), (6, .d (.i .i64 ((ls.map strB).length : Int))), (5, .d (.sl false (ls.map strB)))], []⟩, fun s => match look 7 s.env with | some (.d (.i _ n)) => ls.length - n.toNat | _ => 0, rfl, ⟨0, _, rfl, Nat.zero_le _, rfl, rfl⟩, ?_⟩; rintro s ⟨k, n, rfl, hk, hv, rfl⟩) | (obtain ⟨t, ht⟩ := get_ex (ss := ls) (k := k) (lt_of_dec (by assumption)); refine ⟨_, get_map' ht, ?_⟩) | exact ⟨rfl, ⟨k + 1, _, step_up (get_lt ht) hs, get_lt ht, any_up' ht hv (by assumption), rfl⟩, mu_up (get_lt ht) hs⟩ | fail)) | ((with_reducible refine isCut ?_) <;> (first | refine ⟨⟨none⟩, ?_⟩)) | ((first | with_reducible refine isEx ?_ | with_reducible refine isAnd ?_ | with_reducible refine isOr ?_) <;> (first | (obtain ⟨t, ht⟩ := get_ex (ss := ls) (k := k) (lt_of_dec (by assumption)); refine ⟨_, get_map' ht, ?_⟩) | exact ⟨rfl, ⟨k + 1, _, step_up (get_lt ht) hs, get_lt ht, any_up' ht hv (by assumption), rfl⟩, mu_up (get_lt ht) hs⟩ | ((with_reducible refine isSmall ?_) <;> (refine ⟨?_, ?_⟩; kernel_rfl)) | refine ⟨rfl, ?_⟩ | refine ⟨Int.natCast_nonneg _, ?_⟩)) | with_reducible refine Both.mk ?_ ?_ | rintro _ rfl | exact rfl | (split <;> (rename_i h; first | (simp only [beq_self_eq_true, eq_self, decide_true, Bool.not_true, Bool.false_eq_true] at h; done) | (try rw [h])))))
  all_goals (conv => whnf)
  · refine ⟨congrArg (fun b => AV.d (D.b b)) ?_, rfl⟩
    rw [hu]; symm
    rw [List.any_eq_true]
    exact ⟨t, get_mem ht, h⟩
  · refine ⟨congrArg (fun b => AV.d (D.b b)) ?_, rfl⟩
    have e : k = ls.length := by have := of_decide_eq_false h; rw [List.length_map] at this; omega
    rw [e, List.take_length] at hv
    rw [hu, hv]
theorem isLong1 (l : List UInt8) : Ent Try.prog 35 [.d (.sl false [.s l])] [] (.d (.b (decide ((l.length : Int) > 20000)))) [] := by
  have h := isLongs [l] (Nat.le_of_ble_eq_true rfl)
  simp only [List.any_cons, List.any_nil, Bool.or_false] at h
  exact h
theorem specPutText (l : List UInt8) (hl : l.length ≤ 9223372036854775807) : Ent Try.prog 25 [.d (.s l)] [] (.d (.s (putText l))) [] := by
  obtain ⟨o, ho⟩ : ∃ o, o = putText l := ⟨_, rfl⟩
  rw [← ho]
  have c1 := specPutNum (l.length : Int) (by omega) (by omega)
  have h10 := putNum_len (l.length : Int)
  refine ent_of tok mixed (f := 25) Try.func25 (by kernel_rfl) (keep := false) ?_
  repeat' ((conv => whnf) <;> (first | ((with_reducible refine isCall ?_) <;> (first | (refine ⟨_, c1, ?_⟩; rintro _ _ ⟨rfl, rfl⟩) | (refine ⟨text_sum (a := 10) (b := 20000) h10 (by have := of_decide_eq_false h; omega) (by decide), ?_⟩) | fail)) | ((with_reducible refine isCut ?_) <;> (first | refine ⟨⟨none⟩, ?_⟩)) | ((first | with_reducible refine isEx ?_ | with_reducible refine isAnd ?_ | with_reducible refine isOr ?_) <;> (first | (refine ⟨text_sum (a := 10) (b := 20000) h10 (by have := of_decide_eq_false h; omega) (by decide), ?_⟩) | ((with_reducible refine isSmall ?_) <;> (refine ⟨?_, ?_⟩; kernel_rfl)) | refine ⟨rfl, ?_⟩ | refine ⟨Int.natCast_nonneg _, ?_⟩)) | with_reducible refine Both.mk ?_ ?_ | rintro _ rfl | exact rfl | (split <;> (rename_i h; first | (simp only [beq_self_eq_true, eq_self, decide_true, Bool.not_true, Bool.false_eq_true] at h; done) | (try rw [h])))))
  all_goals (conv => whnf)
  · exact ⟨congrArg (fun t => AV.d (D.s t)) (by rw [ho, putText_long h]), rfl⟩
  · exact ⟨congrArg (fun t => AV.d (D.s t)) (by rw [ho, putText_short h]), rfl⟩
theorem implPutText (l : List UInt8) (hl : l.length ≤ 9223372036854775807) : Ent Try.prog 19 [.d (.s l)] [] (.d (.s (putText l))) [] := by
  obtain ⟨o, ho⟩ : ∃ o, o = putText l := ⟨_, rfl⟩
  rw [← ho]
  have c0 := isLong1 l
  have c1 := implPutNum (l.length : Int) (by omega) (by omega)
  have h10 := putNum_len (l.length : Int)
  refine ent_of tok mixed (f := 19) Try.func19 (by kernel_rfl) (keep := false) ?_
  repeat' ((conv => whnf) <;> (first | ((with_reducible refine isCall ?_) <;> (first | (refine ⟨_, c0, ?_⟩; rintro _ _ ⟨rfl, rfl⟩) | (refine ⟨_, c1, ?_⟩; rintro _ _ ⟨rfl, rfl⟩) | (refine ⟨text_sum (a := 10) (b := 20000) h10 (by have := of_decide_eq_false h; omega) (by decide), ?_⟩) | fail)) | ((with_reducible refine isCut ?_) <;> (first | refine ⟨⟨none⟩, ?_⟩)) | ((first | with_reducible refine isEx ?_ | with_reducible refine isAnd ?_ | with_reducible refine isOr ?_) <;> (first | (refine ⟨text_sum (a := 10) (b := 20000) h10 (by have := of_decide_eq_false h; omega) (by decide), ?_⟩) | ((with_reducible refine isSmall ?_) <;> (refine ⟨?_, ?_⟩; kernel_rfl)) | refine ⟨rfl, ?_⟩ | refine ⟨Int.natCast_nonneg _, ?_⟩)) | with_reducible refine Both.mk ?_ ?_ | rintro _ rfl | exact rfl | (split <;> (rename_i h; first | (simp only [beq_self_eq_true, eq_self, decide_true, Bool.not_true, Bool.false_eq_true] at h; done) | (try rw [h])))))
  all_goals (conv => whnf)
  · exact ⟨congrArg (fun t => AV.d (D.s t)) (by rw [ho, putText_long h]), rfl⟩
  · exact ⟨congrArg (fun t => AV.d (D.s t)) (by rw [ho, putText_short h]), rfl⟩
end Go.Pm.Try
