/-
Numbers as bytes: plain laws (for PutNum).
-/
import Derived.Test.YtbenanocioeglaaPmLb
namespace Go.Pm
open Go
set_option linter.unusedVariables false
theorem bit_or128 {c : Nat} (hc : c < 256) : bitD .u8 (· ||| ·) (c : Int) 128 = .i .u8 ((c % 128 + 128 : Nat) : Int) := by
  have h : (BitVec.ofInt 8 (c : Int) ||| BitVec.ofInt 8 128).toNat = c % 128 + 128 := by
    rw [ofInt_nat, show BitVec.ofInt 8 128 = BitVec.ofNat 8 128 from rfl, BitVec.toNat_or, BitVec.toNat_ofNat, BitVec.toNat_ofNat, Nat.mod_eq_of_lt hc]
    have hall : ∀ c, c < 256 → c ||| 128 % 2 ^ 8 = c % 128 + 128 := by decide +kernel
    exact hall c hc
  show D.i .u8 (IntKind.u8.wrap ((BitVec.ofInt 8 (c : Int) ||| BitVec.ofInt 8 128).toNat : Int)) = _
  rw [h, wrap_u8_nat (by omega)]
theorem bit_xor0u {x : Nat} (hx : x < 18446744073709551616) : bitD .u64 (· ^^^ ·) (x : Int) 0 = .i .u64 (x : Int) := by
  have h : (BitVec.ofInt 64 (x : Int) ^^^ BitVec.ofInt 64 0).toNat = x := by
    rw [ofInt_nat, show BitVec.ofInt 64 0 = BitVec.ofNat 64 0 from rfl, BitVec.toNat_xor, BitVec.toNat_ofNat, BitVec.toNat_ofNat, Nat.mod_eq_of_lt (by omega)]
    simp
  show D.i .u64 (IntKind.u64.wrap ((BitVec.ofInt 64 (x : Int) ^^^ BitVec.ofInt 64 0).toNat : Int)) = _
  rw [h, wrap_u64_nat hx]
theorem bit_xor1u {x : Nat} (hx : x < 18446744073709551616) : bitD .u64 (· ^^^ ·) (x : Int) 18446744073709551615 = .i .u64 ((18446744073709551615 - x : Nat) : Int) := by
  have h : (BitVec.ofInt 64 (x : Int) ^^^ BitVec.ofInt 64 18446744073709551615).toNat = 18446744073709551615 - x := by
    rw [ofInt_nat, show BitVec.ofInt 64 18446744073709551615 = BitVec.allOnes 64 from by decide, BitVec.xor_allOnes, BitVec.toNat_not, BitVec.toNat_ofNat, Nat.mod_eq_of_lt (by omega)]
  show D.i .u64 (IntKind.u64.wrap ((BitVec.ofInt 64 (x : Int) ^^^ BitVec.ofInt 64 18446744073709551615).toNat : Int)) = _
  rw [h, wrap_u64_nat (by omega)]
/-- The bytes of a folded number. -/
def putU : Nat → Nat → List UInt8
  | 0, u => [UInt8.ofNat u]
  | f + 1, u => if u < 128 then [UInt8.ofNat u] else UInt8.ofNat (u % 128 + 128) :: putU f (u / 128)
def foldU (n : Int) : Nat := if n < 0 then (-2 * n - 1).toNat else (2 * n).toNat
end Go.Pm
