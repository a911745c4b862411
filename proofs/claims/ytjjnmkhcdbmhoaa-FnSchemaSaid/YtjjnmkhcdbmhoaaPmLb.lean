/-
A walk of Go's code over values: bits.
-/
import Derived.Test.YtjjnmkhcdbmhoaaPmLa
import Derived.Laws.BitsLemmas
namespace Go.Pm
open Go
set_option maxRecDepth 100000
theorem ofInt_nat (n : Nat) {w : Nat} : BitVec.ofInt w (n : Int) = BitVec.ofNat w n := by
  apply BitVec.eq_of_toNat_eq
  simp [BitVec.toNat_ofNat]
theorem wrap_u64_nat {n : Nat} (h : n < 18446744073709551616) : IntKind.u64.wrap (n : Int) = n := by
  simp only [IntKind.wrap, IntKind.signed, IntKind.bits, Bool.false_and, Bool.false_eq_true, if_false]
  omega
theorem wrap_u8_nat {n : Nat} (h : n < 256) : IntKind.u8.wrap (n : Int) = n := by
  simp only [IntKind.wrap, IntKind.signed, IntKind.bits, Bool.false_and, Bool.false_eq_true, if_false]
  omega
theorem bit_or {u s : Nat} (hu : u < 18446744073709551616) (hs : s < 18446744073709551616) : bitD .u64 (· ||| ·) (u : Int) (s : Int) = .i .u64 ((u ||| s : Nat) : Int) := by
  have h : (BitVec.ofInt 64 (u : Int) ||| BitVec.ofInt 64 (s : Int)).toNat = u ||| s := by
    rw [ofInt_nat, ofInt_nat, BitVec.toNat_or, BitVec.toNat_ofNat, BitVec.toNat_ofNat, Nat.mod_eq_of_lt hu, Nat.mod_eq_of_lt hs]
  show D.i .u64 (IntKind.u64.wrap ((BitVec.ofInt 64 (u : Int) ||| BitVec.ofInt 64 (s : Int)).toNat : Int)) = _
  rw [h, wrap_u64_nat (Nat.or_lt_two_pow (n := 64) hu hs)]
theorem bit_and7 {c : Nat} (hc : c < 256) : bitD .u8 (· &&& ·) (c : Int) 127 = .i .u8 ((c % 128 : Nat) : Int) := by
  have h : (BitVec.ofInt 8 (c : Int) &&& BitVec.ofInt 8 127).toNat = c % 128 := by
    rw [ofInt_nat, show BitVec.ofInt 8 127 = BitVec.ofNat 8 127 from rfl, BitVec.toNat_and, BitVec.toNat_ofNat, BitVec.toNat_ofNat, Nat.mod_eq_of_lt hc]
    exact Nat.and_two_pow_sub_one_eq_mod c 7
  show D.i .u8 (IntKind.u8.wrap ((BitVec.ofInt 8 (c : Int) &&& BitVec.ofInt 8 127).toNat : Int)) = _
  rw [h, wrap_u8_nat (by omega)]
theorem bit_and1 {u : Nat} (hu : u < 18446744073709551616) : bitD .u64 (· &&& ·) (u : Int) 1 = .i .u64 ((u % 2 : Nat) : Int) := by
  have h : (BitVec.ofInt 64 (u : Int) &&& BitVec.ofInt 64 1).toNat = u % 2 := by
    rw [ofInt_nat, show BitVec.ofInt 64 1 = BitVec.ofNat 64 1 from rfl, BitVec.toNat_and, BitVec.toNat_ofNat, BitVec.toNat_ofNat, Nat.mod_eq_of_lt hu]
    exact Nat.and_two_pow_sub_one_eq_mod u 1
  show D.i .u64 (IntKind.u64.wrap ((BitVec.ofInt 64 (u : Int) &&& BitVec.ofInt 64 1).toNat : Int)) = _
  rw [h, wrap_u64_nat (by omega)]
theorem bit_xor0 {x : Nat} (hx : x < 9223372036854775808) : bitD .i64 (· ^^^ ·) (x : Int) 0 = .i .i64 (x : Int) := by
  have h : (BitVec.ofInt 64 (x : Int) ^^^ BitVec.ofInt 64 0).toNat = x := by
    rw [ofInt_nat, show BitVec.ofInt 64 0 = BitVec.ofNat 64 0 from rfl, BitVec.toNat_xor, BitVec.toNat_ofNat, BitVec.toNat_ofNat, Nat.mod_eq_of_lt (by omega)]
    simp
  show D.i .i64 (IntKind.i64.wrap ((BitVec.ofInt 64 (x : Int) ^^^ BitVec.ofInt 64 0).toNat : Int)) = _
  rw [h, IntKind.wrap_i64]
  exact congrArg (D.i .i64) (by omega)
theorem bit_xor1 {x : Nat} (hx : x < 9223372036854775808) : bitD .i64 (· ^^^ ·) (x : Int) (-1) = .i .i64 (-(x : Int) - 1) := by
  have h : (BitVec.ofInt 64 (x : Int) ^^^ BitVec.ofInt 64 (-1)).toNat = 18446744073709551615 - x := by
    rw [ofInt_nat, show BitVec.ofInt 64 (-1) = BitVec.allOnes 64 from by decide, BitVec.xor_allOnes, BitVec.toNat_not, BitVec.toNat_ofNat, Nat.mod_eq_of_lt (by omega)]
  show D.i .i64 (IntKind.i64.wrap ((BitVec.ofInt 64 (x : Int) ^^^ BitVec.ofInt 64 (-1)).toNat : Int)) = _
  rw [h, IntKind.wrap_i64]
  exact congrArg (D.i .i64) (by omega)
theorem or_shift {u c n : Nat} (hu : u < 2 ^ n) : u ||| (c * 2 ^ n) = u + c * 2 ^ n := by
  rw [Nat.or_comm, Nat.mul_comm, ← Nat.two_pow_add_eq_or_of_lt hu, Nat.add_comm]
end Go.Pm
