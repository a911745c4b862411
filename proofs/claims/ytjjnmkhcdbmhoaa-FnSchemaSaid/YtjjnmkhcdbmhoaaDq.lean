import Derived.Test.YtjjnmkhcdbmhoaaDr
namespace Go.Pm.Try
open Go Go.Proofs
set_option linter.unusedVariables false
set_option linter.unusedSimpArgs false
set_option maxRecDepth 100000
theorem u8s_byteB (x : Int) : [D.i .u8 (IntKind.u8.wrap x)] = u8s [UInt8.ofNat (IntKind.u8.wrap x).toNat] := by
  have h : 0 ≤ IntKind.u8.wrap x ∧ IntKind.u8.wrap x < 256 := by
    simp only [IntKind.wrap, IntKind.signed, IntKind.bits, Bool.false_and, Bool.false_eq_true, if_false]
    omega
  show _ = [D.i .u8 ((UInt8.ofNat (IntKind.u8.wrap x).toNat).toNat : Int)]
  rw [UInt8.toNat_ofNat', Nat.mod_eq_of_lt (by omega : (IntKind.u8.wrap x).toNat < 2 ^ 8), Int.toNat_of_nonneg h.1]
theorem sum_rfl {x y : List UInt8} (h : Nat.ble (x.length + y.length) 1000000 = true) : ((x.length + y.length : Nat) : Int) ≤ 9223372036854775807 := by
  have := Nat.le_of_ble_eq_true h
  omega
theorem names_pick {b : List UInt8} {z k m : Int} (hs : SrcOk b z k) {xs : List D} (hx : textsB 20 xs = true) (hl : (Nat.ble 1 xs.length && Nat.ble xs.length 1000) = true) : EntQ Try.prog 47 [.ptr 0 0, .d (.sl false xs)] [.var (srcC b z k m)] (DrawS b z 20) := by
  rw [Bool.and_eq_true] at hl
  exact srcPick hs xs 20 hx (Nat.le_of_ble_eq_true hl.1) (Nat.le_of_ble_eq_true hl.2)
end Go.Pm.Try
