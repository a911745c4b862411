/-
Draws from bytes: steps and defs.
-/
import Derived.Test.YtbenanocioeglaaDr
namespace Go.Pm.Try
open Go Go.Proofs
set_option linter.unusedVariables false
set_option linter.unusedSimpArgs false
set_option maxRecDepth 100000
theorem u8s_byteB (x : Int) : [D.i .u8 (IntKind.u8.wrap x)] = u8s [UInt8.ofNat (IntKind.u8.wrap x).toNat] := by
  have h : 0 ≤ IntKind.u8.wrap x ∧ IntKind.u8.wrap x < 256 := by
    simp only [IntKind.wrap, IntKind.signed, IntKind.bits, Bool.false_and, Bool.false_eq_true, if_false]
    omega
  show _ = [D.i .u8 ((UInt8.ofNat (IntKind.u8.wrap x).toNat).toNat : Int)]
  rw [UInt8.toNat_ofNat', Nat.mod_eq_of_lt (by omega : (IntKind.u8.wrap x).toNat < 2 ^ 8), Int.toNat_of_nonneg h.1]
theorem sum_rfl {x y : List UInt8} (h : Nat.ble (x.length + y.length) 1000000 = true) : ((x.length + y.length : Nat) : Int) ≤ 9223372036854775807 := by
  have := Nat.le_of_ble_eq_true h
  omega
/-- A step of short texts. -/
structure StepIn (x : Step) : Prop where
  name : x.name.length ≤ 20
  act : x.act.length ≤ 20
  undo : x.undo.length ≤ 20
theorem StepIn.fits {x : Step} (h : StepIn x) : x.fits := by
  have hm : maxLen = 9223372036854775807 := rfl
  exact ⟨by have := h.name; omega, by have := h.act; omega, by have := h.undo; omega⟩
def DrawStep (b : List UInt8) (z : Int) (R : AV) (O : List Ob) : Prop := ∃ (x : Step) (k m : Int), R = .d (stepD x) ∧ O = [.var (srcC b z k m)] ∧ SrcOk b z k ∧ StepIn x
theorem names_pick {b : List UInt8} {z k m : Int} (hs : SrcOk b z k) {xs : List D} (hx : textsB 20 xs = true) (hl : (Nat.ble 1 xs.length && Nat.ble xs.length 1000) = true) : EntQ Try.prog 115 [.ptr 0 0, .d (.sl false xs)] [.var (srcC b z k m)] (DrawS b z 20) := by
  rw [Bool.and_eq_true] at hl
  exact srcPick hs xs 20 hx (Nat.le_of_ble_eq_true hl.1) (Nat.le_of_ble_eq_true hl.2)
/-- Where a step is drawn, but for its Undo. -/
inductive StepMid (b : List UInt8) (z : Int) (st : St) : Prop
  | mk (t0 t1 : List UInt8) (r1 r2 r3 k m : Int) (h0 : t0.length ≤ 20) (h1 : t1.length ≤ 20) (hs : SrcOk b z k)
      (e : st = ⟨[(0, .ptr 0 0), (4, .ptr 10004 0), (5, .ptr 10005 0)], [(0, .var (srcC b z k m)), (10004, .var [.d (.s []), .d (.s []), .d (.s []), .d (.i .i64 0), .d (.i .i64 0), .d (.i .i64 0)]), (10005, .var [.d (.s t0), .d (.s t1), .d (.s []), .d (.i .i64 r1), .d (.i .i64 r2), .d (.i .i64 r3)])]⟩)
set_option maxHeartbeats 16000000 in
theorem srcStep {b : List UInt8} {z k m : Int} (hs : SrcOk b z k) (i : Int) : EntQ Try.prog 100 [.ptr 0 0, .d (.i .i64 i)] [.var (srcC b z k m)] (DrawStep b z) := by
  cases b with
  | nil =>
    refine ent_of tok mixed (f := 100) Try.func100 (by kernel_rfl) (keep := false) ?_
    repeat' ((conv => whnf) <;> (first | ((with_reducible refine isCall ?_) <;> (first | (refine ⟨_, names_pick (m := m) hs rfl rfl, ?_⟩; rintro _ _ ⟨t1, k1, m1, rfl, rfl, hs1, hl1⟩) | (refine ⟨_, srcN (m := m1) hs1 3 (by decide), ?_⟩; rintro _ _ ⟨r1, k2, m2, rfl, rfl, hs2, hr1⟩) | (refine ⟨_, srcN (m := m2) hs2 5 (by decide), ?_⟩; rintro _ _ ⟨r2, k3, m3, rfl, rfl, hs3, hr2⟩) | (refine ⟨_, srcN (m := m3) hs3 9 (by decide), ?_⟩; rintro _ _ ⟨r3, k4, m4, rfl, rfl, hs4, hr3⟩) | (refine ⟨_, srcOne (m := m4) hs4 3 (by decide), ?_⟩; rintro _ _ ⟨b5, k5, m5, rfl, rfl, hs5⟩) | (refine ⟨_, names_pick (m := m5) hs5 rfl rfl, ?_⟩; rintro _ _ ⟨t6, k6, m6, rfl, rfl, hs6, hl6⟩) | (refine ⟨_, u8s_byteB _, ?_⟩) | (refine ⟨sum_rfl rfl, ?_⟩) | exact ⟨⟨t0, t1, t6, _, _, _⟩, k6, m6, rfl, rfl, hs6, ⟨hl0, hl1, hl6⟩⟩ | exact ⟨⟨t0, t1, [], _, _, _⟩, k5, m5, rfl, rfl, hs5, ⟨hl0, hl1, Nat.zero_le _⟩⟩ | fail)) | ((with_reducible refine isCut ?_) <;> (first | (refine ⟨(⟨some ([0, 4, 5], [0, 10004, 10005], StepMid ([]) z)⟩ : Cut 1), ?_, ?_⟩) | refine ⟨⟨none⟩, ?_⟩)) | ((first | with_reducible refine isEx ?_ | with_reducible refine isAnd ?_ | with_reducible refine isOr ?_) <;> (first | (refine ⟨_, u8s_byteB _, ?_⟩) | (refine ⟨sum_rfl rfl, ?_⟩) | exact ⟨⟨t0, t1, t6, _, _, _⟩, k6, m6, rfl, rfl, hs6, ⟨hl0, hl1, hl6⟩⟩ | exact ⟨⟨t0, t1, [], _, _, _⟩, k5, m5, rfl, rfl, hs5, ⟨hl0, hl1, Nat.zero_le _⟩⟩ | ((with_reducible refine isSmall ?_) <;> (refine ⟨?_, ?_⟩; kernel_rfl)) | refine ⟨rfl, ?_⟩ | refine ⟨Int.natCast_nonneg _, ?_⟩)) | with_reducible refine Both.mk ?_ ?_ | (rintro _ ⟨t0, t1, r1, r2, r3, k4, m4, hl0, hl1, hs4, rfl⟩) | exact StepMid.mk (115 :: [UInt8.ofNat (IntKind.u8.wrap (IntKind.i64.wrap (48 + i))).toNat]) t1 (IntKind.i64.wrap (1 + r1)) r2 (IntKind.i64.wrap (1 + r3)) k4 m4 (Nat.le_of_ble_eq_true rfl) hl1 hs4 (by kernel_rfl) | rintro _ rfl | exact rfl | (split <;> (rename_i h; first | (simp only [beq_self_eq_true, eq_self, decide_true, Bool.not_true, Bool.false_eq_true] at h; done) | (try rw [h])))))
    all_goals (with_reducible trace_state)
  | cons c b =>
    refine ent_of tok mixed (f := 100) Try.func100 (by kernel_rfl) (keep := false) ?_
    repeat' ((conv => whnf) <;> (first | ((with_reducible refine isCall ?_) <;> (first | (refine ⟨_, names_pick (m := m) hs rfl rfl, ?_⟩; rintro _ _ ⟨t1, k1, m1, rfl, rfl, hs1, hl1⟩) | (refine ⟨_, srcN (m := m1) hs1 3 (by decide), ?_⟩; rintro _ _ ⟨r1, k2, m2, rfl, rfl, hs2, hr1⟩) | (refine ⟨_, srcN (m := m2) hs2 5 (by decide), ?_⟩; rintro _ _ ⟨r2, k3, m3, rfl, rfl, hs3, hr2⟩) | (refine ⟨_, srcN (m := m3) hs3 9 (by decide), ?_⟩; rintro _ _ ⟨r3, k4, m4, rfl, rfl, hs4, hr3⟩) | (refine ⟨_, srcOne (m := m4) hs4 3 (by decide), ?_⟩; rintro _ _ ⟨b5, k5, m5, rfl, rfl, hs5⟩) | (refine ⟨_, names_pick (m := m5) hs5 rfl rfl, ?_⟩; rintro _ _ ⟨t6, k6, m6, rfl, rfl, hs6, hl6⟩) | (refine ⟨_, u8s_byteB _, ?_⟩) | (refine ⟨sum_rfl rfl, ?_⟩) | exact ⟨⟨t0, t1, t6, _, _, _⟩, k6, m6, rfl, rfl, hs6, ⟨hl0, hl1, hl6⟩⟩ | exact ⟨⟨t0, t1, [], _, _, _⟩, k5, m5, rfl, rfl, hs5, ⟨hl0, hl1, Nat.zero_le _⟩⟩ | fail)) | ((with_reducible refine isCut ?_) <;> (first | (refine ⟨(⟨some ([0, 4, 5], [0, 10004, 10005], StepMid (c :: b) z)⟩ : Cut 1), ?_, ?_⟩) | refine ⟨⟨none⟩, ?_⟩)) | ((first | with_reducible refine isEx ?_ | with_reducible refine isAnd ?_ | with_reducible refine isOr ?_) <;> (first | (refine ⟨_, u8s_byteB _, ?_⟩) | (refine ⟨sum_rfl rfl, ?_⟩) | exact ⟨⟨t0, t1, t6, _, _, _⟩, k6, m6, rfl, rfl, hs6, ⟨hl0, hl1, hl6⟩⟩ | exact ⟨⟨t0, t1, [], _, _, _⟩, k5, m5, rfl, rfl, hs5, ⟨hl0, hl1, Nat.zero_le _⟩⟩ | ((with_reducible refine isSmall ?_) <;> (refine ⟨?_, ?_⟩; kernel_rfl)) | refine ⟨rfl, ?_⟩ | refine ⟨Int.natCast_nonneg _, ?_⟩)) | with_reducible refine Both.mk ?_ ?_ | (rintro _ ⟨t0, t1, r1, r2, r3, k4, m4, hl0, hl1, hs4, rfl⟩) | exact StepMid.mk (115 :: [UInt8.ofNat (IntKind.u8.wrap (IntKind.i64.wrap (48 + i))).toNat]) t1 (IntKind.i64.wrap (1 + r1)) r2 (IntKind.i64.wrap (1 + r3)) k4 m4 (Nat.le_of_ble_eq_true rfl) hl1 hs4 (by kernel_rfl) | rintro _ rfl | exact rfl | (split <;> (rename_i h; first | (simp only [beq_self_eq_true, eq_self, decide_true, Bool.not_true, Bool.false_eq_true] at h; done) | (try rw [h])))))
    all_goals (with_reducible trace_state)
end Go.Pm.Try
