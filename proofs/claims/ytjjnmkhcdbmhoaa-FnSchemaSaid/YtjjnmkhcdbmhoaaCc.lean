import Derived.Test.YtjjnmkhcdbmhoaaCa
namespace Go.Pm.Try
open Go Go.Proofs
set_option linter.unusedVariables false
set_option linter.unusedSimpArgs false
set_option maxRecDepth 100000
/-! Numbers in a text. -/
structure NumOut where
  n : Int
  pos : Int
  code : Int
def numD (o : NumOut) : D := .agg [.i .i64 o.n, .i .i64 o.pos, .i .i64 o.code]
def zig (u : Nat) : Int := if u % 2 = 1 then -((u / 2 : Nat) : Int) - 1 else ((u / 2 : Nat) : Int)
def byteAt (l : List UInt8) (k : Int) : Nat := (l.getD k.toNat 0).toNat
theorem byteAt_lt (l : List UInt8) (k : Int) : byteAt l k < 256 := (l.getD k.toNat 0).toNat_lt
def numGo (l : List UInt8) (a : Int) : Nat → Nat → Nat → NumOut
  | 0, _, _ => ⟨0, 0, 3⟩
  | f + 1, i, u =>
    if a ≥ (l.length : Int) - i then ⟨0, 0, 4⟩
    else if i = 9 ∧ byteAt l (a + i) > 1 then ⟨0, 0, 3⟩
    else if byteAt l (a + i) ≥ 128 then numGo l a f (i + 1) (u + byteAt l (a + i) % 128 * 2 ^ (7 * i))
    else if byteAt l (a + i) = 0 ∧ i > 0 then ⟨0, 0, 3⟩
    else ⟨zig (u + byteAt l (a + i) % 128 * 2 ^ (7 * i)), a + i + 1, 0⟩
def numM (l : List UInt8) (a : Int) : NumOut := if a < 0 then ⟨0, 0, 1⟩ else numGo l a 10 0 0
theorem sum_lt {u c i : Nat} (hu : u < 2 ^ (7 * i)) : u + c % 128 * 2 ^ (7 * i) < 2 ^ (7 * (i + 1)) := by
  have h1 : c % 128 ≤ 127 := by omega
  have h2 : c % 128 * 2 ^ (7 * i) ≤ 127 * 2 ^ (7 * i) := Nat.mul_le_mul_right _ h1
  have h3 : 2 ^ (7 * (i + 1)) = 128 * 2 ^ (7 * i) := by rw [show 7 * (i + 1) = 7 + 7 * i by omega, Nat.pow_add]
  omega
theorem sum_lt64 {u c i : Nat} (hu : u < 2 ^ (7 * i)) (hi : i ≤ 9) (hc : ¬ (i = 9 ∧ c > 1)) : u + c % 128 * 2 ^ (7 * i) < 18446744073709551616 ∧ c % 128 * 2 ^ (7 * i) < 18446744073709551616 := by
  by_cases h9 : i = 9
  · subst h9
    have : c % 128 ≤ 1 := by omega
    have h2 : c % 128 * 2 ^ (7 * 9) ≤ 1 * 2 ^ (7 * 9) := Nat.mul_le_mul_right _ this
    omega
  · have h1 := sum_lt (c := c) hu
    have h3 : 2 ^ (7 * (i + 1)) ≤ 2 ^ 63 := Nat.pow_le_pow_right (by omega) (by omega)
    omega
theorem len_wrap {l : List UInt8} {k : Nat} (hl : l.length ≤ 20000) (hk : k ≤ 10) : IntKind.i64.wrap ((l.length : Int) - (k : Int)) = (l.length : Int) - k := wrap_i64_id _ (by omega) (by omega)
theorem at_wrap {l : List UInt8} {a : Int} {k : Nat} (hl : l.length ≤ 20000) (ha : 0 ≤ a) (hk : k ≤ 10) (h : decide (a ≥ IntKind.i64.wrap ((l.length : Int) - (k : Int))) = false) : IntKind.i64.wrap (a + (k : Int)) = a + k ∧ a + k < l.length := by
  have h := of_decide_eq_false h
  rw [len_wrap hl hk] at h
  exact ⟨wrap_i64_id _ (by omega) (by omega), by omega⟩
theorem at_need {l : List UInt8} {a : Int} {k : Nat} (hl : l.length ≤ 20000) (ha : 0 ≤ a) (hk : k ≤ 10) (h : decide (a ≥ IntKind.i64.wrap ((l.length : Int) - (k : Int))) = false) : 0 ≤ IntKind.i64.wrap (a + (k : Int)) ∧ IntKind.i64.wrap (a + (k : Int)) < l.length := by
  have h2 := at_wrap hl ha hk h
  rw [h2.1]; omega
theorem u64_nonneg (x : Int) : 0 ≤ IntKind.u64.wrap x := by rw [IntKind.wrap_u64]; omega
theorem byte_wrap (l : List UInt8) (k : Int) : IntKind.u64.wrap (((l.getD k.toNat 0).toNat : Nat) : Int) = (byteAt l k : Nat) := wrap_u64_nat (by have := byteAt_lt l k; unfold byteAt at this; omega)
theorem seven (k : Nat) (hk : k ≤ 10) : min (IntKind.u64.wrap (IntKind.i64.wrap (7 * (k : Int)))).toNat IntKind.u64.bits = 7 * k ∨ k = 10 := by
  by_cases h : k = 10
  · exact .inr h
  · left
    rw [wrap_i64_id _ (by omega) (by omega), show 7 * (k : Int) = ((7 * k : Nat) : Int) by omega, wrap_u64_nat (by omega)]
    show min (7 * k) 64 = 7 * k
    omega
theorem sumW {l : List UInt8} {b : Int} {k u : Nat} (hu : u < 2 ^ (7 * k)) (hk : k ≤ 9) (hc : ¬ (k = 9 ∧ byteAt l b > 1)) :
    IntKind.u64.wrap ((u : Int) + IntKind.u64.wrap ((IntKind.u64.wrap (((l.getD b.toNat 0).toNat : Nat) : Int)).tmod 128 * 2 ^ min (IntKind.u64.wrap (IntKind.i64.wrap (7 * (k : Int)))).toNat IntKind.u64.bits)) = ((u + byteAt l b % 128 * 2 ^ (7 * k) : Nat) : Int) := by
  have h7 : min (IntKind.u64.wrap (IntKind.i64.wrap (7 * (k : Int)))).toNat IntKind.u64.bits = 7 * k := (seven k (by omega)).resolve_right (by omega)
  obtain ⟨h1, h2⟩ := sum_lt64 hu hk hc
  rw [h7, byte_wrap, show ((byteAt l b : Nat) : Int).tmod 128 = ((byteAt l b % 128 : Nat) : Int) from rfl]
  rw [show ((byteAt l b % 128 : Nat) : Int) * 2 ^ (7 * k) = ((byteAt l b % 128 * 2 ^ (7 * k) : Nat) : Int) by push_cast; rfl]
  rw [wrap_u64_nat h2, ← Int.natCast_add, wrap_u64_nat h1]
theorem zig_odd {U : Nat} (h1 : U < 18446744073709551616) (h : (U : Int).tmod 2 = 1) : IntKind.i64.wrap (IntKind.i64.wrap (0 - IntKind.i64.wrap (IntKind.u64.wrap ((U : Int).tdiv 2))) - 1) = zig U := by
  have h : ((U % 2 : Nat) : Int) = 1 := h
  have e : (U : Int).tdiv 2 = ((U / 2 : Nat) : Int) := rfl
  have w1 : IntKind.i64.wrap ((U / 2 : Nat) : Int) = ((U / 2 : Nat) : Int) := wrap_i64_id _ (by omega) (by omega)
  have w2 : IntKind.i64.wrap (0 - ((U / 2 : Nat) : Int)) = 0 - ((U / 2 : Nat) : Int) := wrap_i64_id _ (by omega) (by omega)
  have w3 : IntKind.i64.wrap (0 - ((U / 2 : Nat) : Int) - 1) = 0 - ((U / 2 : Nat) : Int) - 1 := wrap_i64_id _ (by omega) (by omega)
  rw [e, wrap_u64_nat (by omega), w1, w2, w3, zig, if_pos (by omega)]
  omega
theorem zig_even {U : Nat} (h1 : U < 18446744073709551616) (h : ¬ (U : Int).tmod 2 = 1) : IntKind.i64.wrap (IntKind.u64.wrap ((U : Int).tdiv 2)) = zig U := by
  have h : ¬ ((U % 2 : Nat) : Int) = 1 := h
  have e : (U : Int).tdiv 2 = ((U / 2 : Nat) : Int) := rfl
  have w1 : IntKind.i64.wrap ((U / 2 : Nat) : Int) = ((U / 2 : Nat) : Int) := wrap_i64_id _ (by omega) (by omega)
  rw [e, wrap_u64_nat (by omega), w1, zig, if_neg (by omega)]
theorem at_up {l : List UInt8} {a : Int} {k : Nat} (hl : l.length ≤ 20000) (ha : 0 ≤ a) (h : a + (k : Int) < l.length) : IntKind.i64.wrap (a + (k : Int) + 1) = a + k + 1 := wrap_i64_id _ (by omega) (by omega)
/-- One step of the reading. -/
theorem numGo_step (l : List UInt8) (a : Int) (k u : Nat) (hk : k ≤ 9) : numGo l a (10 - k) k u =
    if a ≥ (l.length : Int) - k then ⟨0, 0, 4⟩
    else if k = 9 ∧ byteAt l (a + k) > 1 then ⟨0, 0, 3⟩
    else if byteAt l (a + k) ≥ 128 then numGo l a (10 - (k + 1)) (k + 1) (u + byteAt l (a + k) % 128 * 2 ^ (7 * k))
    else if byteAt l (a + k) = 0 ∧ k > 0 then ⟨0, 0, 3⟩
    else ⟨zig (u + byteAt l (a + k) % 128 * 2 ^ (7 * k)), a + k + 1, 0⟩ := by
  rw [show 10 - k = (10 - (k + 1)) + 1 by omega]
  rfl
set_option maxHeartbeats 8000000 in
theorem specGetNum (l : List UInt8) (hl : l.length ≤ 20000) (a : Int) : Ent Try.prog 82 [.d (.s l), .d (.i .i64 a)] [] (.d (numD (numM l a))) [] := by
  obtain ⟨o, ho⟩ : ∃ o, o = numM l a := ⟨_, rfl⟩
  rw [← ho]
  refine ent_of tok mixed (f := 82) Try.func82 (by kernel_rfl) (keep := false) ?_
  repeat' ((conv => whnf) <;> (first | ((with_reducible refine isCall ?_) <;> (first | (refine ⟨at_need hl ha hk ?_, ?_⟩; · assumption) | refine ⟨(by decide : (128 : Int) ≠ 0), ?_⟩ | refine ⟨(by decide : (2 : Int) ≠ 0), ?_⟩ | refine ⟨u64_nonneg _, ?_⟩ | fail)) | ((with_reducible refine isLoop ?_) <;> (first | (refine ⟨[6, 5, 0, 1, 4], [10004], fun st => ∃ (k : Nat) (n v : Int) (u : Nat), n = k ∧ k ≤ 10 ∧ v = (u : Int) ∧ u < 2 ^ (7 * k) ∧ 0 ≤ a ∧ o = numGo l a (10 - k) k u ∧ st = ⟨[(6, .d (.i .i64 n)), (5, .d (.i .u64 v)), (0, .d (.s l)), (1, .d (.i .i64 a)), (4, .ptr 10004 0)], [(10004, .var (AV.d (numD ⟨0, 0, 0⟩)).cells)]⟩, fun st => match look 6 st.env with | some (.d (.i _ n)) => 10 - n.toNat | _ => 0, rfl, ⟨0, _, _, 0, rfl, Nat.zero_le _, rfl, by decide, Int.not_lt.1 (of_decide_eq_false (by assumption)), (by rw [ho, numM, if_neg (of_decide_eq_false (by assumption))]), rfl⟩, ?_⟩; rintro st ⟨k, n, v, u, rfl, hk, rfl, hu, ha, hgo, rfl⟩) | (refine ⟨at_need hl ha hk ?_, ?_⟩; · assumption) | refine ⟨(by decide : (128 : Int) ≠ 0), ?_⟩ | refine ⟨(by decide : (2 : Int) ≠ 0), ?_⟩ | refine ⟨u64_nonneg _, ?_⟩ | fail)) | ((with_reducible refine isCut ?_) <;> (first | refine ⟨⟨none⟩, ?_⟩)) | ((first | with_reducible refine isEx ?_ | with_reducible refine isAnd ?_ | with_reducible refine isOr ?_) <;> (first | (refine ⟨at_need hl ha hk ?_, ?_⟩; · assumption) | refine ⟨(by decide : (128 : Int) ≠ 0), ?_⟩ | refine ⟨(by decide : (2 : Int) ≠ 0), ?_⟩ | refine ⟨u64_nonneg _, ?_⟩ | ((with_reducible refine isSmall ?_) <;> (refine ⟨?_, ?_⟩; kernel_rfl)) | refine ⟨rfl, ?_⟩ | refine ⟨Int.natCast_nonneg _, ?_⟩)) | with_reducible refine Both.mk ?_ ?_ | rintro _ rfl | exact rfl | (split <;> (rename_i h; first | (simp only [beq_self_eq_true, eq_self, decide_true, Bool.not_true, Bool.false_eq_true] at h; done) | (try rw [h])))))
  all_goals (conv => whnf)
  · exfalso; have := of_decide_eq_true h; omega
  · refine ⟨congrArg (fun o => AV.d (numD o)) (?_ : (⟨0, 0, 1⟩ : NumOut) = o), rfl⟩
    rw [ho, numM, if_pos (of_decide_eq_true h)]
  · refine ⟨congrArg (fun o => AV.d (numD o)) (?_ : (⟨0, 0, 4⟩ : NumOut) = o), rfl⟩
    rename_i h9 _
    have h9 := of_decide_eq_true h9
    have h := of_decide_eq_true h
    rw [len_wrap hl hk] at h
    rw [hgo, numGo_step l a k u (by omega), if_pos h]
  rotate_right
  · refine ⟨congrArg (fun o => AV.d (numD o)) (?_ : (⟨0, 0, 3⟩ : NumOut) = o), rfl⟩
    have h := of_decide_eq_false h
    have e : k = 10 := by omega
    subst e
    rw [hgo]; rfl
  all_goals
    have e9 : k ≤ 9 := (by have := of_decide_eq_true (by assumption : decide ((k : Int) < 10) = true); omega)
    obtain ⟨e1, e2⟩ := at_wrap hl ha hk (by assumption)
    have e3 := at_up hl ha e2
    have hs := numGo_step l a k u e9
    rw [if_neg (by omega), ← hgo] at hs
    have hW := fun hc => sumW (l := l) (b := a + k) hu e9 hc
    simp only [e1, byte_wrap, decide_eq_true_eq, decide_eq_false_iff_not] at *
    simp only [e3] at *
    generalize byteAt l (a + (k : Int)) = c at *
    by_cases hc : k = 9 ∧ c > 1
    · rw [if_pos hc] at hs
      first
      | (rw [hs]; exact ⟨rfl, trivial⟩)
      | (exfalso; omega)
    · rw [if_neg hc] at hs
      have hW := hW hc
      obtain ⟨b1, _⟩ := sum_lt64 (c := c) hu e9 hc
      have b2 := sum_lt (c := c) hu
      generalize u + c % 128 * 2 ^ (7 * k) = U at *
      simp only [hW] at *
      first
      | (exfalso; omega)
      | (rw [if_neg (by omega), if_pos (by omega)] at hs; rw [hs]; exact ⟨rfl, trivial⟩)
      | (rw [if_neg (by omega), if_neg (by omega)] at hs; rw [zig_odd b1 h, hs]; exact ⟨rfl, trivial⟩)
      | (rw [if_neg (by omega), if_neg (by omega)] at hs; rw [zig_even b1 h, hs]; exact ⟨rfl, trivial⟩)
      | (rw [if_pos (by omega)] at hs
         refine ⟨⟨k + 1, _, _, U, step_up (n := 10) (by omega) (Nat.le_of_ble_eq_true rfl), by omega, rfl, b2, ha, hs, rfl⟩, ?_⟩
         exact mu_up (n := 10) (by omega) (Nat.le_of_ble_eq_true rfl))
end Go.Pm.Try
namespace Go.Pm.Try
open Go Go.Proofs
set_option linter.unusedVariables false
set_option linter.unusedSimpArgs false
set_option maxRecDepth 100000
theorem seven_need {k : Nat} (hk : k ≤ 10) : 0 ≤ IntKind.i64.wrap (7 * (k : Int)) := by rw [wrap_i64_id _ (by omega) (by omega)]; omega
theorem seven' (k : Nat) (hk : k ≤ 9) : min (IntKind.i64.wrap (7 * (k : Int))).toNat IntKind.u64.bits = 7 * k := by
  rw [wrap_i64_id _ (by omega) (by omega)]
  show min (7 * (k : Int)).toNat 64 = 7 * k
  omega
theorem and7 {c : Nat} (hc : c < 256) : IntKind.u8.wrap (((BitVec.ofInt IntKind.u8.bits (c : Int) &&& BitVec.ofInt IntKind.u8.bits 127).toNat : Nat) : Int) = ((c % 128 : Nat) : Int) := by
  have h := bit_and7 hc
  simp only [bitD] at h
  injection h
theorem and1 {u : Nat} (hu : u < 18446744073709551616) : IntKind.u64.wrap (((BitVec.ofInt IntKind.u64.bits (u : Int) &&& BitVec.ofInt IntKind.u64.bits 1).toNat : Nat) : Int) = ((u % 2 : Nat) : Int) := by
  have h := bit_and1 hu
  simp only [bitD] at h
  injection h
theorem or64 {u s : Nat} (hu : u < 18446744073709551616) (hs : s < 18446744073709551616) : IntKind.u64.wrap (((BitVec.ofInt IntKind.u64.bits (u : Int) ||| BitVec.ofInt IntKind.u64.bits (s : Int)).toNat : Nat) : Int) = ((u ||| s : Nat) : Int) := by
  have h := bit_or hu hs
  simp only [bitD] at h
  injection h
theorem sumO {c k u : Nat} (hb : c < 256) (hu : u < 2 ^ (7 * k)) (hk : k ≤ 9) (hc : ¬ (k = 9 ∧ c > 1)) :
    IntKind.u64.wrap (((BitVec.ofInt IntKind.u64.bits (u : Int) ||| BitVec.ofInt IntKind.u64.bits (IntKind.u64.wrap (IntKind.u64.wrap (IntKind.u8.wrap (((BitVec.ofInt IntKind.u8.bits (c : Int) &&& BitVec.ofInt IntKind.u8.bits 127).toNat : Nat) : Int)) * 2 ^ min (IntKind.i64.wrap (7 * (k : Int))).toNat IntKind.u64.bits))).toNat : Nat) : Int) = ((u + c % 128 * 2 ^ (7 * k) : Nat) : Int) := by
  obtain ⟨h1, h2⟩ := sum_lt64 hu hk hc
  rw [and7 hb, seven' k hk, wrap_u64_nat (n := c % 128) (by omega)]
  rw [show ((c % 128 : Nat) : Int) * 2 ^ (7 * k) = ((c % 128 * 2 ^ (7 * k) : Nat) : Int) by push_cast; rfl]
  rw [wrap_u64_nat h2, or64 (by omega) h2, or_shift hu]
theorem zigX {U : Nat} (h1 : U < 18446744073709551616) : bitD .i64 (fun x y => x ^^^ y) (IntKind.i64.wrap ((U : Int).fdiv (2 ^ min (Int.toNat 1) IntKind.u64.bits))) (IntKind.i64.wrap (0 - IntKind.i64.wrap (IntKind.u64.wrap (((BitVec.ofInt IntKind.u64.bits (U : Int) &&& BitVec.ofInt IntKind.u64.bits 1).toNat : Nat) : Int)))) = .i .i64 (zig U) := by
  have e : (U : Int).fdiv (2 ^ min (Int.toNat 1) IntKind.u64.bits) = ((U / 2 : Nat) : Int) := by
    rw [show (2 : Int) ^ min (Int.toNat 1) IntKind.u64.bits = 2 from rfl, Int.fdiv_eq_ediv_of_nonneg _ (by omega)]; omega
  have w1 : IntKind.i64.wrap ((U / 2 : Nat) : Int) = ((U / 2 : Nat) : Int) := wrap_i64_id _ (by omega) (by omega)
  have w2 : IntKind.i64.wrap ((U % 2 : Nat) : Int) = ((U % 2 : Nat) : Int) := wrap_i64_id _ (by omega) (by omega)
  have w3 : IntKind.i64.wrap (0 - ((U % 2 : Nat) : Int)) = 0 - ((U % 2 : Nat) : Int) := wrap_i64_id _ (by omega) (by omega)
  rw [e, and1 h1, w1, w2, w3]
  by_cases hm : U % 2 = 1
  · rw [hm, zig, if_pos hm]; exact bit_xor1 (by omega)
  · have h0 : U % 2 = 0 := by omega
    rw [h0, zig, if_neg hm]; exact bit_xor0 (by omega)
set_option maxHeartbeats 8000000 in
theorem implNum (l : List UInt8) (hl : l.length ≤ 20000) (a : Int) : Ent Try.prog 80 [.d (.s l), .d (.i .i64 a)] [] (.d (numD (numM l a))) [] := by
  obtain ⟨o, ho⟩ : ∃ o, o = numM l a := ⟨_, rfl⟩
  rw [← ho]
  refine ent_of tok mixed (f := 80) Try.func80 (by kernel_rfl) (keep := false) ?_
  repeat' ((conv => whnf) <;> (first | ((with_reducible refine isCall ?_) <;> (first | (refine ⟨at_need hl ha hk ?_, ?_⟩; · assumption) | refine ⟨seven_need hk, ?_⟩ | refine ⟨(by decide : (0 : Int) ≤ 1), ?_⟩ | fail)) | ((with_reducible refine isLoop ?_) <;> (first | (refine ⟨[6, 5, 0, 1, 4], [10004], fun st => ∃ (k : Nat) (n v : Int) (u : Nat), n = k ∧ k ≤ 10 ∧ v = (u : Int) ∧ u < 2 ^ (7 * k) ∧ 0 ≤ a ∧ o = numGo l a (10 - k) k u ∧ st = ⟨[(6, .d (.i .i64 n)), (5, .d (.i .u64 v)), (0, .d (.s l)), (1, .d (.i .i64 a)), (4, .ptr 10004 0)], [(10004, .var (AV.d (numD ⟨0, 0, 0⟩)).cells)]⟩, fun st => match look 6 st.env with | some (.d (.i _ n)) => 10 - n.toNat | _ => 0, rfl, ⟨0, _, _, 0, rfl, Nat.zero_le _, rfl, by decide, Int.not_lt.1 (of_decide_eq_false (by assumption)), (by rw [ho, numM, if_neg (of_decide_eq_false (by assumption))]), rfl⟩, ?_⟩; rintro st ⟨k, n, v, u, rfl, hk, rfl, hu, ha, hgo, rfl⟩) | (refine ⟨at_need hl ha hk ?_, ?_⟩; · assumption) | refine ⟨seven_need hk, ?_⟩ | refine ⟨(by decide : (0 : Int) ≤ 1), ?_⟩ | fail)) | ((with_reducible refine isCut ?_) <;> (first | refine ⟨⟨none⟩, ?_⟩)) | ((first | with_reducible refine isEx ?_ | with_reducible refine isAnd ?_ | with_reducible refine isOr ?_) <;> (first | (refine ⟨at_need hl ha hk ?_, ?_⟩; · assumption) | refine ⟨seven_need hk, ?_⟩ | refine ⟨(by decide : (0 : Int) ≤ 1), ?_⟩ | ((with_reducible refine isSmall ?_) <;> (refine ⟨?_, ?_⟩; kernel_rfl)) | refine ⟨rfl, ?_⟩ | refine ⟨Int.natCast_nonneg _, ?_⟩)) | with_reducible refine Both.mk ?_ ?_ | rintro _ rfl | exact rfl | (split <;> (rename_i h; first | (simp only [beq_self_eq_true, eq_self, decide_true, Bool.not_true, Bool.false_eq_true] at h; done) | (try rw [h])))))
  all_goals (conv => whnf)
  · refine ⟨congrArg (fun o => AV.d (numD o)) (?_ : (⟨0, 0, 1⟩ : NumOut) = o), rfl⟩
    rw [ho, numM, if_pos (of_decide_eq_true h)]
  · refine ⟨congrArg (fun o => AV.d (numD o)) (?_ : (⟨0, 0, 4⟩ : NumOut) = o), rfl⟩
    rename_i h9 _
    have h9 := of_decide_eq_true h9
    have h := of_decide_eq_true h
    rw [len_wrap hl hk] at h
    rw [hgo, numGo_step l a k u (by omega), if_pos h]
  rotate_right
  · refine ⟨congrArg (fun o => AV.d (numD o)) (?_ : (⟨0, 0, 3⟩ : NumOut) = o), rfl⟩
    have h := of_decide_eq_false h
    have e : k = 10 := by omega
    subst e
    rw [hgo]; rfl
  all_goals
    have e9 : k ≤ 9 := (by have := of_decide_eq_true (by assumption : decide ((k : Int) < 10) = true); omega)
    obtain ⟨e1, e2⟩ := at_wrap hl ha hk (by assumption)
    have e3 := at_up hl ha e2
    have hs := numGo_step l a k u e9
    rw [if_neg (by omega), ← hgo] at hs
    have hbl := byteAt_lt l (a + (k : Int))
    have hb : (l.getD (a + (k : Int)).toNat 0).toNat = byteAt l (a + (k : Int)) := rfl
    simp only [e1, hb, decide_eq_true_eq, decide_eq_false_iff_not] at *
    simp only [e3] at *
    generalize byteAt l (a + (k : Int)) = c at *
    by_cases hc : k = 9 ∧ c > 1
    · rw [if_pos hc] at hs
      first
      | (rw [hs]; exact ⟨rfl, trivial⟩)
      | (exfalso; omega)
    · rw [if_neg hc] at hs
      have hW := sumO hbl hu e9 hc
      obtain ⟨b1, _⟩ := sum_lt64 (c := c) hu e9 hc
      have b2 := sum_lt (c := c) hu
      generalize u + c % 128 * 2 ^ (7 * k) = U at *
      first
      | (exfalso; omega)
      | (rw [if_neg (by omega), if_pos (by omega)] at hs; rw [hs]; exact ⟨rfl, trivial⟩)
      | (rw [if_neg (by omega), if_neg (by omega)] at hs
         simp only [hW] at *
         rw [zigX b1, hs]; exact ⟨rfl, trivial⟩)
      | (rw [if_pos (by omega)] at hs
         refine ⟨⟨k + 1, _, _, U, step_up (n := 10) (by omega) (Nat.le_of_ble_eq_true rfl), by omega, ?_, b2, ha, hs, rfl⟩, ?_⟩
         · exact hW
         · exact mu_up (n := 10) (by omega) (Nat.le_of_ble_eq_true rfl))
      | trace_state
end Go.Pm.Try
