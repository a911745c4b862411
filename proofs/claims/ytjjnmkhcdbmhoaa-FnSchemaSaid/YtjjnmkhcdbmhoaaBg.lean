/-
Bytes and what is read of them: plain laws.
-/
import Derived.Test.YtjjnmkhcdbmhoaaBa
import Derived.Test.YtjjnmkhcdbmhoaaCe
namespace Go.Pm.Try
open Go Go.Proofs
set_option linter.unusedVariables false
set_option linter.unusedSimpArgs false
/-! Numbers. -/
theorem drop_cons {l : List UInt8} {k : Nat} {c : UInt8} {r : List UInt8} (h : l.drop k = c :: r) : k < l.length ∧ l.drop (k + 1) = r ∧ l.getD k 0 = c := by
  have hk : k < l.length := by
    rcases Nat.lt_or_ge k l.length with h1 | h1
    · exact h1
    · rw [List.drop_eq_nil_of_le h1] at h; cases h
  rw [List.drop_eq_getElem_cons hk] at h
  injection h with h1 h2
  exact ⟨hk, h2, by rw [List.getD_eq_getElem?_getD, List.getElem?_eq_getElem hk]; exact h1⟩
theorem byteAt_nat (l : List UInt8) (a i : Nat) : byteAt l ((a : Int) + (i : Int)) = (l.getD (a + i) 0).toNat := by
  unfold byteAt
  rw [show ((a : Int) + (i : Int)).toNat = a + i by omega]
theorem ofNat_small {w : Nat} (h : w < 256) : (UInt8.ofNat w).toNat = w := by
  rw [UInt8.toNat_ofNat']; omega
theorem numGo_put (l : List UInt8) (a : Nat) : ∀ (g i u w : Nat) (q : List UInt8), i + g = 9 → l.drop (a + i) = putU g w ++ q → w < 2 ^ (7 * g + 1) → (0 < i → w ≠ 0) →
    numGo l a (g + 1) i u = ⟨zig (u + w * 2 ^ (7 * i)), a + i + (putU g w).length, 0⟩
  | 0, i, u, w, q, hi, hd, hw, hz => by
    simp only [putU, List.cons_append, List.nil_append] at hd
    obtain ⟨h1, h2, h3⟩ := drop_cons hd
    have hw2 : w < 2 := by simpa using hw
    have hb : byteAt l ((a : Int) + (i : Int)) = w := by rw [byteAt_nat, h3, ofNat_small (by omega)]
    simp only [numGo, hb]
    rw [if_neg (by omega), if_neg (by omega), if_neg (by omega), if_neg (by have := hz (by omega); omega)]
    rw [Nat.mod_eq_of_lt (by omega : w < 128)]
    simp [putU]
  | g + 1, i, u, w, q, hi, hd, hw, hz => by
    by_cases h128 : w < 128
    · rw [putU, if_pos h128] at hd
      simp only [List.cons_append, List.nil_append] at hd
      obtain ⟨h1, h2, h3⟩ := drop_cons hd
      have hb : byteAt l ((a : Int) + (i : Int)) = w := by rw [byteAt_nat, h3, ofNat_small (by omega)]
      rw [numGo]
      simp only [hb]
      rw [if_neg (by omega), if_neg (by omega), if_neg (by omega), if_neg (by rintro ⟨e1, e2⟩; exact hz e2 e1)]
      rw [Nat.mod_eq_of_lt h128, putU, if_pos h128]
      simp
    · rw [putU, if_neg h128] at hd
      simp only [List.cons_append] at hd
      obtain ⟨h1, h2, h3⟩ := drop_cons hd
      have hb : byteAt l ((a : Int) + (i : Int)) = w % 128 + 128 := by rw [byteAt_nat, h3, ofNat_small (by omega)]
      have hlt := put_lt (f := g + 1) (u := w) (by omega) hw
      rw [Nat.add_sub_cancel] at hlt
      have ih := numGo_put l a g (i + 1) (u + (w % 128 + 128) % 128 * 2 ^ (7 * i)) (w / 128) q (by omega) h2 hlt (fun _ => by omega)
      rw [numGo]
      simp only [hb]
      rw [if_neg (by omega), if_neg (by omega), if_pos (by omega), ih, putU, if_neg h128]
      have e1 : (w % 128 + 128) % 128 = w % 128 := by omega
      have e2 : u + w % 128 * 2 ^ (7 * i) + w / 128 * 2 ^ (7 * (i + 1)) = u + w * 2 ^ (7 * i) := by
        rw [show 7 * (i + 1) = 7 * i + 7 by omega, Nat.pow_add, show (2 : Nat) ^ 7 = 128 from rfl]
        have hwd : w = w % 128 + w / 128 * 128 := by omega
        conv => rhs; rw [hwd, Nat.add_mul, Nat.mul_assoc, Nat.mul_comm 128 (2 ^ (7 * i))]
        rw [Nat.add_assoc]
      rw [e1, e2]
      congr 1
      simp only [List.length_cons]; omega
theorem numGo_get (l : List UInt8) (a : Nat) : ∀ (g i u : Nat), i + g = 9 → (numGo l a (g + 1) i u).code = 0 → ∃ w q, l.drop (a + i) = putU g w ++ q ∧ w < 2 ^ (7 * g + 1) ∧ (0 < i → w ≠ 0)
  | 0, i, u, hi, h => by
    rw [numGo] at h
    split at h
    · cases h
    · rename_i hlen
      split at h
      · cases h
      · rename_i h9
        split at h
        · rw [numGo] at h; cases h
        · rename_i h128
          split at h
          · cases h
          · rename_i hz
            have hk : a + i < l.length := by omega
            have e := List.drop_eq_getElem_cons hk
            rw [byteAt_nat, List.getD_eq_getElem?_getD, List.getElem?_eq_getElem hk, Option.getD_some] at h9 h128 hz
            refine ⟨(l[a + i]).toNat, l.drop (a + i + 1), ?_, by omega, fun h0 hw => hz ⟨hw, h0⟩⟩
            rw [e, putU]; simp
  | g + 1, i, u, hi, h => by
    rw [numGo] at h
    split at h
    · cases h
    · rename_i hlen
      split at h
      · cases h
      · rename_i h9
        have hk : a + i < l.length := by omega
        have e := List.drop_eq_getElem_cons hk
        have hc : (l[a + i]).toNat < 256 := (l[a + i]).toNat_lt
        split at h
        · rename_i h128
          obtain ⟨w, q, hd, hw, hz⟩ := numGo_get l a g (i + 1) _ (by omega) h
          rw [byteAt_nat, List.getD_eq_getElem?_getD, List.getElem?_eq_getElem hk, Option.getD_some] at h128
          have hw0 := hz (by omega)
          refine ⟨w * 128 + (l[a + i]).toNat % 128, q, ?_, ?_, by omega⟩
          · rw [e, putU, if_neg (by omega), show a + i + 1 = a + (i + 1) by omega, hd]
            rw [show (w * 128 + (l[a + i]).toNat % 128) / 128 = w by omega, show (w * 128 + (l[a + i]).toNat % 128) % 128 + 128 = (l[a + i]).toNat by omega]
            simp
          · rw [show 7 * (g + 1) + 1 = (7 * g + 1) + 7 by omega, Nat.pow_add, show (2 : Nat) ^ 7 = 128 from rfl]
            have : w + 1 ≤ 2 ^ (7 * g + 1) := hw
            have := Nat.mul_le_mul_right 128 this
            omega
        · rename_i h128
          split at h
          · cases h
          · rename_i hz
            rw [byteAt_nat, List.getD_eq_getElem?_getD, List.getElem?_eq_getElem hk, Option.getD_some] at h128 hz
            refine ⟨(l[a + i]).toNat, l.drop (a + i + 1), ?_, ?_, fun h0 hw => hz ⟨hw, h0⟩⟩
            · rw [e, putU, if_pos (by omega)]; simp
            · have : 2 ^ 7 ≤ 2 ^ (7 * (g + 1) + 1) := Nat.pow_le_pow_right (by decide) (by omega)
              omega
theorem zig_fold {n : Int} (h1 : -9223372036854775808 ≤ n) (h2 : n ≤ 9223372036854775807) : zig (foldU n) = n := by
  unfold zig foldU
  split <;> split <;> omega
theorem fold_zig (u : Nat) : foldU (zig u) = u := by
  unfold zig foldU
  split <;> split <;> omega
theorem zig_range {u : Nat} (h : u < 18446744073709551616) : -9223372036854775808 ≤ zig u ∧ zig u ≤ 9223372036854775807 := by
  unfold zig
  split <;> omega
structure I64 (n : Int) : Prop where
  lo : -9223372036854775808 ≤ n
  hi : n ≤ 9223372036854775807
theorem num_put {l : List UInt8} {a : Nat} {n : Int} {q : List UInt8} (hn : I64 n) (h : l.drop a = putNum n ++ q) : numM l a = ⟨n, a + (putNum n).length, 0⟩ := by
  have hb := fold_small hn.lo hn.hi
  have := numGo_put l a 9 0 0 (foldU n) q rfl h hb (fun h => absurd h (by decide))
  rw [numM, if_neg (by omega), this]
  simp only [Nat.zero_add, Nat.mul_zero, Nat.pow_zero, Nat.mul_one, zig_fold hn.lo hn.hi]
  unfold putNum
  simp
theorem num_get {l : List UInt8} {a : Nat} (h : (numM l a).code = 0) : ∃ n q, I64 n ∧ l.drop a = putNum n ++ q := by
  rw [numM, if_neg (by omega)] at h
  obtain ⟨w, q, hd, hw, _⟩ := numGo_get l a 9 0 0 rfl h
  exact ⟨zig w, q, ⟨(zig_range hw).1, (zig_range hw).2⟩, by unfold putNum; rw [fold_zig]; exact hd⟩
theorem drop_more {l x q : List UInt8} {a : Nat} (h : l.drop a = x ++ q) : l.drop (a + x.length) = q := by
  rw [← List.drop_drop, h, List.drop_left]
theorem drop_le {l x q : List UInt8} {a : Nat} (ha : a ≤ l.length) (h : l.drop a = x ++ q) : a + x.length ≤ l.length := by
  have := congrArg List.length h
  simp only [List.length_drop, List.length_append] at this
  omega
/-! Texts. -/
theorem word_put {l : List UInt8} {a : Nat} {t q : List UInt8} (ht : t.length ≤ 20000) (ha : a ≤ l.length) (h : l.drop a = putText t ++ q) : wordM l a = ⟨t, a + (putText t).length, 0⟩ := by
  have hs : putText t = putNum t.length ++ t := putText_short (decide_eq_false (by omega))
  rw [hs, List.append_assoc] at h
  have hn := num_put (n := (t.length : Int)) ⟨by omega, by omega⟩ h
  have hd := drop_more h
  have hle := drop_le ha h
  have hle2 := drop_le hle hd
  rw [wordM, hn]
  simp only [hs, List.length_append]
  rw [if_neg (by simp), if_neg (by omega), if_neg (by omega)]
  have e1 : ((a : Int) + ((putNum (t.length : Int)).length : Nat)).toNat = a + (putNum (t.length : Int)).length := by omega
  have e2 : ((a : Int) + ((putNum (t.length : Int)).length : Nat) + (t.length : Int)).toNat = a + (putNum (t.length : Int)).length + t.length := by omega
  rw [e1, e2, List.drop_take, hd]
  rw [show a + (putNum (t.length : Int)).length + t.length - (a + (putNum (t.length : Int)).length) = t.length by omega, List.take_left]
  congr 1
  omega
theorem word_get {l : List UInt8} {a : Nat} (ha : a ≤ l.length) (h : (wordM l a).code = 0) : ∃ t q, t.length ≤ 20000 ∧ l.drop a = putText t ++ q := by
  rw [wordM] at h
  split at h
  · rename_i h0; exact absurd h h0
  · rename_i h0
    simp only [ne_eq, Decidable.not_not] at h0
    obtain ⟨n, q, hn, hd⟩ := num_get h0
    have hp := num_put hn hd
    rw [hp] at h
    split at h
    · cases h
    · rename_i hr
      split at h
      · cases h
      · rename_i hl
        simp only at hr hl
        have hd2 := drop_more hd
        have hle := drop_le ha hd
        have hq := congrArg List.length hd2
        rw [List.length_drop] at hq
        have hnq : n.toNat ≤ q.length := by omega
        have e : ((q.take n.toNat).length : Int) = n := by rw [List.length_take]; omega
        refine ⟨q.take n.toNat, q.drop n.toNat, by omega, ?_⟩
        rw [putText_short (decide_eq_false (by omega)), e, hd, List.append_assoc, List.take_append_drop]
end Go.Pm.Try
/-
Readers, and bytes that were put: plain laws.
-/
namespace Go.Pm.Try
open Go Go.Proofs
set_option linter.unusedVariables false
set_option linter.unusedSimpArgs false
/-- A good reader, ahead of rest. -/
structure At (r : Rd) (rest : List UInt8) : Prop where
  bad : r.bad = false
  pos : ∃ a : Nat, r.pos = (a : Int) ∧ a ≤ r.text.length ∧ r.text.drop a = rest
theorem at_num {r : Rd} {n : Int} {q : List UInt8} (hn : I64 n) (h : At r (putNum n ++ q)) : (specNumR r).1 = n ∧ At (specNumR r).2 q := by
  rcases r with ⟨text, pos, bad⟩
  obtain ⟨hb, a, rfl, ha, hd⟩ := h
  cases hb
  have hp := num_put hn hd
  simp only [specNumR, hp, decide_true, Bool.not_true, Bool.or_false, sel]
  refine ⟨trivial, rfl, a + (putNum n).length, by simp, drop_le ha hd, drop_more hd⟩
theorem get_num {r : Rd} {rest : List UInt8} (h : At r rest) (hb : (specNumR r).2.bad = false) : ∃ n q, I64 n ∧ rest = putNum n ++ q := by
  rcases r with ⟨text, pos, bad⟩
  obtain ⟨hb0, a, rfl, ha, hd⟩ := h
  cases hb0
  have h0 : (numM text a).code = 0 := by
    unfold specNumR at hb
    by_cases e : (numM text a).code = 0
    · exact e
    · simp [e, sel] at hb
  obtain ⟨n, q, hn, h1⟩ := num_get h0
  exact ⟨n, q, hn, hd.symm.trans h1⟩
theorem at_word {r : Rd} {t q : List UInt8} (ht : t.length ≤ 20000) (h : At r (putText t ++ q)) : (specTextR r).1 = t ∧ At (specTextR r).2 q := by
  rcases r with ⟨text, pos, bad⟩
  obtain ⟨hb, a, rfl, ha, hd⟩ := h
  cases hb
  have hp := word_put ht ha hd
  simp only [specTextR, hp, decide_true, Bool.not_true, Bool.or_false, sel]
  refine ⟨trivial, rfl, a + (putText t).length, by simp, drop_le ha hd, drop_more hd⟩
theorem get_word {r : Rd} {rest : List UInt8} (h : At r rest) (hb : (specTextR r).2.bad = false) : ∃ t q, t.length ≤ 20000 ∧ rest = putText t ++ q := by
  rcases r with ⟨text, pos, bad⟩
  obtain ⟨hb0, a, rfl, ha, hd⟩ := h
  cases hb0
  have h0 : (wordM text a).code = 0 := by
    unfold specTextR at hb
    by_cases e : (wordM text a).code = 0
    · exact e
    · simp [e, sel] at hb
  obtain ⟨t, q, ht, h1⟩ := word_get ha h0
  exact ⟨t, q, ht, hd.symm.trans h1⟩
theorem at_many {r : Rd} {n most : Int} {q : List UInt8} (hn : I64 n) (h0 : 0 ≤ n) (h1 : n ≤ most) (h : At r (putNum n ++ q)) : (specManyR r most).1 = n ∧ At (specManyR r most).2 q := by
  obtain ⟨e1, hb, a, e2, ha, hd⟩ := at_num hn h
  have d1 : decide (n < 0) = false := decide_eq_false (by omega)
  have d2 : decide (n > most) = false := decide_eq_false (by omega)
  simp only [specManyR, e1, hb, d1, d2, Bool.or_false, sel]
  exact ⟨trivial, rfl, a, e2, ha, hd⟩
theorem get_many {r : Rd} {most : Int} {rest : List UInt8} (h : At r rest) (hb : (specManyR r most).2.bad = false) : ∃ n q, I64 n ∧ 0 ≤ n ∧ n ≤ most ∧ rest = putNum n ++ q := by
  simp only [specManyR, Bool.or_eq_false_iff, decide_eq_false_iff_not] at hb
  obtain ⟨⟨h1, h2⟩, h3⟩ := hb
  obtain ⟨n, q, hn, e⟩ := get_num h h3
  have h' := h
  rw [e] at h'
  have := (at_num hn h').1
  exact ⟨n, q, hn, by omega, by omega, e⟩
theorem at_over {r : Rd} (h : At r []) : overR r = true := by
  obtain ⟨hb, a, e, ha, hd⟩ := h
  have := congrArg List.length hd
  simp only [List.length_drop, List.length_nil] at this
  simp only [overR, hb, e, Bool.not_false, Bool.true_and]
  exact decide_eq_true (by omega)
theorem get_over {r : Rd} {rest : List UInt8} (h : At r rest) (ho : overR r = true) : rest = [] := by
  obtain ⟨hb, a, e, ha, hd⟩ := h
  simp only [overR, Bool.and_eq_true, decide_eq_true_eq, e] at ho
  rw [← hd]
  exact List.drop_eq_nil_of_le (by omega)
end Go.Pm.Try
