import Derived.Test.YtlihmioijkichaaCc
namespace Go.Pm.Try
open Go Go.Proofs
set_option linter.unusedVariables false
set_option linter.unusedSimpArgs false
set_option maxRecDepth 100000
theorem seven_need {k : Nat} (hk : k ≤ 10) : 0 ≤ IntKind.i64.wrap (7 * (k : Int)) := by rw [wrap_i64_id _ (by omega) (by omega)]; omega
theorem seven' (k : Nat) (hk : k ≤ 9) : min (IntKind.i64.wrap (7 * (k : Int))).toNat IntKind.u64.bits = 7 * k := by
  rw [wrap_i64_id _ (by omega) (by omega)]
  show min (7 * (k : Int)).toNat 64 = 7 * k
  omega
theorem and7 {c : Nat} (hc : c < 256) : IntKind.u8.wrap (((BitVec.ofInt IntKind.u8.bits (c : Int) &&& BitVec.ofInt IntKind.u8.bits 127).toNat : Nat) : Int) = ((c % 128 : Nat) : Int) := by
  have h := bit_and7 hc
  simp only [bitD] at h
  injection h
theorem and1 {u : Nat} (hu : u < 18446744073709551616) : IntKind.u64.wrap (((BitVec.ofInt IntKind.u64.bits (u : Int) &&& BitVec.ofInt IntKind.u64.bits 1).toNat : Nat) : Int) = ((u % 2 : Nat) : Int) := by
  have h := bit_and1 hu
  simp only [bitD] at h
  injection h
theorem or64 {u s : Nat} (hu : u < 18446744073709551616) (hs : s < 18446744073709551616) : IntKind.u64.wrap (((BitVec.ofInt IntKind.u64.bits (u : Int) ||| BitVec.ofInt IntKind.u64.bits (s : Int)).toNat : Nat) : Int) = ((u ||| s : Nat) : Int) := by
  have h := bit_or hu hs
  simp only [bitD] at h
  injection h
theorem sumO {c k u : Nat} (hb : c < 256) (hu : u < 2 ^ (7 * k)) (hk : k ≤ 9) (hc : ¬ (k = 9 ∧ c > 1)) :
    IntKind.u64.wrap (((BitVec.ofInt IntKind.u64.bits (u : Int) ||| BitVec.ofInt IntKind.u64.bits (IntKind.u64.wrap (IntKind.u64.wrap (IntKind.u8.wrap (((BitVec.ofInt IntKind.u8.bits (c : Int) &&& BitVec.ofInt IntKind.u8.bits 127).toNat : Nat) : Int)) * 2 ^ min (IntKind.i64.wrap (7 * (k : Int))).toNat IntKind.u64.bits))).toNat : Nat) : Int) = ((u + c % 128 * 2 ^ (7 * k) : Nat) : Int) := by
  obtain ⟨h1, h2⟩ := sum_lt64 hu hk hc
  rw [and7 hb, seven' k hk, wrap_u64_nat (n := c % 128) (by omega)]
  rw [show ((c % 128 : Nat) : Int) * 2 ^ (7 * k) = ((c % 128 * 2 ^ (7 * k) : Nat) : Int) by push_cast; rfl]
  rw [wrap_u64_nat h2, or64 (by omega) h2, or_shift hu]
theorem zigX {U : Nat} (h1 : U < 18446744073709551616) : bitD .i64 (fun x y => x ^^^ y) (IntKind.i64.wrap ((U : Int).fdiv (2 ^ min (Int.toNat 1) IntKind.u64.bits))) (IntKind.i64.wrap (0 - IntKind.i64.wrap (IntKind.u64.wrap (((BitVec.ofInt IntKind.u64.bits (U : Int) &&& BitVec.ofInt IntKind.u64.bits 1).toNat : Nat) : Int)))) = .i .i64 (zig U) := by
  have e : (U : Int).fdiv (2 ^ min (Int.toNat 1) IntKind.u64.bits) = ((U / 2 : Nat) : Int) := by
    rw [show (2 : Int) ^ min (Int.toNat 1) IntKind.u64.bits = 2 from rfl, Int.fdiv_eq_ediv_of_nonneg _ (by omega)]; omega
  have w1 : IntKind.i64.wrap ((U / 2 : Nat) : Int) = ((U / 2 : Nat) : Int) := wrap_i64_id _ (by omega) (by omega)
  have w2 : IntKind.i64.wrap ((U % 2 : Nat) : Int) = ((U % 2 : Nat) : Int) := wrap_i64_id _ (by omega) (by omega)
  have w3 : IntKind.i64.wrap (0 - ((U % 2 : Nat) : Int)) = 0 - ((U % 2 : Nat) : Int) := wrap_i64_id _ (by omega) (by omega)
  rw [e, and1 h1, w1, w2, w3]
  by_cases hm : U % 2 = 1
  · rw [hm, zig, if_pos hm]; exact bit_xor1 (by omega)
  · have h0 : U % 2 = 0 := by omega
    rw [h0, zig, if_neg hm]; exact bit_xor0 (by omega)
set_option maxHeartbeats 8000000 in
theorem implNum (l : List UInt8) (hl : l.length ≤ 20000) (a : Int) : Ent Try.prog 113 [.d (.s l), .d (.i .i64 a)] [] (.d (numD (numM l a))) [] := by
  obtain ⟨o, ho⟩ : ∃ o, o = numM l a := ⟨_, rfl⟩
  rw [← ho]
  refine ent_of tok mixed (f := 113) Try.func113 (by kernel_rfl) (keep := false) ?_
  repeat' ((conv => whnf) <;> (first
    | ((with_reducible refine isCall ?_) <;> (first
        | (refine ⟨at_need hl ha hk ?_, ?_⟩; · assumption)
        | refine ⟨seven_need hk, ?_⟩
        | refine ⟨(by decide : (0 : Int) ≤ 1), ?_⟩
        | fail))
    | ((with_reducible refine isLoop ?_) <;> (first
        | (refine ⟨[6, 5, 0, 1, 4], [10004], fun st => ∃ (k : Nat) (n v : Int) (u : Nat), n = k ∧ k ≤ 10 ∧ v = (u : Int) ∧ u < 2 ^ (7 * k) ∧ 0 ≤ a ∧ o = numGo l a (10 - k) k u ∧ st = ⟨[(6, .d (.i .i64 n)), (5, .d (.i .u64 v)), (0, .d (.s l)), (1, .d (.i .i64 a)), (4, .ptr 10004 0)], [(10004, .var (AV.d (numD ⟨0, 0, 0⟩)).cells)]⟩, fun st => match look 6 st.env with | some (.d (.i _ n)) => 10 - n.toNat | _ => 0, rfl, ⟨0, _, _, 0, rfl, Nat.zero_le _, rfl, by decide, Int.not_lt.1 (of_decide_eq_false (by assumption)), (by rw [ho, numM, if_neg (of_decide_eq_false (by assumption))]), rfl⟩, ?_⟩; rintro st ⟨k, n, v, u, rfl, hk, rfl, hu, ha, hgo, rfl⟩)
        | (refine ⟨at_need hl ha hk ?_, ?_⟩; · assumption)
        | refine ⟨seven_need hk, ?_⟩
        | refine ⟨(by decide : (0 : Int) ≤ 1), ?_⟩
        | fail))
    | ((with_reducible refine isCut ?_) <;> (first
        | refine ⟨⟨none⟩, ?_⟩))
    | ((first | with_reducible refine isEx ?_ | with_reducible refine isAnd ?_ | with_reducible refine isOr ?_) <;> (first
        | (refine ⟨at_need hl ha hk ?_, ?_⟩; · assumption)
        | refine ⟨seven_need hk, ?_⟩
        | refine ⟨(by decide : (0 : Int) ≤ 1), ?_⟩
        | refine ⟨rfl, ?_⟩
        | refine ⟨Int.natCast_nonneg _, ?_⟩))
    | with_reducible refine Both.mk ?_ ?_
    | rintro _ rfl
    | exact rfl
    | (split <;> (rename_i h; first | (simp only [beq_self_eq_true, eq_self, decide_true, Bool.not_true, Bool.false_eq_true] at h; done) | (try rw [h])))))
  all_goals (conv => whnf)
  · refine ⟨congrArg (fun o => AV.d (numD o)) (?_ : (⟨0, 0, 1⟩ : NumOut) = o), rfl⟩
    rw [ho, numM, if_pos (of_decide_eq_true h)]
  · refine ⟨congrArg (fun o => AV.d (numD o)) (?_ : (⟨0, 0, 4⟩ : NumOut) = o), rfl⟩
    rename_i h9 _
    have h9 := of_decide_eq_true h9
    have h := of_decide_eq_true h
    rw [len_wrap hl hk] at h
    rw [hgo, numGo_step l a k u (by omega), if_pos h]
  rotate_right
  · refine ⟨congrArg (fun o => AV.d (numD o)) (?_ : (⟨0, 0, 3⟩ : NumOut) = o), rfl⟩
    have h := of_decide_eq_false h
    have e : k = 10 := by omega
    subst e
    rw [hgo]; rfl
  all_goals
    have e9 : k ≤ 9 := (by have := of_decide_eq_true (by assumption : decide ((k : Int) < 10) = true); omega)
    obtain ⟨e1, e2⟩ := at_wrap hl ha hk (by assumption)
    have e3 := at_up hl ha e2
    have hs := numGo_step l a k u e9
    rw [if_neg (by omega), ← hgo] at hs
    have hbl := byteAt_lt l (a + (k : Int))
    have hb : (l.getD (a + (k : Int)).toNat 0).toNat = byteAt l (a + (k : Int)) := rfl
    simp only [e1, hb, decide_eq_true_eq, decide_eq_false_iff_not] at *
    simp only [e3] at *
    generalize byteAt l (a + (k : Int)) = c at *
    by_cases hc : k = 9 ∧ c > 1
    · rw [if_pos hc] at hs
      first
      | (rw [hs]; exact ⟨rfl, trivial⟩)
      | (exfalso; omega)
    · rw [if_neg hc] at hs
      have hW := sumO hbl hu e9 hc
      obtain ⟨b1, _⟩ := sum_lt64 (c := c) hu e9 hc
      have b2 := sum_lt (c := c) hu
      generalize u + c % 128 * 2 ^ (7 * k) = U at *
      first
      | (exfalso; omega)
      | (rw [if_neg (by omega), if_pos (by omega)] at hs; rw [hs]; exact ⟨rfl, trivial⟩)
      | (rw [if_neg (by omega), if_neg (by omega)] at hs
         simp only [hW] at *
         rw [zigX b1, hs]; exact ⟨rfl, trivial⟩)
      | (rw [if_pos (by omega)] at hs
         refine ⟨⟨k + 1, _, _, U, step_up (n := 10) (by omega) (Nat.le_of_ble_eq_true rfl), by omega, ?_, b2, ha, hs, rfl⟩, ?_⟩
         · exact hW
         · exact mu_up (n := 10) (by omega) (Nat.le_of_ble_eq_true rfl))
      | trace_state
end Go.Pm.Try
