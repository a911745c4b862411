/-
A part of the proof (packed).
-/
import Derived.Test.YtgkejadimafgdaaGreatKqh
namespace Go.Pm.Tryz
open Go Go.Proofs
set_option linter.unusedVariables false
set_option linter.unusedSimpArgs false
set_option maxRecDepth 2000000
end Go.Pm.Tryz
namespace Go.Proofs
set_option linter.unusedVariables false
set_option linter.unusedSimpArgs false
set_option maxHeartbeats 1000000 in
set_option maxRecDepth 2000000 in
theorem Tryz.lite_IndexByte (a : ByteArray) (c : Int) (w : World) :
    Calls Tryz.prog 142 #[.string a, .int .u8 c] w fun e w' => e = .returned (.int .i64 (Lib.indexByte a.data.toList c.toNat.toUInt8)) ∧ w' = w := by
  go_enter Tryz.func142, Tryz.ntmps142
  go_wp2
  rw [run_callFunc_extern Tryz.func147 (by kernel_rfl) (by kernel_rfl) (by kernel_rfl) (e := Extern.BytealgIndexByte.indexByte) (by kernel_rfl), Lib.run_indexByteString]
  simp only [Result.andThen]
  rw [Oper.upon_value]
  go_wp2
  go_ret
  exact ⟨rfl, rfl⟩
end Go.Proofs
namespace Go.Pm.Tryz
open Go Go.Proofs
set_option linter.unusedVariables false
set_option linter.unusedSimpArgs false
set_option maxRecDepth 2000000
theorem indexByteE (a : List UInt8) (c : Int) : Ent Tryz.prog 142 [.d (.s a), .d (.i .u8 c)] [] (.d (.i .i64 (Lib.indexByte a c.toNat.toUInt8))) [] := by
  refine ent_of_calls ⟨_, Tryz.func142, by kernel_rfl, by kernel_rfl⟩ fun X J w vs hr => ?_
  simp only [AV.repL, AV.rep, D.rep] at hr
  obtain ⟨v, vs1, h1, ⟨rfl, _⟩, v2, vs2, h2, ⟨rfl, _⟩, h3⟩ := hr
  subst h3 h2
  have e : vs = #[.string ⟨a.toArray⟩, .int .u8 c] := Array.toList_inj.1 h1
  subst e
  refine (Tryz.lite_IndexByte _ _ w).mono ?_
  rintro e w' ⟨rfl, rfl⟩
  refine ⟨rfl, _, rfl, ?_⟩
  simp only [AV.rep, D.rep, and_true]
theorem dot_self : Lib.indexByte [46] 46 = 0 := rfl
theorem indexDot (t : List UInt8) : Ent Tryz.prog 136 [.d (.s t), .d (.s [46])] [] (.d (.i .i64 (Lib.indexByte t 46))) [] := by
  have c1 : Ent Tryz.prog 142 [.d (.s t), .d (.i .u8 46)] [] (.d (.i .i64 (Lib.indexByte t 46))) [] := indexByteE t 46
  refine ent_of tok mixed (f := 136) Tryz.func136 (by kernel_rfl) (keep := false) ?_
  repeat' ((conv => whnf) <;> (first | ((with_reducible refine isCall ?_) <;> (first | (refine ⟨_, c1, ?_⟩; rintro _ _ ⟨rfl, rfl⟩) | (refine ⟨⟨(by decide), (by decide)⟩, ?_⟩) | fail)) | ((with_reducible refine isCut ?_) <;> (first | refine ⟨⟨none⟩, ?_⟩)) | ((first | with_reducible refine isEx ?_ | with_reducible refine isAnd ?_ | with_reducible refine isOr ?_) <;> (first | (refine ⟨⟨(by decide), (by decide)⟩, ?_⟩) | ((with_reducible refine isSmall ?_) <;> (refine ⟨?_, ?_⟩; kernel_rfl)) | refine ⟨rfl, ?_⟩ | refine ⟨Int.natCast_nonneg _, ?_⟩)) | with_reducible refine Both.mk ?_ ?_ | rintro _ rfl | exact rfl | (split <;> (rename_i h; first | (simp only [beq_self_eq_true, eq_self, decide_true, Bool.not_true, Bool.false_eq_true] at h; done) | (try rw [h])))))
  all_goals try (conv => whnf)
  all_goals first
    | exact ⟨rfl, rfl⟩
    | (have e := of_decide_eq_true h
       rw [← e]; exact ⟨rfl, rfl⟩)
    | trace_state
theorem ixb_le (t : List UInt8) : Lib.indexByte t 46 ≤ (t.length : Int) := by
  by_cases e : Lib.indexByte t 46 = -1
  · rw [e]; omega
  · obtain ⟨a, b, h, _, hi⟩ := ixb_some e
    rw [hi, h, List.length_append, List.length_cons]; omega
theorem ixb_lt {t : List UInt8} (h : decide (Lib.indexByte t 46 ≥ 0) = true) : ∃ a b, t = a ++ 46 :: b ∧ (46 : UInt8) ∉ a ∧ Lib.indexByte t 46 = (a.length : Int) :=
  ixb_some fun e => by have := of_decide_eq_true h; omega
theorem cut_in {t : List UInt8} (hl : t.length ≤ 2000000) (h : decide (Lib.indexByte t 46 ≥ 0) = true) : 0 ≤ IntKind.i64.wrap (Lib.indexByte t 46 + (([46] : List UInt8).length : Int)) ∧ IntKind.i64.wrap (Lib.indexByte t 46 + (([46] : List UInt8).length : Int)) ≤ (t.length : Int) := by
  obtain ⟨a, b, e, _, hi⟩ := ixb_lt h
  have h1 : t.length = a.length + (b.length + 1) := by rw [e, List.length_append, List.length_cons]
  rw [hi, List.length_cons, List.length_nil, wrap_i64_id _ (by omega) (by omega)]
  omega
theorem cut_yes {t : List UInt8} (hl : t.length ≤ 2000000) (h : decide (Lib.indexByte t 46 ≥ 0) = true) : CutTo t (List.drop 0 (List.take (Lib.indexByte t 46).toNat t)) (List.drop (IntKind.i64.wrap (Lib.indexByte t 46 + (([46] : List UInt8).length : Int))).toNat (List.take t.length t)) true := by
  obtain ⟨a, b, e, hn, hi⟩ := ixb_lt h
  have h1 : t.length = a.length + (b.length + 1) := by rw [e, List.length_append, List.length_cons]
  have e2 : (IntKind.i64.wrap (Lib.indexByte t 46 + (([46] : List UInt8).length : Int))).toNat = a.length + 1 := by
    rw [hi, List.length_cons, List.length_nil, wrap_i64_id _ (by omega) (by omega)]; omega
  rw [e2, hi, List.take_length, List.drop_zero, Int.toNat_natCast]
  refine ⟨fun _ => ?_, fun h => by cases h⟩
  have ea : t.take a.length = a := by rw [e, List.take_left]
  have eb : t.drop (a.length + 1) = b := by rw [e, List.drop_append, List.drop_of_length_le (by omega), show a.length + 1 - a.length = 1 by omega]; rfl
  rw [ea, eb]
  exact ⟨e, hn⟩
theorem cut_no {t : List UInt8} (h : decide (Lib.indexByte t 46 ≥ 0) = false) : CutTo t t [] false := by
  refine ⟨(fun h => by cases h), fun _ => ⟨rfl, rfl, ixb_none ?_⟩⟩
  have := of_decide_eq_false h
  have := Lib.indexByte_ge t 46
  omega
set_option maxHeartbeats 1000000 in
theorem cutLite (t : List UInt8) (hl : t.length ≤ 2000000) : EntQ Tryz.prog 119 [.d (.s t), .d (.s [46])] [] (fun R O => ∃ (a b : List UInt8) (f : Bool), R = .tup [.d (.s a), .d (.s b), .d (.b f)] ∧ O = [] ∧ CutTo t a b f) := by
  have c1 := indexDot t
  have hle := ixb_le t
  refine ent_of tok mixed (f := 119) Tryz.func119 (by kernel_rfl) (keep := false) ?_
  repeat' ((conv => whnf) <;> (first | ((with_reducible refine isCall ?_) <;> (first | (refine ⟨_, c1, ?_⟩; rintro _ _ ⟨rfl, rfl⟩) | (refine ⟨⟨of_decide_eq_true (by assumption), hle⟩, ?_⟩) | (refine ⟨cut_in hl (by assumption), ?_⟩) | fail)) | ((with_reducible refine isCut ?_) <;> (first | refine ⟨⟨none⟩, ?_⟩)) | ((first | with_reducible refine isEx ?_ | with_reducible refine isAnd ?_ | with_reducible refine isOr ?_) <;> (first | (refine ⟨⟨of_decide_eq_true (by assumption), hle⟩, ?_⟩) | (refine ⟨cut_in hl (by assumption), ?_⟩) | ((with_reducible refine isSmall ?_) <;> (refine ⟨?_, ?_⟩; kernel_rfl)) | refine ⟨rfl, ?_⟩ | refine ⟨Int.natCast_nonneg _, ?_⟩)) | with_reducible refine Both.mk ?_ ?_ | rintro _ rfl | exact rfl | (split <;> (rename_i h; first | (simp only [beq_self_eq_true, eq_self, decide_true, Bool.not_true, Bool.false_eq_true] at h; done) | (try rw [h])))))
  all_goals try (conv => whnf)
  all_goals first
    | exact ⟨_, _, true, rfl, rfl, cut_yes hl (by assumption)⟩
    | exact ⟨t, [], false, rfl, rfl, cut_no (by assumption)⟩
    | trace_state
theorem cutE (t : List UInt8) (hl : t.length ≤ 2000000) : EntQ Tryz.prog 86 [.d (.s t), .d (.s [46])] [] (fun R O => ∃ (a b : List UInt8) (f : Bool), R = .tup [.d (.s a), .d (.s b), .d (.b f)] ∧ O = [] ∧ CutTo t a b f) := by
  refine ent_of tok mixed (f := 86) Tryz.func86 (by kernel_rfl) (keep := false) ?_
  repeat' ((conv => whnf) <;> (first | ((with_reducible refine isCall ?_) <;> (first | (refine ⟨_, cutLite t hl, ?_⟩; rintro _ _ ⟨a, b, f, rfl, rfl, hc⟩) | fail)) | ((with_reducible refine isCut ?_) <;> (first | refine ⟨⟨none⟩, ?_⟩)) | ((first | with_reducible refine isEx ?_ | with_reducible refine isAnd ?_ | with_reducible refine isOr ?_) <;> (first | ((with_reducible refine isSmall ?_) <;> (refine ⟨?_, ?_⟩; kernel_rfl)) | refine ⟨rfl, ?_⟩ | refine ⟨Int.natCast_nonneg _, ?_⟩)) | with_reducible refine Both.mk ?_ ?_ | rintro _ rfl | exact rfl | (split <;> (rename_i h; first | (simp only [beq_self_eq_true, eq_self, decide_true, Bool.not_true, Bool.false_eq_true] at h; done) | (try rw [h])))))
  all_goals try (conv => whnf)
  all_goals first
    | exact ⟨a, b, f, rfl, rfl, hc⟩
    | trace_state
theorem cut_len {t a b : List UInt8} {f : Bool} (h : CutTo t a b f) : a.length ≤ t.length ∧ b.length ≤ t.length := by
  cases f with
  | true => obtain ⟨rfl, _⟩ := h.yes rfl; rw [List.length_append, List.length_cons]; omega
  | false => obtain ⟨rfl, rfl, _⟩ := h.no rfl; simp
theorem col_small {n m : Nat} (h : n ≤ m) (hm : m ≤ 2000000) : n ≤ maxLen := le_max2 (by omega)
theorem implColumn (t : List UInt8) (hl : t.length ≤ 2000000) : Ent Tryz.prog 53 [.d (.s t)] [] (.d (.b (colOk t))) [] := by
  refine ent_of tok mixed (f := 53) Tryz.func53 (by kernel_rfl) (keep := false) ?_
  repeat' ((conv => whnf) <;> (first | ((with_reducible refine isCall ?_) <;> (first | (refine ⟨_, cutE t hl, ?_⟩; rintro _ _ ⟨a, b, f, rfl, rfl, hc⟩) | (refine ⟨_, implNameRight a (col_small (cut_len hc).1 hl), ?_⟩; rintro _ _ ⟨rfl, rfl⟩) | (refine ⟨_, implNameRight b (col_small (cut_len hc).2 hl), ?_⟩; rintro _ _ ⟨rfl, rfl⟩) | fail)) | ((with_reducible refine isCut ?_) <;> (first | refine ⟨⟨none⟩, ?_⟩)) | ((first | with_reducible refine isEx ?_ | with_reducible refine isAnd ?_ | with_reducible refine isOr ?_) <;> (first | ((with_reducible refine isSmall ?_) <;> (refine ⟨?_, ?_⟩; kernel_rfl)) | refine ⟨rfl, ?_⟩ | refine ⟨Int.natCast_nonneg _, ?_⟩)) | with_reducible refine Both.mk ?_ ?_ | rintro _ rfl | exact rfl | (split <;> (rename_i h; first | (simp only [beq_self_eq_true, eq_self, decide_true, Bool.not_true, Bool.false_eq_true] at h; done) | (try rw [h])))))
  all_goals try (conv => whnf)
  all_goals first
    | (rw [← cut_col hc]; simp [*]; done)
    | trace_state
theorem preH_ne (p : List UInt8) (t : List UInt8) : ∃ q qs, preH p (splitM t) = q :: qs := by
  obtain ⟨q, qs, e⟩ := split_ne t
  rw [e]; exact ⟨_, _, rfl⟩
structure SplitMid (t : List UInt8) (k fr : Nat) (out : List (List UInt8)) : Prop where
  le : fr ≤ k
  len : k ≤ t.length
  few : out.length ≤ k
  eq : splitM t = out ++ preH (List.drop fr (List.take k t)) (splitM (t.drop k))
theorem split_zero (t : List UInt8) : SplitMid t 0 0 [] := ⟨Nat.le_refl _, Nat.zero_le _, Nat.le_refl _, by simp [preH_nil]⟩
theorem drop_cons' {t : List UInt8} {k : Nat} (h : k < t.length) : t.drop k = t.getD k 0 :: t.drop (k + 1) := by
  rw [List.drop_eq_getElem_cons h, List.getD_eq_getElem?_getD, List.getElem?_eq_getElem h]; rfl
theorem split_hit {t : List UInt8} {k fr : Nat} {out : List (List UInt8)} (h : SplitMid t k fr out) (hk : k < t.length) (hc : t.getD k 0 = 46) : SplitMid t (k + 1) (k + 1) (out ++ [List.drop fr (List.take k t)]) := by
  refine ⟨Nat.le_refl _, hk, by have := h.few; simp only [List.length_append, List.length_cons, List.length_nil]; omega, ?_⟩
  rw [h.eq, drop_cons' hk, split_pt hc]
  obtain ⟨q, qs, e⟩ := split_ne (t.drop (k + 1))
  have e2 : List.drop (k + 1) (List.take (k + 1) t) = [] := List.drop_of_length_le (by rw [List.length_take]; omega)
  rw [e, e2]
  simp [preH]
theorem take_drop_up {t : List UInt8} {k fr : Nat} (hf : fr ≤ k) (hk : k < t.length) : List.drop fr (List.take (k + 1) t) = List.drop fr (List.take k t) ++ [t.getD k 0] := by
  rw [List.take_succ_eq_append_getElem hk, List.drop_append_of_le_length (by rw [List.length_take]; omega), List.getD_eq_getElem?_getD, List.getElem?_eq_getElem hk]; rfl
theorem split_go {t : List UInt8} {k fr : Nat} {out : List (List UInt8)} (h : SplitMid t k fr out) (hk : k < t.length) (hc : ¬ t.getD k 0 = 46) : SplitMid t (k + 1) fr out := by
  refine ⟨by have := h.le; omega, hk, by have := h.few; omega, ?_⟩
  rw [h.eq, drop_cons' hk, split_ch hc, preH_preH, take_drop_up h.le hk]
theorem split_end {t : List UInt8} {k fr : Nat} {out : List (List UInt8)} (h : SplitMid t k fr out) (hk : ¬ k < t.length) : splitM t = out ++ [List.drop fr (List.take t.length t)] := by
  have e : k = t.length := by have := h.len; omega
  rw [h.eq, e, List.drop_length]
  simp [splitM, preH]
theorem dot_of {c : UInt8} (h : decide ((c.toNat : Int) = 46) = true) : c = 46 := UInt8.toNat_inj.1 (by have := of_decide_eq_true h; show c.toNat = 46; omega)
theorem dot_not {c : UInt8} (h : decide ((c.toNat : Int) = 46) = false) : ¬ c = 46 := fun e => by rw [e] at h; exact absurd h (by decide)
theorem roomL {n b : Nat} {x : D} (h : n ≤ 2000000) (hb : b ≤ 1000) : room (n + [x].length) b := by
  have h1 : (n + 1) * b ≤ 2000001 * 1000 := Nat.mul_le_mul (by omega) hb
  have hm : maxLen = 9223372036854775807 := rfl
  simp only [room, List.length_cons, List.length_nil, Nat.zero_add]
  omega
set_option maxHeartbeats 2000000 in
theorem specSplit (t : List UInt8) (hl : t.length ≤ 2000000) : Ent Tryz.prog 72 [.d (.s t), .d (.i .u8 46)] [] (.d (.sl false ((splitM t).map strD))) [] := by
  have hm : t.length ≤ maxLen := le_max2 (by omega)
  refine ent_of tok mixed (f := 72) Tryz.func72 (by kernel_rfl) (keep := false) ?_
  repeat' ((conv => whnf) <;> (first | ((with_reducible refine isCall ?_) <;> (first | (refine ⟨⟨Int.natCast_nonneg _, of_decide_eq_true (by assumption)⟩, ?_⟩) | (refine ⟨⟨Int.natCast_nonneg _, Int.ofNat_le.2 hS.le, Int.ofNat_le.2 hS.len⟩, ?_⟩) | (refine ⟨⟨Int.natCast_nonneg _, Int.ofNat_le.2 (Nat.le_trans hS.le hS.len)⟩, ?_⟩) | (refine ⟨⟨by decide, rfl, rfl, roomL (by rw [hxs, List.length_map]; have := hS.few; have := hS.len; omega) (by decide)⟩, ?_⟩) | fail)) | ((with_reducible refine isLoop ?_) <;> (first | (refine ⟨[0, 1, 5, 6, 7], [10008], fun st => ∃ (k fr : Nat) (n m : Int) (out : List (List UInt8)) (xs : List D), n = k ∧ m = fr ∧ xs = out.map strD ∧ SplitMid t k fr out ∧ st = ⟨[(0, .d (.s t)), (1, .d (.i .u8 46)), (5, .own 10008), (6, .d (.i .i64 m)), (7, .d (.i .i64 n))], [(10008, .arr 1 false xs)]⟩, fun s' => match look 7 s'.env with | some (.d (.i _ n)) => t.length - n.toNat | _ => 0, rfl, ⟨0, 0, _, _, [], _, rfl, rfl, rfl, split_zero t, rfl⟩, ?_⟩; rintro st ⟨k, fr, n, m, out, xs, rfl, rfl, hxs, hS, rfl⟩) | (refine ⟨⟨Int.natCast_nonneg _, of_decide_eq_true (by assumption)⟩, ?_⟩) | (refine ⟨⟨Int.natCast_nonneg _, Int.ofNat_le.2 hS.le, Int.ofNat_le.2 hS.len⟩, ?_⟩) | (refine ⟨⟨Int.natCast_nonneg _, Int.ofNat_le.2 (Nat.le_trans hS.le hS.len)⟩, ?_⟩) | (refine ⟨⟨by decide, rfl, rfl, roomL (by rw [hxs, List.length_map]; have := hS.few; have := hS.len; omega) (by decide)⟩, ?_⟩) | fail)) | ((with_reducible refine isCut ?_) <;> (first | refine ⟨⟨none⟩, ?_⟩)) | ((first | with_reducible refine isEx ?_ | with_reducible refine isAnd ?_ | with_reducible refine isOr ?_) <;> (first | (refine ⟨⟨Int.natCast_nonneg _, of_decide_eq_true (by assumption)⟩, ?_⟩) | (refine ⟨⟨Int.natCast_nonneg _, Int.ofNat_le.2 hS.le, Int.ofNat_le.2 hS.len⟩, ?_⟩) | (refine ⟨⟨Int.natCast_nonneg _, Int.ofNat_le.2 (Nat.le_trans hS.le hS.len)⟩, ?_⟩) | (refine ⟨⟨by decide, rfl, rfl, roomL (by rw [hxs, List.length_map]; have := hS.few; have := hS.len; omega) (by decide)⟩, ?_⟩) | ((with_reducible refine isSmall ?_) <;> (refine ⟨?_, ?_⟩; kernel_rfl)) | refine ⟨rfl, ?_⟩ | refine ⟨Int.natCast_nonneg _, ?_⟩)) | with_reducible refine Both.mk ?_ ?_ | rintro _ rfl | exact rfl | (split <;> (rename_i h; first | (simp only [beq_self_eq_true, eq_self, decide_true, Bool.not_true, Bool.false_eq_true] at h; done) | (try rw [h])))))
  all_goals try (conv => whnf)
  all_goals first
    | (have hk := lt_of_dec' (by assumption : decide ((k : Int) < (t.length : Int)) = true)
       exact ⟨⟨k + 1, k + 1, _, _, _, _, step_up hk hm, step_up hk hm, (by rw [hxs, List.map_append]; rfl), split_hit hS hk (dot_of h), rfl⟩, mu_up hk hm⟩)
    | (have hk := lt_of_dec' (by assumption : decide ((k : Int) < (t.length : Int)) = true)
       exact ⟨⟨k + 1, fr, _, _, out, _, step_up hk hm, rfl, hxs, split_go hS hk (dot_not h), rfl⟩, mu_up hk hm⟩)
    | (rw [split_end hS (by have := of_decide_eq_false h; omega), hxs, List.map_append]; exact ⟨rfl, rfl⟩)
    | trace_state
theorem split_mem : ∀ {t p : List UInt8}, p ∈ splitM t → p.length ≤ t.length
  | [], p, h => by
    rw [splitM] at h
    rw [List.mem_singleton.1 h]; exact Nat.le_refl _
  | c :: t, p, h => by
    rw [splitM] at h
    obtain ⟨q, qs, e⟩ := split_ne t
    cases hd : decide (c = 46) with
    | true =>
      rw [hd] at h
      rcases List.mem_cons.1 h with rfl | h
      · exact Nat.zero_le _
      · have := split_mem h; rw [List.length_cons]; omega
    | false =>
      rw [hd, e] at h
      rcases List.mem_cons.1 h with rfl | h
      · have := split_mem (t := t) (p := q) (by rw [e]; simp); simp only [List.length_cons]; omega
      · have := split_mem (t := t) (p := p) (by rw [e]; simp [h]); rw [List.length_cons]; omega
theorem split_len {t : List UInt8} (hl : t.length ≤ 2000000) : ∀ p, p ∈ splitM t → p.length ≤ maxLen := fun p hp => by
  have := split_mem hp
  exact le_max2 (by omega)
theorem specColumn (t : List UInt8) (hl : t.length ≤ 2000000) : Ent Tryz.prog 37 [.d (.s t)] [] (.d (.b (colOk t))) [] := by
  have c1 := specSplit t hl
  have hp : ∀ p, p ∈ splitM t → p.length ≤ maxLen := split_len hl
  rw [← two_col]
  generalize splitM t = ps at *
  rcases ps with _ | ⟨a, _ | ⟨b, _ | ⟨c, r⟩⟩⟩
  ·
    refine ent_of tok mixed (f := 37) Tryz.func37 (by kernel_rfl) (keep := false) ?_
    repeat' ((conv => whnf) <;> (first | ((with_reducible refine isCall ?_) <;> (first | (refine ⟨_, c1, ?_⟩; rintro _ _ ⟨rfl, rfl⟩) | fail)) | ((with_reducible refine isCut ?_) <;> (first | refine ⟨⟨none⟩, ?_⟩)) | ((first | with_reducible refine isEx ?_ | with_reducible refine isAnd ?_ | with_reducible refine isOr ?_) <;> (first | ((with_reducible refine isSmall ?_) <;> (refine ⟨?_, ?_⟩; kernel_rfl)) | refine ⟨rfl, ?_⟩ | refine ⟨Int.natCast_nonneg _, ?_⟩)) | with_reducible refine Both.mk ?_ ?_ | rintro _ rfl | exact rfl | (split <;> (rename_i h; first | (simp only [beq_self_eq_true, eq_self, decide_true, Bool.not_true, Bool.false_eq_true] at h; done) | (try rw [h])))))
    all_goals exact ⟨rfl, rfl⟩
  ·
    refine ent_of tok mixed (f := 37) Tryz.func37 (by kernel_rfl) (keep := false) ?_
    repeat' ((conv => whnf) <;> (first | ((with_reducible refine isCall ?_) <;> (first | (refine ⟨_, c1, ?_⟩; rintro _ _ ⟨rfl, rfl⟩) | fail)) | ((with_reducible refine isCut ?_) <;> (first | refine ⟨⟨none⟩, ?_⟩)) | ((first | with_reducible refine isEx ?_ | with_reducible refine isAnd ?_ | with_reducible refine isOr ?_) <;> (first | ((with_reducible refine isSmall ?_) <;> (refine ⟨?_, ?_⟩; kernel_rfl)) | refine ⟨rfl, ?_⟩ | refine ⟨Int.natCast_nonneg _, ?_⟩)) | with_reducible refine Both.mk ?_ ?_ | rintro _ rfl | exact rfl | (split <;> (rename_i h; first | (simp only [beq_self_eq_true, eq_self, decide_true, Bool.not_true, Bool.false_eq_true] at h; done) | (try rw [h])))))
    all_goals exact ⟨rfl, rfl⟩
  · have c2 := specNameRight a (hp a (by simp))
    have c3 := specNameRight b (hp b (by simp))
    show Ent _ _ _ _ (.d (.b (nameOk a && nameOk b))) _
    refine ent_of tok mixed (f := 37) Tryz.func37 (by kernel_rfl) (keep := false) ?_
    repeat' ((conv => whnf) <;> (first | ((with_reducible refine isCall ?_) <;> (first | (refine ⟨_, c1, ?_⟩; rintro _ _ ⟨rfl, rfl⟩) | (refine ⟨_, c2, ?_⟩; rintro _ _ ⟨rfl, rfl⟩) | (refine ⟨_, c3, ?_⟩; rintro _ _ ⟨rfl, rfl⟩) | (refine ⟨⟨(by decide), (by decide)⟩, ?_⟩) | (refine ⟨_, rfl, ?_⟩) | fail)) | ((with_reducible refine isCut ?_) <;> (first | refine ⟨⟨none⟩, ?_⟩)) | ((first | with_reducible refine isEx ?_ | with_reducible refine isAnd ?_ | with_reducible refine isOr ?_) <;> (first | (refine ⟨⟨(by decide), (by decide)⟩, ?_⟩) | (refine ⟨_, rfl, ?_⟩) | ((with_reducible refine isSmall ?_) <;> (refine ⟨?_, ?_⟩; kernel_rfl)) | refine ⟨rfl, ?_⟩ | refine ⟨Int.natCast_nonneg _, ?_⟩)) | with_reducible refine Both.mk ?_ ?_ | rintro _ rfl | exact rfl | (split <;> (rename_i h; first | (simp only [beq_self_eq_true, eq_self, decide_true, Bool.not_true, Bool.false_eq_true] at h; done) | (try rw [h])))))
    all_goals try (conv => whnf)
    all_goals first
      | (simp [*]; done)
      | trace_state
  · have hn : decide ((((a :: b :: c :: r).map strD).length : Int) = 2) = false := decide_eq_false (by simp only [List.length_map, List.length_cons]; omega)
    refine ent_of tok mixed (f := 37) Tryz.func37 (by kernel_rfl) (keep := false) ?_
    repeat' ((conv => whnf) <;> (first | ((with_reducible refine isCall ?_) <;> (first | (refine ⟨_, c1, ?_⟩; rintro _ _ ⟨rfl, rfl⟩) | fail)) | ((with_reducible refine isCut ?_) <;> (first | refine ⟨⟨none⟩, ?_⟩)) | ((first | with_reducible refine isEx ?_ | with_reducible refine isAnd ?_ | with_reducible refine isOr ?_) <;> (first | ((with_reducible refine isSmall ?_) <;> (refine ⟨?_, ?_⟩; kernel_rfl)) | refine ⟨rfl, ?_⟩ | refine ⟨Int.natCast_nonneg _, ?_⟩)) | with_reducible refine Both.mk ?_ ?_ | rintro _ rfl | exact rfl | (exfalso; rw [hn] at h; cases h) | (split <;> (rename_i h; first | (simp only [beq_self_eq_true, eq_self, decide_true, Bool.not_true, Bool.false_eq_true] at h; done) | (try rw [h])))))
    all_goals try (conv => whnf)
    all_goals first
      | exact ⟨rfl, rfl⟩
      | (exfalso; rw [hn] at h; exact Bool.noConfusion h)
      | trace_state
theorem atN_here {n : List UInt8} {xs : List (List UInt8)} {k : Nat} {t : List UInt8} (ht : xs[k]? = some t) (h : decide (n = t) = true) : atN n (xs.drop k) k = (k : Int) := at_here ht (decide_eq_true (of_decide_eq_true h).symm)
theorem atN_next {n : List UInt8} {xs : List (List UInt8)} {k : Nat} {t : List UInt8} (ht : xs[k]? = some t) (h : decide (n = t) = false) : atN n (xs.drop k) k = atN n (xs.drop (k + 1)) (k + 1) := at_next ht (decide_eq_false fun e => of_decide_eq_false h e.symm)
set_option maxHeartbeats 1000000 in
theorem indexN (ns : List (List UInt8)) (hl : ns.length ≤ maxLen) (n : List UInt8) : Ent Tryz.prog 27 [.d (.sl false (ns.map strD)), .d (.s n)] [] (.d (.i .i64 (atN n ns 0))) [] := by
  obtain ⟨o, ho⟩ : ∃ o, o = atN n ns 0 := ⟨_, rfl⟩
  rw [← ho]
  refine ent_of tok mixed (f := 27) Tryz.func27 (by kernel_rfl) (keep := false) ?_
  repeat' ((conv => whnf) <;> (first | ((with_reducible refine isCall ?_) <;> (first | (obtain ⟨x, hx⟩ := get_ex (ss := ns) (k := k) (lt_of_dec (by assumption)); refine ⟨_, get_map' hx, ?_⟩) | fail)) | ((with_reducible refine isLoop ?_) <;> (first | (refine ⟨[0, 1, 7, 8], [], fun st => ∃ (k : Nat) (i : Int), i = k ∧ o = atN n (ns.drop k) k ∧ st = ⟨[(0, .d (.sl false (ns.map strD))), (1, .d (.s n)), (7, .d (.i .i64 ((ns.map strD).length : Int))), (8, .d (.i .i64 i))], []⟩, fun s' => match look 8 s'.env with | some (.d (.i _ n)) => ns.length - n.toNat | _ => 0, rfl, ⟨0, _, rfl, ho, rfl⟩, ?_⟩; rintro st ⟨k, i, rfl, hu, rfl⟩) | (obtain ⟨x, hx⟩ := get_ex (ss := ns) (k := k) (lt_of_dec (by assumption)); refine ⟨_, get_map' hx, ?_⟩) | fail)) | ((with_reducible refine isCut ?_) <;> (first | refine ⟨⟨none⟩, ?_⟩)) | ((first | with_reducible refine isEx ?_ | with_reducible refine isAnd ?_ | with_reducible refine isOr ?_) <;> (first | (obtain ⟨x, hx⟩ := get_ex (ss := ns) (k := k) (lt_of_dec (by assumption)); refine ⟨_, get_map' hx, ?_⟩) | ((with_reducible refine isSmall ?_) <;> (refine ⟨?_, ?_⟩; kernel_rfl)) | refine ⟨rfl, ?_⟩ | refine ⟨Int.natCast_nonneg _, ?_⟩)) | with_reducible refine Both.mk ?_ ?_ | rintro _ rfl | exact rfl | (split <;> (rename_i h; first | (simp only [beq_self_eq_true, eq_self, decide_true, Bool.not_true, Bool.false_eq_true] at h; done) | (try rw [h])))))
  all_goals try (conv => whnf)
  all_goals first
    | (rw [hu, atN_here hx h]; exact ⟨rfl, rfl⟩)
    | exact ⟨⟨k + 1, _, step_up (get_lt hx) hl, hu.trans (atN_next hx h), rfl⟩, mu_up (get_lt hx) hl⟩
    | (rw [hu, at_end (by have := of_decide_eq_false h; rw [List.length_map] at this; omega)]; exact ⟨rfl, rfl⟩)
    | trace_state
theorem containsN (ns : List (List UInt8)) (hl : ns.length ≤ maxLen) (n : List UInt8) : Ent Tryz.prog 25 [.d (.sl false (ns.map strD)), .d (.s n)] [] (.d (.b (hasN ns n))) [] := by
  have c1 := indexN ns hl n
  refine ent_of tok mixed (f := 25) Tryz.func25 (by kernel_rfl) (keep := false) ?_
  repeat' ((conv => whnf) <;> (first | ((with_reducible refine isCall ?_) <;> (first | (refine ⟨_, c1, ?_⟩; rintro _ _ ⟨rfl, rfl⟩) | fail)) | ((with_reducible refine isCut ?_) <;> (first | refine ⟨⟨none⟩, ?_⟩)) | ((first | with_reducible refine isEx ?_ | with_reducible refine isAnd ?_ | with_reducible refine isOr ?_) <;> (first | ((with_reducible refine isSmall ?_) <;> (refine ⟨?_, ?_⟩; kernel_rfl)) | refine ⟨rfl, ?_⟩ | refine ⟨Int.natCast_nonneg _, ?_⟩)) | with_reducible refine Both.mk ?_ ?_ | rintro _ rfl | exact rfl | (split <;> (rename_i h; first | (simp only [beq_self_eq_true, eq_self, decide_true, Bool.not_true, Bool.false_eq_true] at h; done) | (try rw [h])))))
  all_goals exact ⟨rfl, rfl⟩
def opL : List (List UInt8) := [[61], [33, 61], [60], [60, 61], [62], [62, 61]]
theorem op_has (t : List UInt8) : hasN opL t = opOk t := by
  simp only [hasN, opL, atN, opOk]
  have e : ∀ a b : List UInt8, decide (a = b) = decide (b = a) := fun a b => by by_cases h : a = b <;> simp [h, eq_comm]
  rw [e _ t, e _ t, e _ t, e _ t, e _ t, e _ t]
  generalize decide (t = [61]) = b1
  generalize decide (t = [33, 61]) = b2
  generalize decide (t = [60]) = b3
  generalize decide (t = [60, 61]) = b4
  generalize decide (t = [62]) = b5
  generalize decide (t = [62, 61]) = b6
  cases b1 <;> cases b2 <;> cases b3 <;> cases b4 <;> cases b5 <;> cases b6 <;> rfl
theorem implIsOp (t : List UInt8) : Ent Tryz.prog 89 [.d (.s t)] [] (.d (.b (opOk t))) [] := by
  have c1 : Ent Tryz.prog 25 [.d (.sl false [.s [61], .s [33, 61], .s [60], .s [60, 61], .s [62], .s [62, 61]]), .d (.s t)] [] (.d (.b (opOk t))) [] := by
    rw [← op_has]; exact containsN opL (Nat.le_of_ble_eq_true rfl) t
  refine ent_of tok mixed (f := 89) Tryz.func89 (by kernel_rfl) (keep := false) ?_
  repeat' ((conv => whnf) <;> (first | ((with_reducible refine isCall ?_) <;> (first | (refine ⟨_, c1, ?_⟩; rintro _ _ ⟨rfl, rfl⟩) | fail)) | ((with_reducible refine isCut ?_) <;> (first | refine ⟨⟨none⟩, ?_⟩)) | ((first | with_reducible refine isEx ?_ | with_reducible refine isAnd ?_ | with_reducible refine isOr ?_) <;> (first | ((with_reducible refine isSmall ?_) <;> (refine ⟨?_, ?_⟩; kernel_rfl)) | refine ⟨rfl, ?_⟩ | refine ⟨Int.natCast_nonneg _, ?_⟩)) | with_reducible refine Both.mk ?_ ?_ | rintro _ rfl | exact rfl | (split <;> (rename_i h; first | (simp only [beq_self_eq_true, eq_self, decide_true, Bool.not_true, Bool.false_eq_true] at h; done) | (try rw [h])))))
  all_goals exact ⟨rfl, rfl⟩
theorem specOp10 (t : List UInt8) : Ent Tryz.prog 73 [.d (.s t)] [] (.d (.b (opOk t))) [] := by
  refine ent_of tok mixed (f := 73) Tryz.func73 (by kernel_rfl) (keep := false) ?_
  repeat' ((conv => whnf) <;> (first | ((with_reducible refine isCall ?_) <;> (first | fail)) | ((with_reducible refine isCut ?_) <;> (first | refine ⟨⟨none⟩, ?_⟩)) | ((first | with_reducible refine isEx ?_ | with_reducible refine isAnd ?_ | with_reducible refine isOr ?_) <;> (first | ((with_reducible refine isSmall ?_) <;> (refine ⟨?_, ?_⟩; kernel_rfl)) | refine ⟨rfl, ?_⟩ | refine ⟨Int.natCast_nonneg _, ?_⟩)) | with_reducible refine Both.mk ?_ ?_ | rintro _ rfl | exact rfl | (split <;> (rename_i h; first | (simp only [beq_self_eq_true, eq_self, decide_true, Bool.not_true, Bool.false_eq_true] at h; done) | (try rw [h])))))
  all_goals try (conv => whnf)
  all_goals first
    | (refine ⟨congrArg (fun b => AV.d (D.b b)) ?_, rfl⟩; simp [opOk, *]; done)
    | trace_state
theorem plch_iff (c : Int) : plCh c = true ↔ (97 ≤ c ∧ c ≤ 122) ∨ (48 ≤ c ∧ c ≤ 57) ∨ c = 95 ∨ c = 45 := by simp [plCh]
theorem pl_up {l : List UInt8} {k : Nat} (h : plUp l k = true) (h1 : plCh (chAt l k) = true) : plUp l (k + 1) = true := by rw [plUp, h, h1]; rfl
theorem pl_no {l : List UInt8} {k : Nat} (h : plCh (chAt l k) = false) : ∀ {n : Nat}, k < n → plUp l n = false
  | 0, hk => by omega
  | n + 1, hk => by
    rw [plUp]
    by_cases e : k = n
    · subst e; rw [h, Bool.and_false]
    · rw [pl_no h (by omega), Bool.false_and]
set_option maxHeartbeats 2000000 in
theorem specWord (l : List UInt8) (hl : l.length ≤ maxLen) : Ent Tryz.prog 103 [.d (.s l)] [] (.d (.b (plOk l))) [] := by
  refine ent_of tok mixed (f := 103) Tryz.func103 (by kernel_rfl) (keep := false) ?_
  repeat' ((conv => whnf) <;> (first | ((with_reducible refine isCall ?_) <;> (first | (refine ⟨⟨Int.natCast_nonneg _, of_decide_eq_true (by assumption)⟩, ?_⟩) | fail)) | ((with_reducible refine isLoop ?_) <;> (first | (refine ⟨[0, 3], [], fun st => ∃ (k : Nat) (n : Int), n = k ∧ plUp l k = true ∧ k ≤ l.length ∧ st = ⟨[(0, .d (.s l)), (3, .d (.i .i64 n))], []⟩, fun s' => match look 3 s'.env with | some (.d (.i _ n)) => l.length - n.toNat | _ => 0, rfl, ⟨0, _, rfl, rfl, Nat.zero_le _, rfl⟩, ?_⟩; rintro st ⟨k, n, rfl, hu, hk, rfl⟩) | (refine ⟨⟨Int.natCast_nonneg _, of_decide_eq_true (by assumption)⟩, ?_⟩) | fail)) | ((with_reducible refine isCut ?_) <;> (first | refine ⟨⟨none⟩, ?_⟩)) | ((first | with_reducible refine isEx ?_ | with_reducible refine isAnd ?_ | with_reducible refine isOr ?_) <;> (first | (refine ⟨⟨Int.natCast_nonneg _, of_decide_eq_true (by assumption)⟩, ?_⟩) | ((with_reducible refine isSmall ?_) <;> (refine ⟨?_, ?_⟩; kernel_rfl)) | refine ⟨rfl, ?_⟩ | refine ⟨Int.natCast_nonneg _, ?_⟩)) | with_reducible refine Both.mk ?_ ?_ | rintro _ rfl | exact rfl | (split <;> (rename_i h; first | (simp only [beq_self_eq_true, eq_self, decide_true, Bool.not_true, Bool.false_eq_true] at h; done) | (try rw [h])))))
  all_goals try (conv => whnf)
  all_goals first
    | (have hk2 := lt_of_dec' (by assumption : decide ((k : Int) < (l.length : Int)) = true)
       have hq : plCh (chAt l k) = true := by
         simp only [Bool.not_eq_true', Bool.not_eq_false', decide_eq_true_eq, decide_eq_false_iff_not, ge_iff_le, Int.toNat_natCast] at *
         rw [plch_iff, chAt]
         omega
       exact ⟨⟨k + 1, _, step_up hk2 hl, pl_up hu hq, hk2, rfl⟩, mu_up hk2 hl⟩)
    | (have hk2 := lt_of_dec' (by assumption : decide ((k : Int) < (l.length : Int)) = true)
       have hq : plCh (chAt l k) = false := by
         simp only [Bool.not_eq_true', Bool.not_eq_false', decide_eq_true_eq, decide_eq_false_iff_not, ge_iff_le, Int.toNat_natCast] at *
         rw [Bool.eq_false_iff]
         intro h'
         rw [plch_iff, chAt] at h'
         omega
       rw [plOk, pl_no hq hk2]; exact ⟨rfl, rfl⟩)
    | (have e : k = l.length := by have := of_decide_eq_false (by assumption : decide ((k : Int) < (l.length : Int)) = false); omega
       rw [e] at hu
       refine ⟨congrArg (fun b => AV.d (D.b b)) ?_, rfl⟩
       rw [plOk, hu, Bool.true_and]
       exact decide_eq_decide.2 (by omega))
    | trace_state
set_option maxHeartbeats 2000000 in
theorem implPlain (l : List UInt8) (hl : l.length ≤ maxLen) : Ent Tryz.prog 90 [.d (.s l)] [] (.d (.b (plOk l))) [] := by
  refine ent_of tok mixed (f := 90) Tryz.func90 (by kernel_rfl) (keep := false) ?_
  repeat' ((conv => whnf) <;> (first | ((with_reducible refine isCall ?_) <;> (first | (refine ⟨⟨Int.natCast_nonneg _, of_decide_eq_true (by assumption)⟩, ?_⟩) | fail)) | ((with_reducible refine isLoop ?_) <;> (first | (refine ⟨[0, 6, 7], [], fun st => ∃ (k : Nat) (n : Int), n = k ∧ plUp l k = true ∧ k ≤ l.length ∧ st = ⟨[(0, .d (.s l)), (6, .d (.i .i64 (l.length : Int))), (7, .d (.i .i64 n))], []⟩, fun s' => match look 7 s'.env with | some (.d (.i _ n)) => l.length - n.toNat | _ => 0, rfl, ⟨0, _, rfl, rfl, Nat.zero_le _, rfl⟩, ?_⟩; rintro st ⟨k, n, rfl, hu, hk, rfl⟩) | (refine ⟨⟨Int.natCast_nonneg _, of_decide_eq_true (by assumption)⟩, ?_⟩) | fail)) | ((with_reducible refine isCut ?_) <;> (first | refine ⟨⟨none⟩, ?_⟩)) | ((first | with_reducible refine isEx ?_ | with_reducible refine isAnd ?_ | with_reducible refine isOr ?_) <;> (first | (refine ⟨⟨Int.natCast_nonneg _, of_decide_eq_true (by assumption)⟩, ?_⟩) | ((with_reducible refine isSmall ?_) <;> (refine ⟨?_, ?_⟩; kernel_rfl)) | refine ⟨rfl, ?_⟩ | refine ⟨Int.natCast_nonneg _, ?_⟩)) | with_reducible refine Both.mk ?_ ?_ | rintro _ rfl | exact rfl | (split <;> (rename_i h; first | (simp only [beq_self_eq_true, eq_self, decide_true, Bool.not_true, Bool.false_eq_true] at h; done) | (try rw [h])))))
  all_goals try (conv => whnf)
  all_goals first
    | (have hk2 := lt_of_dec' (by assumption : decide ((k : Int) < (l.length : Int)) = true)
       have hq : plCh (chAt l k) = true := by
         simp only [Bool.not_eq_true', Bool.not_eq_false', decide_eq_true_eq, decide_eq_false_iff_not, ge_iff_le, Int.toNat_natCast] at *
         rw [plch_iff, chAt]
         omega
       exact ⟨⟨k + 1, _, step_up hk2 hl, pl_up hu hq, hk2, rfl⟩, mu_up hk2 hl⟩)
    | (have hk2 := lt_of_dec' (by assumption : decide ((k : Int) < (l.length : Int)) = true)
       have hq : plCh (chAt l k) = false := by
         simp only [Bool.not_eq_true', Bool.not_eq_false', decide_eq_true_eq, decide_eq_false_iff_not, ge_iff_le, Int.toNat_natCast] at *
         rw [Bool.eq_false_iff]
         intro h'
         rw [plch_iff, chAt] at h'
         omega
       rw [plOk, pl_no hq hk2]; exact ⟨rfl, rfl⟩)
    | (have e : k = l.length := by have := of_decide_eq_false (by assumption : decide ((k : Int) < (l.length : Int)) = false); omega
       rw [e] at hu
       refine ⟨congrArg (fun b => AV.d (D.b b)) ?_, rfl⟩
       rw [plOk, hu, Bool.true_and]
       exact decide_eq_decide.2 (by omega))
    | trace_state
structure TermFit (t : Term) : Prop where
  col : t.col.length ≤ 2000000
  text : t.val.text.length ≤ maxLen
noncomputable def termI (t : Term) : Bool := colOk t.col && (valOkB t.val && match isW t.op with
  | true => decide (t.val.kind = 0)
  | false => !decide (t.val.kind = 0) && (opOk t.op && match decide (t.val.kind = 2) with
    | true => decide (t.val.n > -1000000000000000000) && decide (t.val.n < 1000000000000000000)
    | false => plOk t.val.text))
theorem termI_eq (t : Term) : termI t = termOk t := by
  unfold termI termOk
  cases hv : valOkB t.val with
  | false => rfl
  | true =>
    have hP : valueP t.val := of_dec hv
    congr 2
    cases isW t.op with
    | true => rfl
    | false =>
      unfold saidB
      rcases hP with ⟨k, _, _⟩ | ⟨k, ⟨n0, n1⟩, e⟩ | ⟨k, e⟩ | ⟨k, n, _⟩
      · rw [k]; rfl
      · rw [k, e]
        have h1 : decide (t.val.n < 1000000000000000000) = true := decide_eq_true (by omega)
        have h2 : decide (t.val.n > -1000000000000000000) = true := decide_eq_true (by omega)
        rw [h1, h2]; rfl
      · rw [k]
        cases decide (t.val.n < 1000000000000000000) <;> cases decide (t.val.n > -1000000000000000000) <;> rfl
      · rw [k, n]
        cases plOk t.val.text <;> rfl
theorem em_of {t : List UInt8} {b : Bool} (h : decide (t = [105, 115]) = b) : isW t = b := h
set_option maxHeartbeats 1000000 in
theorem implTerm (t : Term) (hf : TermFit t) : Ent Tryz.prog 56 [.d (termD t)] [] (.d (.b (termOk t))) [] := by
  have c1 := implColumn t.col (by have := hf.col; omega)
  have c2 := implValueRight t.val
  have c3 := implIsOp t.op
  have c4 := implPlain t.val.text hf.text
  rw [show dec (valueP t.val) = valOkB t.val from rfl] at c2
  rw [← termI_eq]
  obtain ⟨o, ho⟩ : ∃ o, o = termI t := ⟨_, rfl⟩
  rw [← ho]
  unfold termI at ho
  generalize colOk t.col = b1 at *
  generalize valOkB t.val = b2 at *
  generalize opOk t.op = b3 at *
  generalize plOk t.val.text = b4 at *
  refine ent_of tok mixed (f := 56) Tryz.func56 (by kernel_rfl) (keep := false) ?_
  repeat' ((conv => whnf) <;> (first | ((with_reducible refine isCall ?_) <;> (first | (refine ⟨_, c1, ?_⟩; rintro _ _ ⟨rfl, rfl⟩) | (refine ⟨_, c2, ?_⟩; rintro _ _ ⟨rfl, rfl⟩) | (refine ⟨_, c3, ?_⟩; rintro _ _ ⟨rfl, rfl⟩) | (refine ⟨_, c4, ?_⟩; rintro _ _ ⟨rfl, rfl⟩) | fail)) | ((with_reducible refine isCut ?_) <;> (first | refine ⟨⟨none⟩, ?_⟩)) | ((first | with_reducible refine isEx ?_ | with_reducible refine isAnd ?_ | with_reducible refine isOr ?_) <;> (first | ((with_reducible refine isSmall ?_) <;> (refine ⟨?_, ?_⟩; kernel_rfl)) | refine ⟨rfl, ?_⟩ | refine ⟨Int.natCast_nonneg _, ?_⟩)) | with_reducible refine Both.mk ?_ ?_ | rintro _ rfl | exact rfl | (split <;> (rename_i h; first | (simp only [beq_self_eq_true, eq_self, decide_true, Bool.not_true, Bool.false_eq_true] at h; done) | (try rw [h])))))
  all_goals try (conv => whnf)
  all_goals first
    | (have hw : isW t.op = true := by assumption
       rw [hw] at ho
       cases b1 <;> cases b2 <;> simp_all; done)
    | (have hw : isW t.op = false := by assumption
       rw [hw] at ho
       cases b1 <;> cases b2 <;> cases b3 <;> simp_all; done)
    | (have hw : isW t.op = false := by assumption
       have h0 : decide (t.val.kind = 0) = false := by assumption
       have h2 : decide (t.val.kind = 2) = true := by assumption
       rw [hw, h0, h2, h] at ho
       rw [ho]
       cases b1 <;> cases b2 <;> cases b3 <;> exact ⟨rfl, rfl⟩)
    | (cases b1 <;> cases b2 <;> simp_all; done)
    | trace_state
theorem null_eq (v : Val) : (valOkB v && decide (v.kind = 0)) = (decide (v.kind = 0) && (decide (v.n = 0) && (decide (v.text = []) && true))) := by
  by_cases hk : v.kind = 0
  · by_cases hn : v.n = 0
    · by_cases ht : v.text = []
      · have : valOkB v = true := dec_true (.inl ⟨hk, hn, ht⟩)
        simp [this, hk, hn, ht]
      · have : valOkB v = false := dec_false (by rintro (h | h | h | h) <;> simp_all)
        simp [this, ht]
    · have : valOkB v = false := dec_false (by rintro (h | h | h | h) <;> simp_all)
      simp [this, hn]
  · simp [hk]
set_option maxHeartbeats 1000000 in
theorem specTerm (t : Term) (hf : TermFit t) : Ent Tryz.prog 38 [.d (termD t)] [] (.d (.b (termOk t))) [] := by
  have c1 := specColumn t.col hf.col
  have c2 := specValueRight t.val
  have c3 := specOp10 t.op
  have c4 := specWord t.val.text hf.text
  have c5 : Ent Tryz.prog 74 [.d (valD t.val)] [] (.d (.b (valOkB t.val && (!decide (t.val.kind = 0) && saidB t.val)))) [] := by
    rw [show dec (valueP t.val) = valOkB t.val from rfl] at c2
    obtain ⟨o, ho⟩ : ∃ o, o = (valOkB t.val && (!decide (t.val.kind = 0) && saidB t.val)) := ⟨_, rfl⟩
    rw [← ho]
    unfold saidB at ho
    generalize valOkB t.val = b2 at *
    generalize plOk t.val.text = b4 at *
    refine ent_of tok mixed (f := 74) Tryz.func74 (by kernel_rfl) (keep := false) ?_
    repeat' ((conv => whnf) <;> (first | ((with_reducible refine isCall ?_) <;> (first | (refine ⟨_, c2, ?_⟩; rintro _ _ ⟨rfl, rfl⟩) | (refine ⟨_, c4, ?_⟩; rintro _ _ ⟨rfl, rfl⟩) | fail)) | ((with_reducible refine isCut ?_) <;> (first | refine ⟨⟨none⟩, ?_⟩)) | ((first | with_reducible refine isEx ?_ | with_reducible refine isAnd ?_ | with_reducible refine isOr ?_) <;> (first | ((with_reducible refine isSmall ?_) <;> (refine ⟨?_, ?_⟩; kernel_rfl)) | refine ⟨rfl, ?_⟩ | refine ⟨Int.natCast_nonneg _, ?_⟩)) | with_reducible refine Both.mk ?_ ?_ | rintro _ rfl | exact rfl | (split <;> (rename_i h; first | (simp only [beq_self_eq_true, eq_self, decide_true, Bool.not_true, Bool.false_eq_true] at h; done) | (try rw [h])))))
    all_goals try (conv => whnf)
    all_goals first
      | (rw [ho]; exact ⟨rfl, rfl⟩)
      | (simp_all; done)
      | trace_state
  obtain ⟨o, ho⟩ : ∃ o, o = termOk t := ⟨_, rfl⟩
  rw [← ho]
  unfold termOk at ho
  have hz := null_eq t.val
  generalize colOk t.col = b1 at *
  generalize opOk t.op = b3 at *
  generalize valOkB t.val = b2 at *
  generalize saidB t.val = b4 at *
  refine ent_of tok mixed (f := 38) Tryz.func38 (by kernel_rfl) (keep := false) ?_
  repeat' ((conv => whnf) <;> (first | ((with_reducible refine isCall ?_) <;> (first | (refine ⟨_, c1, ?_⟩; rintro _ _ ⟨rfl, rfl⟩) | (refine ⟨_, c3, ?_⟩; rintro _ _ ⟨rfl, rfl⟩) | (refine ⟨_, c5, ?_⟩; rintro _ _ ⟨rfl, rfl⟩) | fail)) | ((with_reducible refine isCut ?_) <;> (first | refine ⟨⟨none⟩, ?_⟩)) | ((first | with_reducible refine isEx ?_ | with_reducible refine isAnd ?_ | with_reducible refine isOr ?_) <;> (first | ((with_reducible refine isSmall ?_) <;> (refine ⟨?_, ?_⟩; kernel_rfl)) | refine ⟨rfl, ?_⟩ | refine ⟨Int.natCast_nonneg _, ?_⟩)) | with_reducible refine Both.mk ?_ ?_ | rintro _ rfl | exact rfl | (split <;> (rename_i h; first | (simp only [beq_self_eq_true, eq_self, decide_true, Bool.not_true, Bool.false_eq_true] at h; done) | (try rw [h])))))
  all_goals try (conv => whnf)
  all_goals first
    | (have hw : isW t.op = true := by assumption
       rw [hw] at ho
       have ho : o = (b1 && (b2 && decide (t.val.kind = 0))) := ho
       rw [hz] at ho
       cases b1 <;> simp_all; done)
    | (have hw : isW t.op = false := by assumption
       rw [hw] at ho
       clear hz
       cases b1
       · simp_all
       · rw [ho]
         first
           | exact ⟨rfl, rfl⟩
           | (cases b2 <;> cases decide (t.val.kind = 0) <;> exact ⟨rfl, rfl⟩))
    | (cases b1 <;> simp_all; done)
    | trace_state
end Go.Pm.Tryz
namespace Go.Pm.Tryz
open Go Go.Proofs
set_option linter.unusedVariables false
set_option linter.unusedSimpArgs false
set_option maxRecDepth 2000000
section
variable {α : Type} {p : α → Bool} {f : α → D} {xs : List α} {k : Nat} {x : α}
theorem any_hit (hx : xs[k]? = some x) (h : p x = true) : decide (((k : Nat) : Int) ≥ 0) = xs.any p := by
  have h1 : xs.any p = true := List.any_eq_true.2 ⟨x, List.mem_of_getElem? hx, h⟩
  rw [h1]; exact decide_eq_true (Int.natCast_nonneg k)
theorem anyP_up (hu : (xs.take k).any p = false) (hx : xs[k]? = some x) (h : p x = false) : (xs.take (k + 1)).any p = false := by
  rw [take_up hx, List.any_append, hu, List.any_cons, h]; rfl
theorem any_end (hu : (xs.take k).any p = false) (h : decide ((k : Int) < ((xs.map f).length : Int)) = false) : decide ((-1 : Int) ≥ 0) = xs.any p := by
  have := of_decide_eq_false h
  rw [List.length_map] at this
  rw [List.take_of_length_le (by omega)] at hu
  rw [hu]; rfl
end
set_option maxHeartbeats 1000000 in
theorem implItem (i : Item) (hl : i.col.length ≤ 2000000) : Ent Tryz.prog 51 [.d (itemD i)] [] (.d (.b (itemOk i))) [] := by
  have c1 := implColumn i.col (by omega)
  obtain ⟨o, ho⟩ : ∃ o, o = itemOk i := ⟨_, rfl⟩
  rw [← ho]
  unfold itemOk at ho
  generalize colOk i.col = b1 at *
  refine ent_of tok mixed (f := 51) Tryz.func51 (by kernel_rfl) (keep := false) ?_
  repeat' ((conv => whnf) <;> (first | ((with_reducible refine isCall ?_) <;> (first | (refine ⟨_, c1, ?_⟩; rintro _ _ ⟨rfl, rfl⟩) | fail)) | ((with_reducible refine isCut ?_) <;> (first | refine ⟨⟨none⟩, ?_⟩)) | ((first | with_reducible refine isEx ?_ | with_reducible refine isAnd ?_ | with_reducible refine isOr ?_) <;> (first | ((with_reducible refine isSmall ?_) <;> (refine ⟨?_, ?_⟩; kernel_rfl)) | refine ⟨rfl, ?_⟩ | refine ⟨Int.natCast_nonneg _, ?_⟩)) | with_reducible refine Both.mk ?_ ?_ | rintro _ rfl | exact rfl | (split <;> (rename_i h; first | (simp only [beq_self_eq_true, eq_self, decide_true, Bool.not_true, Bool.false_eq_true] at h; done) | (try rw [h])))))
  all_goals try (conv => whnf)
  all_goals first
    | (rw [h] at ho; rw [ho]; exact ⟨rfl, rfl⟩)
    | (have e := of_decide_eq_true (by assumption : decide (i.agg = 0) = true); rw [e] at ho; rw [ho]; cases b1 <;> exact ⟨rfl, rfl⟩)
    | (have e := of_decide_eq_true (by assumption : decide (i.agg = 2) = true); rw [e] at ho; rw [ho]; cases b1 <;> exact ⟨rfl, rfl⟩)
    | (have e := of_decide_eq_true (by assumption : decide (i.agg = 3) = true); rw [e] at ho; rw [ho]; cases b1 <;> exact ⟨rfl, rfl⟩)
    | (have e := of_decide_eq_true (by assumption : decide (i.agg = 4) = true); rw [e] at ho; rw [ho]; cases b1 <;> exact ⟨rfl, rfl⟩)
    | (have hn : (decide (0 ≤ i.agg) && decide (i.agg ≤ 4)) = false := by
         simp only [decide_eq_false_iff_not] at *
         rw [Bool.and_eq_false_iff, decide_eq_false_iff_not, decide_eq_false_iff_not]; omega
       rw [hn, (by assumption : decide (i.agg = 1) = false)] at ho
       rw [ho]; exact ⟨rfl, rfl⟩)
    | trace_state
theorem itemBad (i : Item) (hl : i.col.length ≤ 2000000) : Ent Tryz.prog 50 [.d (itemD i)] [] (.d (.b (!itemOk i))) [] := by
  have c1 := implItem i hl
  refine ent_of tok mixed (f := 50) Tryz.func50 (by kernel_rfl) (keep := false) ?_
  repeat' ((conv => whnf) <;> (first | ((with_reducible refine isCall ?_) <;> (first | (refine ⟨_, c1, ?_⟩; rintro _ _ ⟨rfl, rfl⟩) | fail)) | ((with_reducible refine isCut ?_) <;> (first | refine ⟨⟨none⟩, ?_⟩)) | ((first | with_reducible refine isEx ?_ | with_reducible refine isAnd ?_ | with_reducible refine isOr ?_) <;> (first | ((with_reducible refine isSmall ?_) <;> (refine ⟨?_, ?_⟩; kernel_rfl)) | refine ⟨rfl, ?_⟩ | refine ⟨Int.natCast_nonneg _, ?_⟩)) | with_reducible refine Both.mk ?_ ?_ | rintro _ rfl | exact rfl | (split <;> (rename_i h; first | (simp only [beq_self_eq_true, eq_self, decide_true, Bool.not_true, Bool.false_eq_true] at h; done) | (try rw [h])))))
  all_goals exact ⟨rfl, rfl⟩
theorem itemAgg (i : Item) : Ent Tryz.prog 91 [.d (itemD i)] [] (.d (.b (!decide (i.agg = 0)))) [] := by
  refine ent_of tok mixed (f := 91) Tryz.func91 (by kernel_rfl) (keep := false) ?_
  repeat' ((conv => whnf) <;> (first | ((with_reducible refine isCall ?_) <;> (first | fail)) | ((with_reducible refine isCut ?_) <;> (first | refine ⟨⟨none⟩, ?_⟩)) | ((first | with_reducible refine isEx ?_ | with_reducible refine isAnd ?_ | with_reducible refine isOr ?_) <;> (first | ((with_reducible refine isSmall ?_) <;> (refine ⟨?_, ?_⟩; kernel_rfl)) | refine ⟨rfl, ?_⟩ | refine ⟨Int.natCast_nonneg _, ?_⟩)) | with_reducible refine Both.mk ?_ ?_ | rintro _ rfl | exact rfl | (split <;> (rename_i h; first | (simp only [beq_self_eq_true, eq_self, decide_true, Bool.not_true, Bool.false_eq_true] at h; done) | (try rw [h])))))
  all_goals exact ⟨rfl, rfl⟩
theorem itemOut (q : Qry) (i : Item) : Ent Tryz.prog 58 [.d (itemD i), .ptr 0 0] [.var (qryC q)] (.d (.b (decide (i.agg = 0) && !decide (i.col = q.group)))) [.var (qryC q)] := by
  obtain ⟨o, ho⟩ : ∃ o, o = (decide (i.agg = 0) && !decide (i.col = q.group)) := ⟨_, rfl⟩
  rw [← ho]
  refine ent_of tok mixed (f := 58) Tryz.func58 (by kernel_rfl) (keep := false) ?_
  repeat' ((conv => whnf) <;> (first | ((with_reducible refine isCall ?_) <;> (first | fail)) | ((with_reducible refine isCut ?_) <;> (first | refine ⟨⟨none⟩, ?_⟩)) | ((first | with_reducible refine isEx ?_ | with_reducible refine isAnd ?_ | with_reducible refine isOr ?_) <;> (first | ((with_reducible refine isSmall ?_) <;> (refine ⟨?_, ?_⟩; kernel_rfl)) | refine ⟨rfl, ?_⟩ | refine ⟨Int.natCast_nonneg _, ?_⟩)) | with_reducible refine Both.mk ?_ ?_ | rintro _ rfl | exact rfl | (split <;> (rename_i h; first | (simp only [beq_self_eq_true, eq_self, decide_true, Bool.not_true, Bool.false_eq_true] at h; done) | (try rw [h])))))
  all_goals try (conv => whnf)
  all_goals first
    | (rw [h] at ho; rw [ho]; exact ⟨rfl, rfl⟩)
    | (simp_all; done)
    | trace_state
theorem termBad (t : Term) (hf : TermFit t) : Ent Tryz.prog 55 [.d (termD t)] [] (.d (.b (!termOk t))) [] := by
  have c1 := implTerm t hf
  refine ent_of tok mixed (f := 55) Tryz.func55 (by kernel_rfl) (keep := false) ?_
  repeat' ((conv => whnf) <;> (first | ((with_reducible refine isCall ?_) <;> (first | (refine ⟨_, c1, ?_⟩; rintro _ _ ⟨rfl, rfl⟩) | fail)) | ((with_reducible refine isCut ?_) <;> (first | refine ⟨⟨none⟩, ?_⟩)) | ((first | with_reducible refine isEx ?_ | with_reducible refine isAnd ?_ | with_reducible refine isOr ?_) <;> (first | ((with_reducible refine isSmall ?_) <;> (refine ⟨?_, ?_⟩; kernel_rfl)) | refine ⟨rfl, ?_⟩ | refine ⟨Int.natCast_nonneg _, ?_⟩)) | with_reducible refine Both.mk ?_ ?_ | rintro _ rfl | exact rfl | (split <;> (rename_i h; first | (simp only [beq_self_eq_true, eq_self, decide_true, Bool.not_true, Bool.false_eq_true] at h; done) | (try rw [h])))))
  all_goals exact ⟨rfl, rfl⟩
structure Qry.ok (q : Qry) : Prop where
  f : q.fits
  icol : ∀ i, i ∈ q.items → i.col.length ≤ 2000000
  term : ∀ t, t ∈ q.wh → TermFit t
  left : q.left.length ≤ 2000000
  right : q.right.length ≤ 2000000
  group : q.group.length ≤ 2000000
  order : q.order.length ≤ 2000000
set_option maxHeartbeats 1000000 in
theorem indexBad (q : Qry) (hf : q.fits) (hq : ∀ i, i ∈ q.items → i.col.length ≤ 2000000) : EntQ Tryz.prog 85 [.d (.sl false (q.items.map itemD)), .fn 50 []] []
    (fun R O => ∃ n : Int, R = .d (.i .i64 n) ∧ O = [] ∧ decide (n ≥ 0) = q.items.any (fun i => !itemOk i)) := by
  have hl : q.items.length ≤ maxLen := le_max2 hf.items
  obtain ⟨p, hp⟩ : ∃ p : Item → Bool, p = fun i => !itemOk i := ⟨_, rfl⟩
  rw [← hp]
  refine ent_of tok mixed (f := 85) Tryz.func85 (by kernel_rfl) (keep := false) ?_
  repeat' ((conv => whnf) <;> (first | ((with_reducible refine isCall ?_) <;> (first | (refine ⟨_, c1, ?_⟩; rintro _ _ ⟨rfl, rfl⟩) | (obtain ⟨x, hx⟩ := get_ex (ss := q.items) (k := k) (lt_of_dec (by assumption)); have c1 := itemBad x (hq x (get_mem hx)); rw [show (!itemOk x) = p x by rw [hp]] at c1; refine ⟨_, get_map' hx, ?_⟩) | fail)) | ((with_reducible refine isLoop ?_) <;> (first | (refine ⟨[8, 7, 0, 1], [], fun st => ∃ (k : Nat) (i : Int), i = k ∧ (q.items.take k).any p = false ∧ st = ⟨[(8, .d (.i .i64 i)), (7, .d (.i .i64 ((q.items.map itemD).length : Int))), (0, .d (.sl false (q.items.map itemD))), (1, .fn 50 [])], []⟩, fun s' => match look 8 s'.env with | some (.d (.i _ n)) => q.items.length - n.toNat | _ => 0, rfl, ⟨0, _, rfl, rfl, rfl⟩, ?_⟩; rintro st ⟨k, i, rfl, hu, rfl⟩) | (obtain ⟨x, hx⟩ := get_ex (ss := q.items) (k := k) (lt_of_dec (by assumption)); have c1 := itemBad x (hq x (get_mem hx)); rw [show (!itemOk x) = p x by rw [hp]] at c1; refine ⟨_, get_map' hx, ?_⟩) | fail)) | ((with_reducible refine isCut ?_) <;> (first | refine ⟨⟨none⟩, ?_⟩)) | ((first | with_reducible refine isEx ?_ | with_reducible refine isAnd ?_ | with_reducible refine isOr ?_) <;> (first | (obtain ⟨x, hx⟩ := get_ex (ss := q.items) (k := k) (lt_of_dec (by assumption)); have c1 := itemBad x (hq x (get_mem hx)); rw [show (!itemOk x) = p x by rw [hp]] at c1; refine ⟨_, get_map' hx, ?_⟩) | ((with_reducible refine isSmall ?_) <;> (refine ⟨?_, ?_⟩; kernel_rfl)) | refine ⟨rfl, ?_⟩ | refine ⟨Int.natCast_nonneg _, ?_⟩)) | with_reducible refine Both.mk ?_ ?_ | rintro _ rfl | exact rfl | (split <;> (rename_i h; first | (simp only [beq_self_eq_true, eq_self, decide_true, Bool.not_true, Bool.false_eq_true] at h; done) | (try rw [h])))))
  all_goals try (conv => whnf)
  all_goals first
    | exact ⟨_, rfl, rfl, any_hit hx h⟩
    | exact ⟨⟨k + 1, _, step_up (get_lt hx) hl, anyP_up hu hx h, rfl⟩, mu_up (get_lt hx) hl⟩
    | exact ⟨_, rfl, rfl, any_end hu h⟩
    | trace_state
theorem containsBad (q : Qry) (hf : q.fits) (hq : ∀ i, i ∈ q.items → i.col.length ≤ 2000000) : Ent Tryz.prog 49 [.d (.sl false (q.items.map itemD)), .fn 50 []] [] (.d (.b (q.items.any (fun i => !itemOk i)))) [] := by
  have c1 := indexBad q hf hq
  refine ent_of tok mixed (f := 49) Tryz.func49 (by kernel_rfl) (keep := false) ?_
  repeat' ((conv => whnf) <;> (first | ((with_reducible refine isCall ?_) <;> (first | (refine ⟨_, c1, ?_⟩; rintro _ _ ⟨n, rfl, rfl, hn⟩) | fail)) | ((with_reducible refine isCut ?_) <;> (first | refine ⟨⟨none⟩, ?_⟩)) | ((first | with_reducible refine isEx ?_ | with_reducible refine isAnd ?_ | with_reducible refine isOr ?_) <;> (first | ((with_reducible refine isSmall ?_) <;> (refine ⟨?_, ?_⟩; kernel_rfl)) | refine ⟨rfl, ?_⟩ | refine ⟨Int.natCast_nonneg _, ?_⟩)) | with_reducible refine Both.mk ?_ ?_ | rintro _ rfl | exact rfl | (split <;> (rename_i h; first | (simp only [beq_self_eq_true, eq_self, decide_true, Bool.not_true, Bool.false_eq_true] at h; done) | (try rw [h])))))
  all_goals try (conv => whnf)
  all_goals first
    | (rw [← hn]; exact ⟨rfl, rfl⟩)
    | trace_state
set_option maxHeartbeats 1000000 in
theorem indexAgg (q : Qry) (hf : q.fits) : EntQ Tryz.prog 85 [.d (.sl false (q.items.map itemD)), .fn 91 []] []
    (fun R O => ∃ n : Int, R = .d (.i .i64 n) ∧ O = [] ∧ decide (n ≥ 0) = q.items.any (fun i => !decide (i.agg = 0))) := by
  have hl : q.items.length ≤ maxLen := le_max2 hf.items
  obtain ⟨p, hp⟩ : ∃ p : Item → Bool, p = fun i => !decide (i.agg = 0) := ⟨_, rfl⟩
  rw [← hp]
  refine ent_of tok mixed (f := 85) Tryz.func85 (by kernel_rfl) (keep := false) ?_
  repeat' ((conv => whnf) <;> (first | ((with_reducible refine isCall ?_) <;> (first | (refine ⟨_, c1, ?_⟩; rintro _ _ ⟨rfl, rfl⟩) | (obtain ⟨x, hx⟩ := get_ex (ss := q.items) (k := k) (lt_of_dec (by assumption)); have c1 := itemAgg x; rw [show (!decide (x.agg = 0)) = p x by rw [hp]] at c1; refine ⟨_, get_map' hx, ?_⟩) | fail)) | ((with_reducible refine isLoop ?_) <;> (first | (refine ⟨[8, 7, 0, 1], [], fun st => ∃ (k : Nat) (i : Int), i = k ∧ (q.items.take k).any p = false ∧ st = ⟨[(8, .d (.i .i64 i)), (7, .d (.i .i64 ((q.items.map itemD).length : Int))), (0, .d (.sl false (q.items.map itemD))), (1, .fn 91 [])], []⟩, fun s' => match look 8 s'.env with | some (.d (.i _ n)) => q.items.length - n.toNat | _ => 0, rfl, ⟨0, _, rfl, rfl, rfl⟩, ?_⟩; rintro st ⟨k, i, rfl, hu, rfl⟩) | (obtain ⟨x, hx⟩ := get_ex (ss := q.items) (k := k) (lt_of_dec (by assumption)); have c1 := itemAgg x; rw [show (!decide (x.agg = 0)) = p x by rw [hp]] at c1; refine ⟨_, get_map' hx, ?_⟩) | fail)) | ((with_reducible refine isCut ?_) <;> (first | refine ⟨⟨none⟩, ?_⟩)) | ((first | with_reducible refine isEx ?_ | with_reducible refine isAnd ?_ | with_reducible refine isOr ?_) <;> (first | (obtain ⟨x, hx⟩ := get_ex (ss := q.items) (k := k) (lt_of_dec (by assumption)); have c1 := itemAgg x; rw [show (!decide (x.agg = 0)) = p x by rw [hp]] at c1; refine ⟨_, get_map' hx, ?_⟩) | ((with_reducible refine isSmall ?_) <;> (refine ⟨?_, ?_⟩; kernel_rfl)) | refine ⟨rfl, ?_⟩ | refine ⟨Int.natCast_nonneg _, ?_⟩)) | with_reducible refine Both.mk ?_ ?_ | rintro _ rfl | exact rfl | (split <;> (rename_i h; first | (simp only [beq_self_eq_true, eq_self, decide_true, Bool.not_true, Bool.false_eq_true] at h; done) | (try rw [h])))))
  all_goals try (conv => whnf)
  all_goals first
    | exact ⟨_, rfl, rfl, any_hit hx h⟩
    | exact ⟨⟨k + 1, _, step_up (get_lt hx) hl, anyP_up hu hx h, rfl⟩, mu_up (get_lt hx) hl⟩
    | exact ⟨_, rfl, rfl, any_end hu h⟩
    | trace_state
theorem containsAgg (q : Qry) (hf : q.fits) : Ent Tryz.prog 49 [.d (.sl false (q.items.map itemD)), .fn 91 []] [] (.d (.b (q.items.any (fun i => !decide (i.agg = 0))))) [] := by
  have c1 := indexAgg q hf
  refine ent_of tok mixed (f := 49) Tryz.func49 (by kernel_rfl) (keep := false) ?_
  repeat' ((conv => whnf) <;> (first | ((with_reducible refine isCall ?_) <;> (first | (refine ⟨_, c1, ?_⟩; rintro _ _ ⟨n, rfl, rfl, hn⟩) | fail)) | ((with_reducible refine isCut ?_) <;> (first | refine ⟨⟨none⟩, ?_⟩)) | ((first | with_reducible refine isEx ?_ | with_reducible refine isAnd ?_ | with_reducible refine isOr ?_) <;> (first | ((with_reducible refine isSmall ?_) <;> (refine ⟨?_, ?_⟩; kernel_rfl)) | refine ⟨rfl, ?_⟩ | refine ⟨Int.natCast_nonneg _, ?_⟩)) | with_reducible refine Both.mk ?_ ?_ | rintro _ rfl | exact rfl | (split <;> (rename_i h; first | (simp only [beq_self_eq_true, eq_self, decide_true, Bool.not_true, Bool.false_eq_true] at h; done) | (try rw [h])))))
  all_goals try (conv => whnf)
  all_goals first
    | (rw [← hn]; exact ⟨rfl, rfl⟩)
    | trace_state
set_option maxHeartbeats 1000000 in
theorem indexOut (q : Qry) (hf : q.fits) : EntQ Tryz.prog 85 [.d (.sl false (q.items.map itemD)), .fn 58 [.ptr 0 0]] [.var (qryC q)]
    (fun R O => ∃ n : Int, R = .d (.i .i64 n) ∧ O = [.var (qryC q)] ∧ decide (n ≥ 0) = q.items.any (fun i => decide (i.agg = 0) && !decide (i.col = q.group))) := by
  have hl : q.items.length ≤ maxLen := le_max2 hf.items
  obtain ⟨p, hp⟩ : ∃ p : Item → Bool, p = fun i => decide (i.agg = 0) && !decide (i.col = q.group) := ⟨_, rfl⟩
  rw [← hp]
  refine ent_of tok mixed (f := 85) Tryz.func85 (by kernel_rfl) (keep := false) ?_
  repeat' ((conv => whnf) <;> (first | ((with_reducible refine isCall ?_) <;> (first | (refine ⟨_, c1, ?_⟩; rintro _ _ ⟨rfl, rfl⟩) | (obtain ⟨x, hx⟩ := get_ex (ss := q.items) (k := k) (lt_of_dec (by assumption)); have c1 := itemOut q x; rw [show (decide (x.agg = 0) && !decide (x.col = q.group)) = p x by rw [hp]] at c1; refine ⟨_, get_map' hx, ?_⟩) | fail)) | ((with_reducible refine isLoop ?_) <;> (first | (refine ⟨[8, 7, 0, 1], [0], fun st => ∃ (k : Nat) (i : Int), i = k ∧ (q.items.take k).any p = false ∧ st = ⟨[(8, .d (.i .i64 i)), (7, .d (.i .i64 ((q.items.map itemD).length : Int))), (0, .d (.sl false (q.items.map itemD))), (1, .fn 58 [.ptr 0 0])], [(0, .var (qryC q))]⟩, fun s' => match look 8 s'.env with | some (.d (.i _ n)) => q.items.length - n.toNat | _ => 0, rfl, ⟨0, _, rfl, rfl, rfl⟩, ?_⟩; rintro st ⟨k, i, rfl, hu, rfl⟩) | (obtain ⟨x, hx⟩ := get_ex (ss := q.items) (k := k) (lt_of_dec (by assumption)); have c1 := itemOut q x; rw [show (decide (x.agg = 0) && !decide (x.col = q.group)) = p x by rw [hp]] at c1; refine ⟨_, get_map' hx, ?_⟩) | fail)) | ((with_reducible refine isCut ?_) <;> (first | refine ⟨⟨none⟩, ?_⟩)) | ((first | with_reducible refine isEx ?_ | with_reducible refine isAnd ?_ | with_reducible refine isOr ?_) <;> (first | (obtain ⟨x, hx⟩ := get_ex (ss := q.items) (k := k) (lt_of_dec (by assumption)); have c1 := itemOut q x; rw [show (decide (x.agg = 0) && !decide (x.col = q.group)) = p x by rw [hp]] at c1; refine ⟨_, get_map' hx, ?_⟩) | ((with_reducible refine isSmall ?_) <;> (refine ⟨?_, ?_⟩; kernel_rfl)) | refine ⟨rfl, ?_⟩ | refine ⟨Int.natCast_nonneg _, ?_⟩)) | with_reducible refine Both.mk ?_ ?_ | rintro _ rfl | exact rfl | (split <;> (rename_i h; first | (simp only [beq_self_eq_true, eq_self, decide_true, Bool.not_true, Bool.false_eq_true] at h; done) | (try rw [h])))))
  all_goals try (conv => whnf)
  all_goals first
    | exact ⟨_, rfl, rfl, any_hit hx h⟩
    | exact ⟨⟨k + 1, _, step_up (get_lt hx) hl, anyP_up hu hx h, rfl⟩, mu_up (get_lt hx) hl⟩
    | exact ⟨_, rfl, rfl, any_end hu h⟩
    | trace_state
theorem containsOut (q : Qry) (hf : q.fits) : Ent Tryz.prog 49 [.d (.sl false (q.items.map itemD)), .fn 58 [.ptr 0 0]] [.var (qryC q)] (.d (.b (q.items.any (fun i => decide (i.agg = 0) && !decide (i.col = q.group))))) [.var (qryC q)] := by
  have c1 := indexOut q hf
  refine ent_of tok mixed (f := 49) Tryz.func49 (by kernel_rfl) (keep := false) ?_
  repeat' ((conv => whnf) <;> (first | ((with_reducible refine isCall ?_) <;> (first | (refine ⟨_, c1, ?_⟩; rintro _ _ ⟨n, rfl, rfl, hn⟩) | fail)) | ((with_reducible refine isCut ?_) <;> (first | refine ⟨⟨none⟩, ?_⟩)) | ((first | with_reducible refine isEx ?_ | with_reducible refine isAnd ?_ | with_reducible refine isOr ?_) <;> (first | ((with_reducible refine isSmall ?_) <;> (refine ⟨?_, ?_⟩; kernel_rfl)) | refine ⟨rfl, ?_⟩ | refine ⟨Int.natCast_nonneg _, ?_⟩)) | with_reducible refine Both.mk ?_ ?_ | rintro _ rfl | exact rfl | (split <;> (rename_i h; first | (simp only [beq_self_eq_true, eq_self, decide_true, Bool.not_true, Bool.false_eq_true] at h; done) | (try rw [h])))))
  all_goals try (conv => whnf)
  all_goals first
    | (rw [← hn]; exact ⟨rfl, rfl⟩)
    | trace_state
set_option maxHeartbeats 1000000 in
theorem indexTBad (q : Qry) (hf : q.fits) (hq : ∀ t, t ∈ q.wh → TermFit t) : EntQ Tryz.prog 87 [.d (.sl false (q.wh.map termD)), .fn 55 []] []
    (fun R O => ∃ n : Int, R = .d (.i .i64 n) ∧ O = [] ∧ decide (n ≥ 0) = q.wh.any (fun t => !termOk t)) := by
  have hl : q.wh.length ≤ maxLen := le_max2 hf.wh
  obtain ⟨p, hp⟩ : ∃ p : Term → Bool, p = fun t => !termOk t := ⟨_, rfl⟩
  rw [← hp]
  refine ent_of tok mixed (f := 87) Tryz.func87 (by kernel_rfl) (keep := false) ?_
  repeat' ((conv => whnf) <;> (first | ((with_reducible refine isCall ?_) <;> (first | (refine ⟨_, c1, ?_⟩; rintro _ _ ⟨rfl, rfl⟩) | (obtain ⟨x, hx⟩ := get_ex (ss := q.wh) (k := k) (lt_of_dec (by assumption)); have c1 := termBad x (hq x (get_mem hx)); rw [show (!termOk x) = p x by rw [hp]] at c1; refine ⟨_, get_map' hx, ?_⟩) | fail)) | ((with_reducible refine isLoop ?_) <;> (first | (refine ⟨[8, 7, 0, 1], [], fun st => ∃ (k : Nat) (i : Int), i = k ∧ (q.wh.take k).any p = false ∧ st = ⟨[(8, .d (.i .i64 i)), (7, .d (.i .i64 ((q.wh.map termD).length : Int))), (0, .d (.sl false (q.wh.map termD))), (1, .fn 55 [])], []⟩, fun s' => match look 8 s'.env with | some (.d (.i _ n)) => q.wh.length - n.toNat | _ => 0, rfl, ⟨0, _, rfl, rfl, rfl⟩, ?_⟩; rintro st ⟨k, i, rfl, hu, rfl⟩) | (obtain ⟨x, hx⟩ := get_ex (ss := q.wh) (k := k) (lt_of_dec (by assumption)); have c1 := termBad x (hq x (get_mem hx)); rw [show (!termOk x) = p x by rw [hp]] at c1; refine ⟨_, get_map' hx, ?_⟩) | fail)) | ((with_reducible refine isCut ?_) <;> (first | refine ⟨⟨none⟩, ?_⟩)) | ((first | with_reducible refine isEx ?_ | with_reducible refine isAnd ?_ | with_reducible refine isOr ?_) <;> (first | (obtain ⟨x, hx⟩ := get_ex (ss := q.wh) (k := k) (lt_of_dec (by assumption)); have c1 := termBad x (hq x (get_mem hx)); rw [show (!termOk x) = p x by rw [hp]] at c1; refine ⟨_, get_map' hx, ?_⟩) | ((with_reducible refine isSmall ?_) <;> (refine ⟨?_, ?_⟩; kernel_rfl)) | refine ⟨rfl, ?_⟩ | refine ⟨Int.natCast_nonneg _, ?_⟩)) | with_reducible refine Both.mk ?_ ?_ | rintro _ rfl | exact rfl | (split <;> (rename_i h; first | (simp only [beq_self_eq_true, eq_self, decide_true, Bool.not_true, Bool.false_eq_true] at h; done) | (try rw [h])))))
  all_goals try (conv => whnf)
  all_goals first
    | exact ⟨_, rfl, rfl, any_hit hx h⟩
    | exact ⟨⟨k + 1, _, step_up (get_lt hx) hl, anyP_up hu hx h, rfl⟩, mu_up (get_lt hx) hl⟩
    | exact ⟨_, rfl, rfl, any_end hu h⟩
    | trace_state
theorem containsTBad (q : Qry) (hf : q.fits) (hq : ∀ t, t ∈ q.wh → TermFit t) : Ent Tryz.prog 54 [.d (.sl false (q.wh.map termD)), .fn 55 []] [] (.d (.b (q.wh.any (fun t => !termOk t)))) [] := by
  have c1 := indexTBad q hf hq
  refine ent_of tok mixed (f := 54) Tryz.func54 (by kernel_rfl) (keep := false) ?_
  repeat' ((conv => whnf) <;> (first | ((with_reducible refine isCall ?_) <;> (first | (refine ⟨_, c1, ?_⟩; rintro _ _ ⟨n, rfl, rfl, hn⟩) | fail)) | ((with_reducible refine isCut ?_) <;> (first | refine ⟨⟨none⟩, ?_⟩)) | ((first | with_reducible refine isEx ?_ | with_reducible refine isAnd ?_ | with_reducible refine isOr ?_) <;> (first | ((with_reducible refine isSmall ?_) <;> (refine ⟨?_, ?_⟩; kernel_rfl)) | refine ⟨rfl, ?_⟩ | refine ⟨Int.natCast_nonneg _, ?_⟩)) | with_reducible refine Both.mk ?_ ?_ | rintro _ rfl | exact rfl | (split <;> (rename_i h; first | (simp only [beq_self_eq_true, eq_self, decide_true, Bool.not_true, Bool.false_eq_true] at h; done) | (try rw [h])))))
  all_goals try (conv => whnf)
  all_goals first
    | (rw [← hn]; exact ⟨rfl, rfl⟩)
    | trace_state
theorem implGrouped (q : Qry) (hf : q.fits) : Ent Tryz.prog 57 [.d (qryD q)] [] (.d (.b (grouped q))) [] := by
  have c1 := containsAgg q hf
  obtain ⟨o, ho⟩ : ∃ o, o = grouped q := ⟨_, rfl⟩
  rw [← ho]
  unfold grouped at ho
  generalize q.items.any (fun i => !decide (i.agg = 0)) = b1 at *
  refine ent_of tok mixed (f := 57) Tryz.func57 (by kernel_rfl) (keep := false) ?_
  repeat' ((conv => whnf) <;> (first | ((with_reducible refine isCall ?_) <;> (first | (refine ⟨_, c1, ?_⟩; rintro _ _ ⟨rfl, rfl⟩) | fail)) | ((with_reducible refine isCut ?_) <;> (first | refine ⟨⟨none⟩, ?_⟩)) | ((first | with_reducible refine isEx ?_ | with_reducible refine isAnd ?_ | with_reducible refine isOr ?_) <;> (first | ((with_reducible refine isSmall ?_) <;> (refine ⟨?_, ?_⟩; kernel_rfl)) | refine ⟨rfl, ?_⟩ | refine ⟨Int.natCast_nonneg _, ?_⟩)) | with_reducible refine Both.mk ?_ ?_ | rintro _ rfl | exact rfl | (split <;> (rename_i h; first | (simp only [beq_self_eq_true, eq_self, decide_true, Bool.not_true, Bool.false_eq_true] at h; done) | (try rw [h])))))
  all_goals try (conv => whnf)
  all_goals first
    | (have e : (!em q.group) = true := by assumption
       rw [e] at ho; rw [ho]; exact ⟨rfl, rfl⟩)
    | (have e : (!em q.group) = false := by assumption
       rw [e] at ho; rw [ho]; exact ⟨rfl, rfl⟩)
    | trace_state
end Go.Pm.Tryz
namespace Go.Pm.Tryz
open Go Go.Proofs
set_option linter.unusedVariables false
set_option linter.unusedSimpArgs false
set_option maxRecDepth 100000
theorem strs_push (xs : List (List UInt8)) (x : List UInt8) : xs.map strD ++ [D.s x] = (xs ++ [x]).map strD := by rw [List.map_append]; rfl
theorem strs_push2 (xs : List (List UInt8)) (x y : List UInt8) : xs.map strD ++ [D.s x, D.s y] = (xs ++ [x, y]).map strD := by rw [List.map_append]; rfl
theorem take_map_up {α : Type} {f : α → List UInt8} {xs : List α} {k : Nat} {x : α} {h : List (List UInt8)} (hx : xs[k]? = some x) : (h ++ (xs.take k).map f) ++ [f x] = h ++ (xs.take (k + 1)).map f := by
  rw [take_up hx, List.map_append, List.append_assoc]; rfl
theorem take_map_end {α : Type} {f : α → List UInt8} {g : α → D} {xs : List α} {k : Nat} {h : List (List UInt8)} (hk : decide ((k : Int) < ((xs.map g).length : Int)) = false) : h ++ (xs.take k).map f = h ++ xs.map f := by
  have := of_decide_eq_false hk
  rw [List.length_map] at this
  rw [List.take_of_length_le (by omega)]
theorem words_room {α : Type} {f : α → List UInt8} {xs : List α} {h : List (List UInt8)} {k : Nat} (h1 : h.length ≤ 1000 + xs.length) (hl : xs.length ≤ 600000) : ((h ++ (xs.take k).map f).map strD).length ≤ 2000000 := by
  simp only [List.length_map, List.length_append, List.length_take]; omega
theorem room2 {n b : Nat} {x y : D} (h : n ≤ 2000000) (hb : b ≤ 1000) : room (n + [x, y].length) b := by
  have h1 : (n + 2) * b ≤ 2000002 * 1000 := Nat.mul_le_mul (by omega) hb
  have hm : maxLen = 9223372036854775807 := rfl
  show n + 2 ≤ maxLen ∧ (n + 2) * b ≤ 140737488355328
  omega
set_option maxHeartbeats 2000000 in
theorem specNames11 (q : Qry) (hi : q.items.length ≤ 10) (hw : q.wh.length ≤ 20) : Ent Tryz.prog 42 [.d (qryD q)] [] (.d (.sl false ((usedS q).map strD))) [] := by
  have hl1 : q.items.length ≤ maxLen := le_max2 (by omega)
  have hl2 : q.wh.length ≤ maxLen := le_max2 (by omega)
  refine ent_of tok mixed (f := 42) Tryz.func42 (by kernel_rfl) (keep := false) ?_
  repeat' ((conv => whnf) <;> (first | ((with_reducible refine isCall ?_) <;> (first | (refine ⟨⟨by decide, rfl, rfl, roomL (by rw [hxs2]; simp only [List.length_map, List.length_append, List.length_take, List.length_cons, List.length_nil]; omega) (by decide)⟩, ?_⟩) | (refine ⟨⟨by decide, rfl, rfl, roomL (by rw [hxs]; simp only [List.length_map, List.length_append, List.length_take, List.length_nil]; omega) (by decide)⟩, ?_⟩) | (refine ⟨⟨by decide, rfl, rfl, room2 (by rw [hxs2]; simp only [List.length_map, List.length_append, List.length_take, List.length_cons, List.length_nil]; omega) (by decide)⟩, ?_⟩) | (refine ⟨⟨by decide, rfl, rfl, room2 (by rw [hxs]; simp only [List.length_map, List.length_append, List.length_take, List.length_nil]; omega) (by decide)⟩, ?_⟩) | fail)) | ((with_reducible refine isLoop ?_) <;> (first | (refine ⟨[1, 3, 4], [10001, 10006], fun st => ∃ (k : Nat) (i : Int) (xs : List D), i = k ∧ xs = (([] : List (List UInt8)) ++ (q.items.take k).map Item.col).map strD ∧ st = ⟨[(1, .ptr 10001 0), (3, .own 10006), (4, .d (.i .i64 i))], [(10001, .var (qryC q)), (10006, .arr 1 false xs)]⟩, fun s' => match look 4 s'.env with | some (.d (.i _ n)) => q.items.length - n.toNat | _ => 0, rfl, ⟨0, _, _, rfl, rfl, rfl⟩, ?_⟩; rintro st ⟨k, i, xs, rfl, hxs, rfl⟩) | (refine ⟨[1, 3, 5], [10001, 10006], fun st => ∃ (k : Nat) (i : Int) (xs : List D), i = k ∧ xs = ((q.items.map Item.col ++ [q.left, q.right]) ++ (q.wh.take k).map Term.col).map strD ∧ st = ⟨[(1, .ptr 10001 0), (3, .own 10006), (5, .d (.i .i64 i))], [(10001, .var (qryC q)), (10006, .arr 1 false xs)]⟩, fun s' => match look 5 s'.env with | some (.d (.i _ n)) => q.wh.length - n.toNat | _ => 0, rfl, ⟨0, _, _, rfl, ?_, rfl⟩, ?_⟩; rotate_left; rintro st ⟨k2, i2, xs2, rfl, hxs2, rfl⟩) | (refine ⟨⟨by decide, rfl, rfl, roomL (by rw [hxs2]; simp only [List.length_map, List.length_append, List.length_take, List.length_cons, List.length_nil]; omega) (by decide)⟩, ?_⟩) | (refine ⟨⟨by decide, rfl, rfl, roomL (by rw [hxs]; simp only [List.length_map, List.length_append, List.length_take, List.length_nil]; omega) (by decide)⟩, ?_⟩) | (refine ⟨⟨by decide, rfl, rfl, room2 (by rw [hxs2]; simp only [List.length_map, List.length_append, List.length_take, List.length_cons, List.length_nil]; omega) (by decide)⟩, ?_⟩) | (refine ⟨⟨by decide, rfl, rfl, room2 (by rw [hxs]; simp only [List.length_map, List.length_append, List.length_take, List.length_nil]; omega) (by decide)⟩, ?_⟩) | fail)) | ((with_reducible refine isCut ?_) <;> (first | refine ⟨⟨none⟩, ?_⟩)) | ((first | with_reducible refine isEx ?_ | with_reducible refine isAnd ?_ | with_reducible refine isOr ?_) <;> (first | ((with_reducible refine isGet (xs := q.wh.map termD) (i := ((k2 : Nat) : Int).toNat) ?_); obtain ⟨y, hy⟩ := get_ex (ss := q.wh) (k := k2) (lt_of_dec (by assumption)); refine ⟨_, get_map' hy, ?_⟩) | ((with_reducible refine isGet (xs := q.items.map itemD) (i := ((k : Nat) : Int).toNat) ?_); obtain ⟨x, hx⟩ := get_ex (ss := q.items) (k := k) (lt_of_dec (by assumption)); refine ⟨_, get_map' hx, ?_⟩) | (refine ⟨⟨by decide, rfl, rfl, roomL (by rw [hxs2]; simp only [List.length_map, List.length_append, List.length_take, List.length_cons, List.length_nil]; omega) (by decide)⟩, ?_⟩) | (refine ⟨⟨by decide, rfl, rfl, roomL (by rw [hxs]; simp only [List.length_map, List.length_append, List.length_take, List.length_nil]; omega) (by decide)⟩, ?_⟩) | (refine ⟨⟨by decide, rfl, rfl, room2 (by rw [hxs2]; simp only [List.length_map, List.length_append, List.length_take, List.length_cons, List.length_nil]; omega) (by decide)⟩, ?_⟩) | (refine ⟨⟨by decide, rfl, rfl, room2 (by rw [hxs]; simp only [List.length_map, List.length_append, List.length_take, List.length_nil]; omega) (by decide)⟩, ?_⟩) | ((with_reducible refine isSmall ?_) <;> (refine ⟨?_, ?_⟩; kernel_rfl)) | refine ⟨rfl, ?_⟩ | refine ⟨Int.natCast_nonneg _, ?_⟩)) | with_reducible refine Both.mk ?_ ?_ | rintro _ rfl | exact rfl | (split <;> (rename_i h; first | (simp only [beq_self_eq_true, eq_self, decide_true, Bool.not_true, Bool.false_eq_true] at h; done) | (try rw [h])))))
  all_goals try (conv => whnf)
  all_goals first
    | exact ⟨⟨k2 + 1, _, _, step_up (get_lt hy) hl2, (by rw [hxs2, ← take_map_up hy]; exact strs_push _ _), rfl⟩, mu_up (get_lt hy) hl2⟩
    | exact ⟨⟨k + 1, _, _, step_up (get_lt hx) hl1, (by rw [hxs, ← take_map_up hx]; exact strs_push _ _), rfl⟩, mu_up (get_lt hx) hl1⟩
    | (rw [hxs2, take_map_end (f := Term.col) (g := termD) (by assumption), strs_push2]; exact ⟨rfl, rfl⟩)
    | (rw [hxs, take_map_end (f := Item.col) (g := itemD) (by assumption), strs_push2]; rfl)
    | (rw [hxs, take_map_end (f := Item.col) (g := itemD) (by assumption)]; exact (strs_push2 _ _ _).trans (by simp))
    | trace_state
end Go.Pm.Tryz
namespace Go.Pm.Tryz
open Go Go.Proofs
set_option linter.unusedVariables false
set_option linter.unusedSimpArgs false
set_option maxRecDepth 100000
def fromO (ns : List (List UInt8)) (ks : List Int) : List Ob := [.var [.own 1, .own 2, .snil], .arr 1 false (ns.map strD), .arr 1 false (ks.map i64D)]
set_option maxHeartbeats 2000000 in
theorem specAt (ns : List (List UInt8)) (ks : List Int) (hl : ns.length ≤ maxLen) (n : List UInt8) : Ent Tryz.prog 43 [.ptr 0 0, .d (.s n)] (fromO ns ks) (.d (.i .i64 (atN n ns 0))) (fromO ns ks) := by
  obtain ⟨o, ho⟩ : ∃ o, o = atN n ns 0 := ⟨_, rfl⟩
  rw [← ho]
  refine ent_of tok mixed (f := 43) Tryz.func43 (by kernel_rfl) (keep := false) ?_
  repeat' ((conv => whnf) <;> (first | ((with_reducible refine isCall ?_) <;> (first | (refine ⟨⟨Int.natCast_nonneg _, of_decide_eq_true (by assumption)⟩, ?_⟩) | (obtain ⟨x, hx⟩ := get_ex (ss := ns) (k := k) (lt_of_dec (by assumption)); refine ⟨_, get_map' hx, ?_⟩) | fail)) | ((with_reducible refine isLoop ?_) <;> (first | (refine ⟨[0, 1, 5], [0, 1, 2], fun st => ∃ (k : Nat) (i : Int), i = k ∧ o = atN n (ns.drop k) k ∧ st = ⟨[(0, .ptr 0 0), (1, .d (.s n)), (5, .d (.i .i64 i))], [(0, .var [.own 1, .own 2, .snil]), (1, .arr 1 false (ns.map strD)), (2, .arr 1 false (ks.map i64D))]⟩, fun s' => match look 5 s'.env with | some (.d (.i _ n)) => ns.length - n.toNat | _ => 0, rfl, ⟨0, _, rfl, ho, rfl⟩, ?_⟩; rintro st ⟨k, i, rfl, hu, rfl⟩) | (refine ⟨⟨Int.natCast_nonneg _, of_decide_eq_true (by assumption)⟩, ?_⟩) | (obtain ⟨x, hx⟩ := get_ex (ss := ns) (k := k) (lt_of_dec (by assumption)); refine ⟨_, get_map' hx, ?_⟩) | fail)) | ((with_reducible refine isCut ?_) <;> (first | refine ⟨⟨none⟩, ?_⟩)) | ((first | with_reducible refine isEx ?_ | with_reducible refine isAnd ?_ | with_reducible refine isOr ?_) <;> (first | (refine ⟨⟨Int.natCast_nonneg _, of_decide_eq_true (by assumption)⟩, ?_⟩) | (obtain ⟨x, hx⟩ := get_ex (ss := ns) (k := k) (lt_of_dec (by assumption)); refine ⟨_, get_map' hx, ?_⟩) | ((with_reducible refine isSmall ?_) <;> (refine ⟨?_, ?_⟩; kernel_rfl)) | refine ⟨rfl, ?_⟩ | refine ⟨Int.natCast_nonneg _, ?_⟩)) | with_reducible refine Both.mk ?_ ?_ | rintro _ rfl | exact rfl | (split <;> (rename_i h; first | (simp only [beq_self_eq_true, eq_self, decide_true, Bool.not_true, Bool.false_eq_true] at h; done) | (try rw [h])))))
  all_goals try (conv => whnf)
  all_goals first
    | (rw [hu, at_here hx h]; exact ⟨rfl, rfl⟩)
    | exact ⟨⟨k + 1, _, step_up (get_lt hx) hl, hu.trans (at_next hx h), rfl⟩, mu_up (get_lt hx) hl⟩
    | (rw [hu, at_end (by have := of_decide_eq_false h; rw [List.length_map] at this; omega)]; exact ⟨rfl, rfl⟩)
    | trace_state
theorem name_len {l : List UInt8} (h : nameOk l = true) : l.length ≤ 20 := by
  simp only [nameOk, Bool.and_eq_true, decide_eq_true_eq] at h
  exact h.1.2
theorem nums_push (xs : List Int) (x : Int) : xs.map i64D ++ [D.i .i64 x] = (xs ++ [x]).map i64D := by rw [List.map_append]; rfl
theorem take_mapG_up {α β : Type} {f : α → β} {xs : List α} {k : Nat} {x : α} {h : List β} (hx : xs[k]? = some x) : (h ++ (xs.take k).map f) ++ [f x] = h ++ (xs.take (k + 1)).map f := by
  rw [take_up hx, List.map_append, List.append_assoc]; rfl
theorem take_mapG_end {α β : Type} {f : α → β} {g : α → D} {xs : List α} {k : Nat} {h : List β} (hk : decide ((k : Int) < ((xs.map g).length : Int)) = false) : h ++ (xs.take k).map f = h ++ xs.map f := by
  have := of_decide_eq_false hk
  rw [List.length_map] at this
  rw [List.take_of_length_le (by omega)]
def fromN (ns : List (List UInt8)) (ks : List Int) : List Ob := [.var [.own 3, .own 4, .snil], .gone, .gone, .arr 1 false (ns.map strD), .arr 1 false (ks.map i64D)]
set_option maxHeartbeats 4000000 in
theorem specPutA (t : Tab) (hP : tableP t) : Ent Tryz.prog 41 [.ptr 0 0, .d (tabD t)] [.var [.snil, .snil, .snil]] (.tup []) (fromO (([] : List (List UInt8)) ++ t.sch.cols.map (nameIn t.sch.name)) (([] : List Int) ++ t.sch.cols.map Col.kind)) := by
  have hl : t.sch.cols.length ≤ maxLen := Nat.le_trans hP.sch.hi (Nat.le_of_ble_eq_true rfl)
  have hh := hP.sch.hi
  have hnm := name_len hP.sch.name
  refine ent_of (cx := ⟨tab, [], []⟩) tok mixed (f := 41) Tryz.func41 (by kernel_rfl) (keep := true) ?_
  repeat' ((conv => whnf) <;> (first | ((with_reducible refine isCall ?_) <;> (first | refine ⟨_, get_map' hx, ?_⟩ | (refine ⟨(by simp only [List.length_append, List.length_cons, List.length_nil]; omega), ?_⟩) | (refine ⟨⟨by decide, rfl, rfl, roomL (by rw [hxs]; simp only [List.length_map, List.length_append, List.length_take, List.length_nil]; omega) (by decide)⟩, ?_⟩) | (refine ⟨⟨by decide, rfl, rfl, roomL (by rw [hys]; simp only [List.length_map, List.length_append, List.length_take, List.length_nil]; omega) (by decide)⟩, ?_⟩) | fail)) | ((with_reducible refine isLoop ?_) <;> (first | (refine ⟨[0, 3, 4], [0, .cell 10031 1 false 0 0, .cell 10047 1 false 0 1, 10003], fun st => ∃ (k : Nat) (i : Int) (xs ys : List D), i = k ∧ xs = (([] : List (List UInt8)) ++ (t.sch.cols.take k).map (nameIn t.sch.name)).map strD ∧ ys = (([] : List Int) ++ (t.sch.cols.take k).map Col.kind).map i64D ∧ st = ⟨[(0, .ptr 0 0), (3, .ptr 10003 0), (4, .d (.i .i64 i))], [(0, .var [.own 10031, .own 10047, .snil]), (10031, .arr 1 false xs), (10047, .arr 1 false ys), (10003, .var (tabC t))]⟩, fun s' => match look 4 s'.env with | some (.d (.i _ n)) => t.sch.cols.length - n.toNat | _ => 0, ?_, ⟨0, _, _, _, rfl, rfl, rfl, ?_⟩, ?_⟩; kernel_rfl; simp only [List.take_zero, List.map_nil, List.append_nil]; kernel_rfl; rintro _ ⟨k, i, xs, ys, rfl, hxs, hys, rfl⟩) | refine ⟨_, get_map' hx, ?_⟩ | (refine ⟨(by simp only [List.length_append, List.length_cons, List.length_nil]; omega), ?_⟩) | (refine ⟨⟨by decide, rfl, rfl, roomL (by rw [hxs]; simp only [List.length_map, List.length_append, List.length_take, List.length_nil]; omega) (by decide)⟩, ?_⟩) | (refine ⟨⟨by decide, rfl, rfl, roomL (by rw [hys]; simp only [List.length_map, List.length_append, List.length_take, List.length_nil]; omega) (by decide)⟩, ?_⟩) | fail)) | ((with_reducible refine isCut ?_) <;> (first | refine ⟨⟨none⟩, ?_⟩)) | ((first | with_reducible refine isEx ?_ | with_reducible refine isAnd ?_ | with_reducible refine isOr ?_) <;> (first | refine ⟨_, get_map' hx, ?_⟩ | ((with_reducible refine isGet (xs := t.sch.cols.map colD) (i := ((k : Nat) : Int).toNat) ?_); obtain ⟨x, hx⟩ := get_ex (ss := t.sch.cols) (k := k) (lt_of_dec (by assumption)); have hxn := name_len (hP.sch.cols k x hx).1; refine ⟨_, get_map' hx, ?_⟩) | (refine ⟨(by simp only [List.length_append, List.length_cons, List.length_nil]; omega), ?_⟩) | (refine ⟨⟨by decide, rfl, rfl, roomL (by rw [hxs]; simp only [List.length_map, List.length_append, List.length_take, List.length_nil]; omega) (by decide)⟩, ?_⟩) | (refine ⟨⟨by decide, rfl, rfl, roomL (by rw [hys]; simp only [List.length_map, List.length_append, List.length_take, List.length_nil]; omega) (by decide)⟩, ?_⟩) | ((with_reducible refine isSmall ?_) <;> (refine ⟨?_, ?_⟩; kernel_rfl)) | refine ⟨rfl, ?_⟩ | refine ⟨Int.natCast_nonneg _, ?_⟩)) | with_reducible refine Both.mk ?_ ?_ | rintro _ rfl | exact rfl | (split <;> (rename_i h; first | (simp only [beq_self_eq_true, eq_self, decide_true, Bool.not_true, Bool.false_eq_true] at h; done) | (try rw [h])))))
  all_goals try (conv => whnf)
  all_goals first
    | exact ⟨⟨k + 1, _, _, _, step_up (get_lt hx) hl, (by rw [hxs, ← take_mapG_up hx]; exact strs_push _ _), (by rw [hys, ← take_mapG_up hx]; exact nums_push _ _), rfl⟩, mu_up (get_lt hx) hl⟩
    | (rw [hxs, hys, take_mapG_end (g := colD) h, take_mapG_end (g := colD) h]; rfl)
    | trace_state
set_option maxHeartbeats 4000000 in
theorem specPutB (t : Tab) (hP : tableP t) (ns : List (List UInt8)) (ks : List Int) (h1 : ns.length ≤ 1000) (h2 : ks.length ≤ 1000) : Ent Tryz.prog 41 [.ptr 0 0, .d (tabD t)] (fromO ns ks) (.tup []) (fromN (ns ++ t.sch.cols.map (nameIn t.sch.name)) (ks ++ t.sch.cols.map Col.kind)) := by
  have hl : t.sch.cols.length ≤ maxLen := Nat.le_trans hP.sch.hi (Nat.le_of_ble_eq_true rfl)
  have hh := hP.sch.hi
  have hnm := name_len hP.sch.name
  refine ent_ofSN (cx := ⟨tab, [], []⟩) tok mixed (f := 41) Tryz.func41 (by kernel_rfl) (keep := true) (nm := []) (ks := [1, 2]) ?_
  repeat' ((conv => whnf) <;> (first | ((with_reducible refine isCall ?_) <;> (first | refine ⟨_, get_map' hx, ?_⟩ | (refine ⟨(by simp only [List.length_append, List.length_cons, List.length_nil]; omega), ?_⟩) | (refine ⟨⟨by decide, rfl, rfl, roomL (by rw [hxs]; simp only [List.length_map, List.length_append, List.length_take, List.length_nil]; omega) (by decide)⟩, ?_⟩) | (refine ⟨⟨by decide, rfl, rfl, roomL (by rw [hys]; simp only [List.length_map, List.length_append, List.length_take, List.length_nil]; omega) (by decide)⟩, ?_⟩) | fail)) | ((with_reducible refine isLoop ?_) <;> (first | (refine ⟨[0, 3, 4], [0, 1, 2, 9000001, 9000002, 10003], fun st => ∃ (k : Nat) (i : Int) (xs ys : List D), i = k ∧ xs = (ns ++ (t.sch.cols.take k).map (nameIn t.sch.name)).map strD ∧ ys = (ks ++ (t.sch.cols.take k).map Col.kind).map i64D ∧ st = ⟨[(0, .ptr 0 0), (3, .ptr 10003 0), (4, .d (.i .i64 i))], [(0, .var [.own 9000001, .own 9000002, .snil]), (1, .gone), (2, .gone), (9000001, .arr 1 false xs), (9000002, .arr 1 false ys), (10003, .var (tabC t))]⟩, fun s' => match look 4 s'.env with | some (.d (.i _ n)) => t.sch.cols.length - n.toNat | _ => 0, ?_, ⟨0, _, _, _, rfl, rfl, rfl, ?_⟩, ?_⟩; kernel_rfl; simp only [List.take_zero, List.map_nil, List.append_nil]; kernel_rfl; rintro _ ⟨k, i, xs, ys, rfl, hxs, hys, rfl⟩) | refine ⟨_, get_map' hx, ?_⟩ | (refine ⟨(by simp only [List.length_append, List.length_cons, List.length_nil]; omega), ?_⟩) | (refine ⟨⟨by decide, rfl, rfl, roomL (by rw [hxs]; simp only [List.length_map, List.length_append, List.length_take, List.length_nil]; omega) (by decide)⟩, ?_⟩) | (refine ⟨⟨by decide, rfl, rfl, roomL (by rw [hys]; simp only [List.length_map, List.length_append, List.length_take, List.length_nil]; omega) (by decide)⟩, ?_⟩) | fail)) | ((with_reducible refine isCut ?_) <;> (first | refine ⟨⟨none⟩, ?_⟩)) | ((first | with_reducible refine isEx ?_ | with_reducible refine isAnd ?_ | with_reducible refine isOr ?_) <;> (first | refine ⟨_, get_map' hx, ?_⟩ | ((with_reducible refine isGet (xs := t.sch.cols.map colD) (i := ((k : Nat) : Int).toNat) ?_); obtain ⟨x, hx⟩ := get_ex (ss := t.sch.cols) (k := k) (lt_of_dec (by assumption)); have hxn := name_len (hP.sch.cols k x hx).1; refine ⟨_, get_map' hx, ?_⟩) | (refine ⟨(by simp only [List.length_append, List.length_cons, List.length_nil]; omega), ?_⟩) | (refine ⟨⟨by decide, rfl, rfl, roomL (by rw [hxs]; simp only [List.length_map, List.length_append, List.length_take, List.length_nil]; omega) (by decide)⟩, ?_⟩) | (refine ⟨⟨by decide, rfl, rfl, roomL (by rw [hys]; simp only [List.length_map, List.length_append, List.length_take, List.length_nil]; omega) (by decide)⟩, ?_⟩) | ((with_reducible refine isSmall ?_) <;> (refine ⟨?_, ?_⟩; kernel_rfl)) | refine ⟨rfl, ?_⟩ | refine ⟨Int.natCast_nonneg _, ?_⟩)) | with_reducible refine Both.mk ?_ ?_ | rintro _ rfl | exact rfl | (split <;> (rename_i h; first | (simp only [beq_self_eq_true, eq_self, decide_true, Bool.not_true, Bool.false_eq_true] at h; done) | (try rw [h])))))
  all_goals try (conv => whnf)
  all_goals first
    | exact ⟨⟨k + 1, _, _, _, step_up (get_lt hx) hl, (by rw [hxs, ← take_mapG_up hx]; exact strs_push _ _), (by rw [hys, ← take_mapG_up hx]; exact nums_push _ _), rfl⟩, mu_up (get_lt hx) hl⟩
    | (rw [hxs, hys, take_mapG_end (g := colD) h, take_mapG_end (g := colD) h]; rfl)
    | trace_state
end Go.Pm.Tryz
namespace Go.Pm.Tryz
open Go Go.Proofs
set_option linter.unusedVariables false
set_option linter.unusedSimpArgs false
set_option maxRecDepth 100000
def ChkQ (c : Int) (R : AV) (O : List Ob) : Prop := R = .tup [.ptr 0 0, .d (.i .i64 c)] ∧ (O = [.var [.snil, .snil, .snil]] ∨ ∃ ns ks, O = fromO ns ks)
theorem tab_find {ts : List Tab} {nm : List UInt8} (h : ¬ findM nm ts 0 < 0) : ∃ t, (ts.map tabD)[(findM nm ts 0).toNat]? = some (tabD t) ∧ t ∈ ts ∧ t.sch.name = nm ∧ (0 ≤ findM nm ts 0 ∧ findM nm ts 0 < ((ts.map tabD).length : Int)) ∧ colsOf ts nm = t.sch.cols := by
  obtain ⟨j, t, e, ht, hn⟩ := find_name (nm := nm) ts 0 (by omega)
  have e2 : (findM nm ts 0).toNat = j := by rw [e]; omega
  refine ⟨t, by rw [e2]; exact get_map' ht, get_mem ht, hn, ⟨by omega, ?_⟩, cols_some' (decide_eq_false h) (by rw [e2]; exact ht)⟩
  have := get_lt ht
  rw [List.length_map, e]; omega
theorem find_none {ts : List Tab} (hd : dbP ts) : findM [] ts 0 < 0 := by
  by_cases h : findM [] ts 0 < 0
  · exact h
  · obtain ⟨t, _, hm, hn, _⟩ := tab_find h
    obtain ⟨k, hk, e⟩ := List.mem_iff_getElem.1 hm
    have hP := (hd.tabs k t (by rw [List.getElem?_eq_getElem hk, e])).tab
    have := hP.sch.name
    rw [hn] at this; simp [nameOk] at this
end Go.Pm.Tryz
namespace Go.Pm.Tryz
open Go Go.Proofs
set_option linter.unusedVariables false
set_option linter.unusedSimpArgs false
set_option maxRecDepth 100000
def fromR (ns : List (List UInt8)) (ks : List Int) : AV := .rd [.sl false (ns.map strD), .sl false (ks.map i64D), .sl false []]
set_option maxHeartbeats 2000000 in
theorem specAtR (ns : List (List UInt8)) (ks : List Int) (hl : ns.length ≤ maxLen) (n : List UInt8) : Ent Tryz.prog 43 [fromR ns ks, .d (.s n)] [] (.d (.i .i64 (atN n ns 0))) [] := by
  obtain ⟨o, ho⟩ : ∃ o, o = atN n ns 0 := ⟨_, rfl⟩
  rw [← ho]
  refine ent_of tok mixed (f := 43) Tryz.func43 (by kernel_rfl) (keep := false) ?_
  repeat' ((conv => whnf) <;> (first | ((with_reducible refine isCall ?_) <;> (first | (refine ⟨⟨Int.natCast_nonneg _, of_decide_eq_true (by assumption)⟩, ?_⟩) | (refine ⟨Int.natCast_nonneg _, ?_⟩) | (obtain ⟨x, hx⟩ := get_ex (ss := ns) (k := k) (lt_of_dec (by assumption)); refine ⟨_, get_map' hx, ?_⟩) | fail)) | ((with_reducible refine isLoop ?_) <;> (first | (refine ⟨[0, 1, 5], [], fun st => ∃ (k : Nat) (i : Int), i = k ∧ o = atN n (ns.drop k) k ∧ st = ⟨[(0, fromR ns ks), (1, .d (.s n)), (5, .d (.i .i64 i))], []⟩, fun s' => match look 5 s'.env with | some (.d (.i _ n)) => ns.length - n.toNat | _ => 0, rfl, ⟨0, _, rfl, ho, rfl⟩, ?_⟩; rintro st ⟨k, i, rfl, hu, rfl⟩) | (refine ⟨⟨Int.natCast_nonneg _, of_decide_eq_true (by assumption)⟩, ?_⟩) | (refine ⟨Int.natCast_nonneg _, ?_⟩) | (obtain ⟨x, hx⟩ := get_ex (ss := ns) (k := k) (lt_of_dec (by assumption)); refine ⟨_, get_map' hx, ?_⟩) | fail)) | ((with_reducible refine isCut ?_) <;> (first | refine ⟨⟨none⟩, ?_⟩)) | ((first | with_reducible refine isEx ?_ | with_reducible refine isAnd ?_ | with_reducible refine isOr ?_) <;> (first | (refine ⟨⟨Int.natCast_nonneg _, of_decide_eq_true (by assumption)⟩, ?_⟩) | (refine ⟨Int.natCast_nonneg _, ?_⟩) | (obtain ⟨x, hx⟩ := get_ex (ss := ns) (k := k) (lt_of_dec (by assumption)); refine ⟨_, get_map' hx, ?_⟩) | ((with_reducible refine isSmall ?_) <;> (refine ⟨?_, ?_⟩; kernel_rfl)) | refine ⟨rfl, ?_⟩ | refine ⟨Int.natCast_nonneg _, ?_⟩)) | with_reducible refine Both.mk ?_ ?_ | rintro _ rfl | exact rfl | (split <;> (rename_i h; first | (simp only [beq_self_eq_true, eq_self, decide_true, Bool.not_true, Bool.false_eq_true] at h; done) | (try rw [h])))))
  all_goals try (conv => whnf)
  all_goals first
    | (rw [hu, at_here hx h]; exact ⟨rfl, rfl⟩)
    | exact ⟨⟨k + 1, _, step_up (get_lt hx) hl, hu.trans (at_next hx h), rfl⟩, mu_up (get_lt hx) hl⟩
    | (rw [hu, at_end (by have := of_decide_eq_false h; rw [List.length_map] at this; omega)]; exact ⟨rfl, rfl⟩)
    | trace_state
structure KAt (ns : List (List UInt8)) (ks : List Int) (n : List UInt8) : Prop where
  ge : 0 ≤ atN n ns 0
  lt : atN n ns 0 < ((ks.map i64D).length : Int)
  get : (ks.map i64D)[(atN n ns 0).toNat]? = some (.i .i64 (kOf ns ks n))
theorem k_at {ns : List (List UInt8)} {ks : List Int} {n : List UInt8} (hl : ks.length = ns.length) (h : hasN ns n = true) : KAt ns ks n := by
  have h0 : 0 ≤ atN n ns 0 := of_decide_eq_true h
  obtain ⟨j, e, hj⟩ := at_range ns 0 h0
  have e2 : (atN n ns 0).toNat = j := by rw [e]; omega
  refine ⟨h0, by rw [List.length_map, e]; omega, ?_⟩
  obtain ⟨x, hx⟩ := get_ex (ss := ks) (k := j) (by omega)
  rw [e2, kOf, e2, List.getD_eq_getElem?_getD, hx]
  exact get_map' hx
theorem col_nonempty {t : List UInt8} (h : colOk t = true) : t ≠ [] := by
  rintro rfl
  rw [col_none (by simp)] at h; cases h
structure QFine (q : Qry) : Prop where
  items : q.items.length ≤ 10
  wh : q.wh.length ≤ 20
  icol : ∀ i, i ∈ q.items → i.agg = 2 → i.col ≠ []
  tcol : ∀ t, t ∈ q.wh → t.col ≠ []
  left : q.join ≠ [] → q.left ≠ []
  right : q.join ≠ [] → q.right ≠ []
theorem q_fine {q : Qry} (h : qryOk q = true) : QFine q := by
  unfold qryOk joinOk em at h
  simp only [Bool.and_eq_true, Bool.or_eq_true, inside, decide_eq_true_eq, Bool.not_eq_true', decide_eq_false_iff_not, List.all_eq_true] at h
  obtain ⟨⟨⟨⟨_, h1⟩, h2⟩, _⟩, h3, ⟨h4, h5⟩, _⟩ := h
  refine ⟨by omega, h4, fun i hi ha => ?_, fun t ht => ?_, fun hj => ?_, fun hj => ?_⟩
  · have := h2 i hi
    unfold itemOk at this
    rw [decide_eq_false (by omega : ¬ i.agg = 1)] at this
    simp only [Bool.and_eq_true] at this
    exact col_nonempty this.2
  · have := h5 t ht
    unfold termOk at this
    simp only [Bool.and_eq_true] at this
    exact col_nonempty this.1
  · rcases h3 with h3 | h3
    · exact absurd h3.1 hj
    · exact col_nonempty h3.2.2.1
  · rcases h3 with h3 | h3
    · exact absurd h3.1 hj
    · exact col_nonempty h3.2.2.2
theorem good_of {ns us : List (List UInt8)} (h : us.any (badN ns) = false) : ∀ n, n ∈ us → n ≠ [] → hasN ns n = true := by
  intro n hn hne
  rw [List.any_eq_false] at h
  have := h n hn
  unfold badN em at this
  rw [decide_eq_false hne] at this
  simpa using this
theorem bad_yes {ns : List (List UInt8)} {x : List UInt8} (h1 : (!decide (x = [])) = true) (h2 : decide (atN x ns 0 < 0) = true) : badN ns x = true := by
  unfold badN em hasN
  rw [h1, Bool.true_and, Bool.not_eq_true']
  have := of_decide_eq_true h2
  exact decide_eq_false (by omega)
theorem bad_no1 {ns : List (List UInt8)} {x : List UInt8} (h1 : (!decide (x = [])) = false) : badN ns x = false := by
  unfold badN em
  rw [h1]; rfl
theorem bad_no2 {ns : List (List UInt8)} {x : List UInt8} (h2 : decide (atN x ns 0 < 0) = false) : badN ns x = false := by
  unfold badN hasN
  have := of_decide_eq_false h2
  rw [decide_eq_true (by omega)]; simp
def Chk2 (c : Int) (R : AV) (O : List Ob) : Prop := (R = .tup [.ptr 0 0, .d (.i .i64 c)] ∧ (O = [.var [.snil, .snil, .snil]] ∨ ∃ ns ks, O = fromO ns ks)) ∨ ∃ ns ks, R = .tup [fromR ns ks, .d (.i .i64 c)] ∧ O = []
theorem any_hitP {α : Type} {p : α → Bool} {xs : List α} {k : Nat} {x : α} (hx : xs[k]? = some x) (h : p x = true) : xs.any p = true := List.any_eq_true.2 ⟨x, List.mem_of_getElem? hx, h⟩
theorem any_endP {α : Type} {p : α → Bool} {f : α → D} {xs : List α} {k : Nat} (hu : (xs.take k).any p = false) (h : decide ((k : Int) < ((xs.map f).length : Int)) = false) : xs.any p = false := (any_end hu h).symm.trans rfl
end Go.Pm.Tryz
namespace Go.Pm.Tryz
open Go Go.Proofs
set_option linter.unusedVariables false
set_option linter.unusedSimpArgs false
set_option maxRecDepth 100000
theorem join_no {q : Qry} (hj : q.join = []) (h : (!decide (q.join = [])) = true) : False := by
  rw [hj] at h; exact absurd h (by decide)
theorem items_at {ns us : List (List UInt8)} {ks : List Int} {q : Qry} {k : Nat} {z : Item} (hlen : ks.length = ns.length) (hg : ∀ n, n ∈ us → n ≠ [] → hasN ns n = true) (hui : ∀ y, y ∈ q.items → y.col ∈ us) (hf : QFine q) (hz : q.items[k]? = some z) : z.agg = 2 → KAt ns ks z.col :=
  fun h => k_at hlen (hg z.col (hui z (get_mem hz)) (hf.icol z (get_mem hz) h))
set_option maxHeartbeats 8000000 in
theorem specCheckB (ts : List Tab) (hd : dbP ts) (hl : ts.length ≤ maxLen) (q : Qry) (hf : QFine q) (hj : q.join = []) (h1 : ¬ findM q.table ts 0 < 0) : EntQ Tryz.prog 17 [.d (dbArg ts), .d (qryD q)] [] (Chk2 (codeQ ts q)) := by
  obtain ⟨t, hget, hm, hname, hin, hcols⟩ := tab_find h1
  obtain ⟨kt, hkt, ekt⟩ := List.mem_iff_getElem.1 hm
  have hP := (hd.tabs kt t (by rw [List.getElem?_eq_getElem hkt, ekt])).tab
  have c1 := specFind ts hl q.table
  have c2 := specPutA t hP
  have c3 := specNames11 q hf.items hf.wh
  have hn0 : decide (findM q.table ts 0 < 0) = false := decide_eq_false h1
  have hns : namesL ts [q.table, q.join] = [] ++ t.sch.cols.map (nameIn t.sch.name) := by
    have := cols_none (decide_eq_true (find_none hd))
    simp only [namesL, List.flatMap_cons, List.flatMap_nil, List.append_nil, hj, this, List.map_nil, hcols, hname, List.nil_append]
  have hks : kindsL ts [q.table, q.join] = [] ++ t.sch.cols.map Col.kind := by
    have := cols_none (decide_eq_true (find_none hd))
    simp only [kindsL, List.flatMap_cons, List.flatMap_nil, List.append_nil, hj, this, List.map_nil, hcols, List.nil_append]
  have hlen : (([] : List Int) ++ t.sch.cols.map Col.kind).length = (([] : List (List UInt8)) ++ t.sch.cols.map (nameIn t.sch.name)).length := by simp
  have hsm : (([] : List (List UInt8)) ++ t.sch.cols.map (nameIn t.sch.name)).length ≤ maxLen := by
    rw [List.nil_append, List.length_map]; exact Nat.le_trans hP.sch.hi (Nat.le_of_ble_eq_true rfl)
  obtain ⟨o, ho⟩ : ∃ o, o = codeQ ts q := ⟨_, rfl⟩
  rw [← ho]
  unfold codeQ noTabs joinBad whBad itBad at ho
  rw [hns, hks, ← used_same, hn0, show em q.join = true by rw [em, hj]; rfl] at ho
  generalize ([] : List (List UInt8)) ++ t.sch.cols.map (nameIn t.sch.name) = ns at *
  generalize ([] : List Int) ++ t.sch.cols.map Col.kind = ks at *
  have hum : ∀ y, y ∈ q.wh → y.col ∈ usedS q := fun y hy => by simp only [usedS, List.mem_append, List.mem_map]; exact .inl (.inr ⟨y, hy, rfl⟩)
  have hui : ∀ y, y ∈ q.items → y.col ∈ usedS q := fun y hy => by simp only [usedS, List.mem_append, List.mem_map]; exact .inl (.inl (.inl ⟨y, hy, rfl⟩))
  have hul : (usedS q).length ≤ maxLen := by
    have := hf.items; have := hf.wh
    refine Nat.le_trans (m := 100) ?_ (Nat.le_of_ble_eq_true rfl)
    simp only [usedS, List.length_append, List.length_map, List.length_cons, List.length_nil]; omega
  have hwl : q.wh.length ≤ maxLen := Nat.le_trans hf.wh (Nat.le_of_ble_eq_true rfl)
  have hil : q.items.length ≤ maxLen := Nat.le_trans hf.items (Nat.le_of_ble_eq_true rfl)
  obtain ⟨pw, hpw⟩ : ∃ p : Term → Bool, p = fun t => !isW t.op && !decide (t.val.kind = kOf ns ks t.col) := ⟨_, rfl⟩
  obtain ⟨pj, hpj⟩ : ∃ p : Item → Bool, p = fun i => decide (i.agg = 2) && !decide (kOf ns ks i.col = 2) := ⟨_, rfl⟩
  rw [← hpw, ← hpj] at ho
  have epw : ∀ y : Term, pw y = (!isW y.op && !decide (y.val.kind = kOf ns ks y.col)) := fun y => by rw [hpw]
  have epj : ∀ z : Item, pj z = (decide (z.agg = 2) && !decide (kOf ns ks z.col = 2)) := fun z => by rw [hpj]
  clear hpw hpj
  generalize usedS q = us at *
  generalize findM q.table ts 0 = n0 at *
  refine ent_of (cx := ⟨tab, [], []⟩) tok mixed (f := 17) Tryz.func17 (by kernel_rfl) (keep := true) ?_
  repeat' ((conv => whnf) <;> (first | ((with_reducible refine isCall ?_) <;> (first | (refine ⟨_, c1, ?_⟩; rintro _ _ ⟨rfl, rfl⟩) | (refine ⟨_, c2, ?_⟩; rintro _ _ ⟨rfl, rfl⟩) | (refine ⟨_, c3, ?_⟩; rintro _ _ ⟨rfl, rfl⟩) | (refine ⟨_, specAtR ns ks hsm _, ?_⟩; rintro _ _ ⟨rfl, rfl⟩) | (refine ⟨hin, ?_⟩) | (refine ⟨hin.1, ?_⟩) | (refine ⟨_, hget, ?_⟩) | refine ⟨_, get_map' hx, ?_⟩ | refine ⟨_, get_map' hz, ?_⟩ | refine ⟨_, get_map' hy, ?_⟩ | refine ⟨_, ka.get, ?_⟩ | (refine ⟨_, (hzc (of_decide_eq_true (by assumption))).get, ?_⟩) | (refine ⟨⟨ka.ge, ka.lt⟩, ?_⟩) | (refine ⟨ka.ge, ?_⟩) | (refine ⟨⟨(hzc (of_decide_eq_true (by assumption))).ge, (hzc (of_decide_eq_true (by assumption))).lt⟩, ?_⟩) | (refine ⟨(hzc (of_decide_eq_true (by assumption))).ge, ?_⟩) | fail)) | ((with_reducible refine isLoop ?_) <;> (first | (refine ⟨[3, 6, 12], [10003], fun st => ∃ (k : Nat) (i : Int), i = k ∧ (q.items.take k).any pj = false ∧ st = ⟨[(3, .ptr 10003 0), (6, fromR ns ks), (12, .d (.i .i64 i))], [(10003, .var (qryC q))]⟩, fun s' => match look 12 s'.env with | some (.d (.i _ n)) => q.items.length - n.toNat | _ => 0, ?_, ⟨0, _, rfl, rfl, ?_⟩, ?_⟩; kernel_rfl; kernel_rfl; rintro st ⟨k3, i3, rfl, hu3, rfl⟩; have he2 := any_endP (f := termD) hu2 (by assumption)) | (refine ⟨[3, 6, 11], [10003], fun st => ∃ (k : Nat) (i : Int), i = k ∧ (q.wh.take k).any pw = false ∧ st = ⟨[(3, .ptr 10003 0), (6, fromR ns ks), (11, .d (.i .i64 i))], [(10003, .var (qryC q))]⟩, fun s' => match look 11 s'.env with | some (.d (.i _ n)) => q.wh.length - n.toNat | _ => 0, ?_, ⟨0, _, rfl, rfl, ?_⟩, ?_⟩; kernel_rfl; kernel_rfl; rintro st ⟨k2, i2, rfl, hu2, rfl⟩; have he1 := any_endP (f := strD) hu (by assumption); have hg := good_of he1) | (refine ⟨[3, 6, 9, 10], [10003, .frz 10028, .frz 20028, .frz 10014], fun st => ∃ (k : Nat) (i : Int), i = k ∧ (us.take k).any (badN ns) = false ∧ st = ⟨[(3, .ptr 10003 0), (6, fromR ns ks), (9, .d (.sl false (us.map strD))), (10, .d (.i .i64 i))], [(10003, .var (qryC q))]⟩, fun s' => match look 10 s'.env with | some (.d (.i _ n)) => us.length - n.toNat | _ => 0, ?_, ⟨0, _, rfl, rfl, ?_⟩, ?_⟩; kernel_rfl; kernel_rfl; rintro st ⟨k, i, rfl, hu, rfl⟩) | (refine ⟨hin, ?_⟩) | (refine ⟨hin.1, ?_⟩) | (refine ⟨_, hget, ?_⟩) | refine ⟨_, get_map' hx, ?_⟩ | refine ⟨_, get_map' hz, ?_⟩ | refine ⟨_, get_map' hy, ?_⟩ | refine ⟨_, ka.get, ?_⟩ | (refine ⟨_, (hzc (of_decide_eq_true (by assumption))).get, ?_⟩) | (refine ⟨⟨ka.ge, ka.lt⟩, ?_⟩) | (refine ⟨ka.ge, ?_⟩) | (refine ⟨⟨(hzc (of_decide_eq_true (by assumption))).ge, (hzc (of_decide_eq_true (by assumption))).lt⟩, ?_⟩) | (refine ⟨(hzc (of_decide_eq_true (by assumption))).ge, ?_⟩) | fail)) | ((with_reducible refine isCut ?_) <;> (first | refine ⟨⟨none⟩, ?_⟩)) | ((first | with_reducible refine isEx ?_ | with_reducible refine isAnd ?_ | with_reducible refine isOr ?_) <;> (first | (refine ⟨hin, ?_⟩) | (refine ⟨hin.1, ?_⟩) | (refine ⟨_, hget, ?_⟩) | refine ⟨_, get_map' hx, ?_⟩ | refine ⟨_, get_map' hz, ?_⟩ | refine ⟨_, get_map' hy, ?_⟩ | refine ⟨_, ka.get, ?_⟩ | (refine ⟨_, (hzc (of_decide_eq_true (by assumption))).get, ?_⟩) | (refine ⟨⟨ka.ge, ka.lt⟩, ?_⟩) | (refine ⟨ka.ge, ?_⟩) | (refine ⟨⟨(hzc (of_decide_eq_true (by assumption))).ge, (hzc (of_decide_eq_true (by assumption))).lt⟩, ?_⟩) | (refine ⟨(hzc (of_decide_eq_true (by assumption))).ge, ?_⟩) | ((with_reducible refine isGet (xs := q.items.map itemD) (i := ((k3 : Nat) : Int).toNat) ?_); obtain ⟨z, hz⟩ := get_ex (ss := q.items) (k := k3) (lt_of_dec (by assumption)); have hzc := items_at hlen hg hui hf hz; refine ⟨_, get_map' hz, ?_⟩) | ((with_reducible refine isGet (xs := q.wh.map termD) (i := ((k2 : Nat) : Int).toNat) ?_); obtain ⟨y, hy⟩ := get_ex (ss := q.wh) (k := k2) (lt_of_dec (by assumption)); have ka := k_at hlen (hg y.col (hum y (get_mem hy)) (hf.tcol y (get_mem hy))); refine ⟨_, get_map' hy, ?_⟩) | ((with_reducible refine isGet (xs := us.map strD) (i := ((k : Nat) : Int).toNat) ?_); obtain ⟨x, hx⟩ := get_ex (ss := us) (k := k) (lt_of_dec (by assumption)); refine ⟨_, get_map' hx, ?_⟩) | ((with_reducible refine isSmall ?_) <;> (refine ⟨?_, ?_⟩; kernel_rfl)) | refine ⟨rfl, ?_⟩ | refine ⟨Int.natCast_nonneg _, ?_⟩)) | with_reducible refine Both.mk ?_ ?_ | (exfalso; exact join_no hj (by assumption)) | rintro _ rfl | exact rfl | (split <;> (rename_i h; first | (simp only [beq_self_eq_true, eq_self, decide_true, Bool.not_true, Bool.false_eq_true] at h; done) | (try rw [h])))))
  all_goals try (conv => whnf)
  all_goals first
    | exact absurd (of_decide_eq_true h) h1
    | (exfalso; rw [hj] at h; exact absurd h (by decide))
    | (have hb := any_hitP hx (bad_yes (by assumption) (by assumption))
       rw [hb] at ho
       rw [ho]; exact .inr ⟨ns, ks, rfl, rfl⟩)
    | exact ⟨⟨k + 1, _, step_up (get_lt hx) hul, anyP_up hu hx (bad_no2 (by assumption)), rfl⟩, mu_up (get_lt hx) hul⟩
    | exact ⟨⟨k + 1, _, step_up (get_lt hx) hul, anyP_up hu hx (bad_no1 (by assumption)), rfl⟩, mu_up (get_lt hx) hul⟩
    | (have hb2 : pw y = true := by
         rw [epw]; simp_all [isW]
       rw [he1, any_hitP hy hb2] at ho
       rw [ho]; exact .inr ⟨ns, ks, rfl, rfl⟩)
    | (have hb2 : pw y = false := by
         rw [epw]; simp_all [isW]
       exact ⟨⟨k2 + 1, _, step_up (get_lt hy) hwl, anyP_up hu2 hy hb2, rfl⟩, mu_up (get_lt hy) hwl⟩)
    | (have hb3 : pj z = true := by
         rw [epj]; simp_all
       rw [he1, he2, any_hitP hz hb3] at ho
       rw [ho]; exact .inr ⟨ns, ks, rfl, rfl⟩)
    | (have hb3 : pj z = false := by
         rw [epj]; simp_all
       exact ⟨⟨k3 + 1, _, step_up (get_lt hz) hil, anyP_up hu3 hz hb3, rfl⟩, mu_up (get_lt hz) hil⟩)
    | (rw [he1, he2, any_endP (f := itemD) hu3 h] at ho
       rw [ho]; exact .inr ⟨ns, ks, rfl, rfl⟩)
    | (with_reducible trace_state)
end Go.Pm.Tryz
namespace Go.Pm.Tryz
open Go Go.Proofs
set_option linter.unusedVariables false
set_option linter.unusedSimpArgs false
set_option maxRecDepth 100000
theorem join_yes {q : Qry} (hj : q.join ≠ []) (h : (!decide (q.join = [])) = false) : False := by
  rw [decide_eq_false hj] at h; cases h
set_option maxHeartbeats 8000000 in
theorem specCheckN (ts : List Tab) (hl : ts.length ≤ maxLen) (q : Qry) (h1 : findM q.table ts 0 < 0) : EntQ Tryz.prog 17 [.d (dbArg ts), .d (qryD q)] [] (Chk2 (codeQ ts q)) := by
  have c1 := specFind ts hl q.table
  obtain ⟨o, ho⟩ : ∃ o, o = codeQ ts q := ⟨_, rfl⟩
  rw [← ho]
  unfold codeQ noTabs at ho
  rw [decide_eq_true h1] at ho
  generalize findM q.table ts 0 = n0 at *
  refine ent_of (cx := ⟨tab, [], []⟩) tok mixed (f := 17) Tryz.func17 (by kernel_rfl) (keep := true) ?_
  repeat' ((conv => whnf) <;> (first | ((with_reducible refine isCall ?_) <;> (first | (refine ⟨_, c1, ?_⟩; rintro _ _ ⟨rfl, rfl⟩) | fail)) | ((with_reducible refine isCut ?_) <;> (first | refine ⟨⟨none⟩, ?_⟩)) | ((first | with_reducible refine isEx ?_ | with_reducible refine isAnd ?_ | with_reducible refine isOr ?_) <;> (first | ((with_reducible refine isSmall ?_) <;> (refine ⟨?_, ?_⟩; kernel_rfl)) | refine ⟨rfl, ?_⟩ | refine ⟨Int.natCast_nonneg _, ?_⟩)) | with_reducible refine Both.mk ?_ ?_ | rintro _ rfl | exact rfl | (split <;> (rename_i h; first | (simp only [beq_self_eq_true, eq_self, decide_true, Bool.not_true, Bool.false_eq_true] at h; done) | (try rw [h])))))
  all_goals try (conv => whnf)
  all_goals first
    | (rw [ho]; exact .inl ⟨rfl, .inl rfl⟩)
    | exact absurd h1 (of_decide_eq_false (by assumption))
    | (with_reducible trace_state)
set_option maxHeartbeats 8000000 in
theorem specCheckJ (ts : List Tab) (hd : dbP ts) (hl : ts.length ≤ maxLen) (q : Qry) (h1 : ¬ findM q.table ts 0 < 0) (hj : q.join ≠ []) (h2 : findM q.join ts 0 < 0) : EntQ Tryz.prog 17 [.d (dbArg ts), .d (qryD q)] [] (Chk2 (codeQ ts q)) := by
  obtain ⟨t, hget, hm, hname, hin, hcols⟩ := tab_find h1
  obtain ⟨kt, hkt, ekt⟩ := List.mem_iff_getElem.1 hm
  have hP := (hd.tabs kt t (by rw [List.getElem?_eq_getElem hkt, ekt])).tab
  have c1 := specFind ts hl q.table
  have c1b := specFind ts hl q.join
  have c2 := specPutA t hP
  obtain ⟨o, ho⟩ : ∃ o, o = codeQ ts q := ⟨_, rfl⟩
  rw [← ho]
  unfold codeQ noTabs em at ho
  rw [decide_eq_false h1, decide_eq_true h2, decide_eq_false hj] at ho
  generalize ([] : List (List UInt8)) ++ t.sch.cols.map (nameIn t.sch.name) = ns at *
  generalize ([] : List Int) ++ t.sch.cols.map Col.kind = ks at *
  generalize findM q.table ts 0 = n0 at *
  generalize findM q.join ts 0 = n1 at *
  refine ent_of (cx := ⟨tab, [], []⟩) tok mixed (f := 17) Tryz.func17 (by kernel_rfl) (keep := true) ?_
  repeat' ((conv => whnf) <;> (first | ((with_reducible refine isCall ?_) <;> (first | (refine ⟨_, c1, ?_⟩; rintro _ _ ⟨rfl, rfl⟩) | (refine ⟨_, c1b, ?_⟩; rintro _ _ ⟨rfl, rfl⟩) | (refine ⟨_, c2, ?_⟩; rintro _ _ ⟨rfl, rfl⟩) | (refine ⟨hin, ?_⟩) | (refine ⟨hin.1, ?_⟩) | (refine ⟨_, hget, ?_⟩) | fail)) | ((with_reducible refine isCut ?_) <;> (first | refine ⟨⟨none⟩, ?_⟩)) | ((first | with_reducible refine isEx ?_ | with_reducible refine isAnd ?_ | with_reducible refine isOr ?_) <;> (first | (refine ⟨hin, ?_⟩) | (refine ⟨hin.1, ?_⟩) | (refine ⟨_, hget, ?_⟩) | ((with_reducible refine isSmall ?_) <;> (refine ⟨?_, ?_⟩; kernel_rfl)) | refine ⟨rfl, ?_⟩ | refine ⟨Int.natCast_nonneg _, ?_⟩)) | with_reducible refine Both.mk ?_ ?_ | (exfalso; exact join_yes hj (by assumption)) | rintro _ rfl | exact rfl | (split <;> (rename_i h; first | (simp only [beq_self_eq_true, eq_self, decide_true, Bool.not_true, Bool.false_eq_true] at h; done) | (try rw [h])))))
  all_goals try (conv => whnf)
  all_goals first
    | exact absurd (of_decide_eq_true (by assumption)) h1
    | (rw [ho]; exact .inl ⟨rfl, .inr ⟨ns, ks, rfl⟩⟩)
    | exact absurd h2 (of_decide_eq_false (by assumption))
    | (exfalso; rw [decide_eq_false hj] at *; simp_all; done)
    | (with_reducible trace_state)
set_option maxHeartbeats 8000000 in
theorem specCheckD (ts : List Tab) (hd : dbP ts) (hl : ts.length ≤ maxLen) (q : Qry) (hf : QFine q) (hj : q.join ≠ []) (h1 : ¬ findM q.table ts 0 < 0) (h2 : ¬ findM q.join ts 0 < 0) : EntQ Tryz.prog 17 [.d (dbArg ts), .d (qryD q)] [] (Chk2 (codeQ ts q)) := by
  obtain ⟨t, hget, hm, hname, hin, hcols⟩ := tab_find h1
  obtain ⟨kt, hkt, ekt⟩ := List.mem_iff_getElem.1 hm
  have hP := (hd.tabs kt t (by rw [List.getElem?_eq_getElem hkt, ekt])).tab
  obtain ⟨u, hgetu, hmu, hnameu, hinu, hcolsu⟩ := tab_find h2
  obtain ⟨ku, hku, eku⟩ := List.mem_iff_getElem.1 hmu
  have hPu := (hd.tabs ku u (by rw [List.getElem?_eq_getElem hku, eku])).tab
  have c1 := specFind ts hl q.table
  have c1b := specFind ts hl q.join
  have c2 := specPutA t hP
  have hbt := hP.sch.hi
  have hbu := hPu.sch.hi
  have c2b := specPutB u hPu (([] : List (List UInt8)) ++ t.sch.cols.map (nameIn t.sch.name)) (([] : List Int) ++ t.sch.cols.map Col.kind) (by simp; omega) (by simp; omega)
  have c3 := specNames11 q hf.items hf.wh
  have hn0 : decide (findM q.table ts 0 < 0) = false := decide_eq_false h1
  have hn1 : decide (findM q.join ts 0 < 0) = false := decide_eq_false h2
  have hns : namesL ts [q.table, q.join] = ([] ++ t.sch.cols.map (nameIn t.sch.name)) ++ u.sch.cols.map (nameIn u.sch.name) := by
    simp only [namesL, List.flatMap_cons, List.flatMap_nil, List.append_nil, hcols, hname, hcolsu, hnameu, List.nil_append]
  have hks : kindsL ts [q.table, q.join] = ([] ++ t.sch.cols.map Col.kind) ++ u.sch.cols.map Col.kind := by
    simp only [kindsL, List.flatMap_cons, List.flatMap_nil, List.append_nil, hcols, hcolsu, List.nil_append]
  have hlen : ((([] : List Int) ++ t.sch.cols.map Col.kind) ++ u.sch.cols.map Col.kind).length = ((([] : List (List UInt8)) ++ t.sch.cols.map (nameIn t.sch.name)) ++ u.sch.cols.map (nameIn u.sch.name)).length := by simp
  have hsm : ((([] : List (List UInt8)) ++ t.sch.cols.map (nameIn t.sch.name)) ++ u.sch.cols.map (nameIn u.sch.name)).length ≤ maxLen := le_max2 (by simp; omega)
  obtain ⟨o, ho⟩ : ∃ o, o = codeQ ts q := ⟨_, rfl⟩
  rw [← ho]
  unfold codeQ noTabs joinBad whBad itBad at ho
  rw [hns, hks, ← used_same, hn0, hn1, show em q.join = false from decide_eq_false hj, Bool.not_false, Bool.true_and] at ho
  generalize ([] : List (List UInt8)) ++ t.sch.cols.map (nameIn t.sch.name) = ns0 at *
  generalize ([] : List Int) ++ t.sch.cols.map Col.kind = ks0 at *
  generalize ns0 ++ u.sch.cols.map (nameIn u.sch.name) = ns at *
  generalize ks0 ++ u.sch.cols.map Col.kind = ks at *
  have hum : ∀ y, y ∈ q.wh → y.col ∈ usedS q := fun y hy => by simp only [usedS, List.mem_append, List.mem_map]; exact .inl (.inr ⟨y, hy, rfl⟩)
  have hui : ∀ y, y ∈ q.items → y.col ∈ usedS q := fun y hy => by simp only [usedS, List.mem_append, List.mem_map]; exact .inl (.inl (.inl ⟨y, hy, rfl⟩))
  have hul : (usedS q).length ≤ maxLen := by
    have := hf.items; have := hf.wh
    refine Nat.le_trans (m := 100) ?_ (Nat.le_of_ble_eq_true rfl)
    simp only [usedS, List.length_append, List.length_map, List.length_cons, List.length_nil]; omega
  have hwl : q.wh.length ≤ maxLen := Nat.le_trans hf.wh (Nat.le_of_ble_eq_true rfl)
  have hil : q.items.length ≤ maxLen := Nat.le_trans hf.items (Nat.le_of_ble_eq_true rfl)
  obtain ⟨pw, hpw⟩ : ∃ p : Term → Bool, p = fun t => !isW t.op && !decide (t.val.kind = kOf ns ks t.col) := ⟨_, rfl⟩
  obtain ⟨pj, hpj⟩ : ∃ p : Item → Bool, p = fun i => decide (i.agg = 2) && !decide (kOf ns ks i.col = 2) := ⟨_, rfl⟩
  rw [← hpw, ← hpj] at ho
  have epw : ∀ y : Term, pw y = (!isW y.op && !decide (y.val.kind = kOf ns ks y.col)) := fun y => by rw [hpw]
  have epj : ∀ z : Item, pj z = (decide (z.agg = 2) && !decide (kOf ns ks z.col = 2)) := fun z => by rw [hpj]
  clear hpw hpj
  obtain ⟨jb, hjb⟩ : ∃ b, b = !decide (kOf ns ks q.left = kOf ns ks q.right) := ⟨_, rfl⟩
  rw [← hjb] at ho
  have hkl : ∀ k : Nat, ((usedS q).take k).any (badN ns) = false → decide ((k : Int) < (((usedS q).map strD).length : Int)) = false → KAt ns ks q.left ∧ KAt ns ks q.right := fun k hu h => by
    have hg := good_of (any_endP (f := strD) hu h)
    exact ⟨k_at hlen (hg _ (by simp [usedS]) (hf.left hj)), k_at hlen (hg _ (by simp [usedS]) (hf.right hj))⟩
  generalize usedS q = us at *
  generalize findM q.table ts 0 = n0 at *
  generalize findM q.join ts 0 = n1 at *
  refine ent_of (cx := ⟨tab, [], []⟩) tok mixed (f := 17) Tryz.func17 (by kernel_rfl) (keep := true) ?_
  repeat' ((conv => whnf) <;> (first | ((with_reducible refine isCall ?_) <;> (first | (refine ⟨_, c1, ?_⟩; rintro _ _ ⟨rfl, rfl⟩) | (refine ⟨_, c1b, ?_⟩; rintro _ _ ⟨rfl, rfl⟩) | (refine ⟨_, c2, ?_⟩; rintro _ _ ⟨rfl, rfl⟩) | (refine ⟨_, c2b, ?_⟩; rintro _ _ ⟨rfl, rfl⟩) | (refine ⟨_, c3, ?_⟩; rintro _ _ ⟨rfl, rfl⟩) | (refine ⟨_, specAtR ns ks hsm _, ?_⟩; rintro _ _ ⟨rfl, rfl⟩) | (refine ⟨hin, ?_⟩) | (refine ⟨hin.1, ?_⟩) | (refine ⟨_, hget, ?_⟩) | (refine ⟨⟨(hkl _ hu (by assumption)).1.ge, (hkl _ hu (by assumption)).1.lt⟩, ?_⟩) | (refine ⟨(hkl _ hu (by assumption)).1.ge, ?_⟩) | (refine ⟨_, (hkl _ hu (by assumption)).1.get, ?_⟩) | (refine ⟨⟨(hkl _ hu (by assumption)).2.ge, (hkl _ hu (by assumption)).2.lt⟩, ?_⟩) | (refine ⟨(hkl _ hu (by assumption)).2.ge, ?_⟩) | (refine ⟨_, (hkl _ hu (by assumption)).2.get, ?_⟩) | (refine ⟨hinu, ?_⟩) | (refine ⟨hinu.1, ?_⟩) | (refine ⟨_, hgetu, ?_⟩) | refine ⟨_, get_map' hx, ?_⟩ | refine ⟨_, get_map' hz, ?_⟩ | refine ⟨_, get_map' hy, ?_⟩ | refine ⟨_, ka.get, ?_⟩ | (refine ⟨_, (hzc (of_decide_eq_true (by assumption))).get, ?_⟩) | (refine ⟨⟨ka.ge, ka.lt⟩, ?_⟩) | (refine ⟨ka.ge, ?_⟩) | (refine ⟨⟨(hzc (of_decide_eq_true (by assumption))).ge, (hzc (of_decide_eq_true (by assumption))).lt⟩, ?_⟩) | (refine ⟨(hzc (of_decide_eq_true (by assumption))).ge, ?_⟩) | fail)) | ((with_reducible refine isLoop ?_) <;> (first | (refine ⟨[], [], fun _ => False, fun _ => 0, (join_yes hj (by assumption)).elim, (join_yes hj (by assumption)).elim, (join_yes hj (by assumption)).elim⟩) | (refine ⟨[3, 6, 12], [10003], fun st => ∃ (k : Nat) (i : Int), i = k ∧ (q.items.take k).any pj = false ∧ st = ⟨[(3, .ptr 10003 0), (6, fromR ns ks), (12, .d (.i .i64 i))], [(10003, .var (qryC q))]⟩, fun s' => match look 12 s'.env with | some (.d (.i _ n)) => q.items.length - n.toNat | _ => 0, ?_, ⟨0, _, rfl, rfl, ?_⟩, ?_⟩; kernel_rfl; kernel_rfl; rintro st ⟨k3, i3, rfl, hu3, rfl⟩; have he2 := any_endP (f := termD) hu2 (by assumption)) | (refine ⟨[3, 6, 11], [10003], fun st => ∃ (k : Nat) (i : Int), i = k ∧ (q.wh.take k).any pw = false ∧ st = ⟨[(3, .ptr 10003 0), (6, fromR ns ks), (11, .d (.i .i64 i))], [(10003, .var (qryC q))]⟩, fun s' => match look 11 s'.env with | some (.d (.i _ n)) => q.wh.length - n.toNat | _ => 0, ?_, ⟨0, _, rfl, rfl, ?_⟩, ?_⟩; kernel_rfl; kernel_rfl; rintro st ⟨k2, i2, rfl, hu2, rfl⟩; have he1 := any_endP (f := strD) hu (by assumption); have hg := good_of he1; have hjf := hjb.trans (by assumption)) | (refine ⟨[3, 6, 9, 10], [10003, .frz 10045, .frz 20045, .frz 10014], fun st => ∃ (k : Nat) (i : Int), i = k ∧ (us.take k).any (badN ns) = false ∧ st = ⟨[(3, .ptr 10003 0), (6, fromR ns ks), (9, .d (.sl false (us.map strD))), (10, .d (.i .i64 i))], [(10003, .var (qryC q))]⟩, fun s' => match look 10 s'.env with | some (.d (.i _ n)) => us.length - n.toNat | _ => 0, ?_, ⟨0, _, rfl, rfl, ?_⟩, ?_⟩; kernel_rfl; kernel_rfl; rintro st ⟨k, i, rfl, hu, rfl⟩) | (refine ⟨hin, ?_⟩) | (refine ⟨hin.1, ?_⟩) | (refine ⟨_, hget, ?_⟩) | (refine ⟨⟨(hkl _ hu (by assumption)).1.ge, (hkl _ hu (by assumption)).1.lt⟩, ?_⟩) | (refine ⟨(hkl _ hu (by assumption)).1.ge, ?_⟩) | (refine ⟨_, (hkl _ hu (by assumption)).1.get, ?_⟩) | (refine ⟨⟨(hkl _ hu (by assumption)).2.ge, (hkl _ hu (by assumption)).2.lt⟩, ?_⟩) | (refine ⟨(hkl _ hu (by assumption)).2.ge, ?_⟩) | (refine ⟨_, (hkl _ hu (by assumption)).2.get, ?_⟩) | (refine ⟨hinu, ?_⟩) | (refine ⟨hinu.1, ?_⟩) | (refine ⟨_, hgetu, ?_⟩) | refine ⟨_, get_map' hx, ?_⟩ | refine ⟨_, get_map' hz, ?_⟩ | refine ⟨_, get_map' hy, ?_⟩ | refine ⟨_, ka.get, ?_⟩ | (refine ⟨_, (hzc (of_decide_eq_true (by assumption))).get, ?_⟩) | (refine ⟨⟨ka.ge, ka.lt⟩, ?_⟩) | (refine ⟨ka.ge, ?_⟩) | (refine ⟨⟨(hzc (of_decide_eq_true (by assumption))).ge, (hzc (of_decide_eq_true (by assumption))).lt⟩, ?_⟩) | (refine ⟨(hzc (of_decide_eq_true (by assumption))).ge, ?_⟩) | fail)) | ((with_reducible refine isCut ?_) <;> (first | refine ⟨⟨none⟩, ?_⟩)) | ((first | with_reducible refine isEx ?_ | with_reducible refine isAnd ?_ | with_reducible refine isOr ?_) <;> (first | (refine ⟨hin, ?_⟩) | (refine ⟨hin.1, ?_⟩) | (refine ⟨_, hget, ?_⟩) | (refine ⟨⟨(hkl _ hu (by assumption)).1.ge, (hkl _ hu (by assumption)).1.lt⟩, ?_⟩) | (refine ⟨(hkl _ hu (by assumption)).1.ge, ?_⟩) | (refine ⟨_, (hkl _ hu (by assumption)).1.get, ?_⟩) | (refine ⟨⟨(hkl _ hu (by assumption)).2.ge, (hkl _ hu (by assumption)).2.lt⟩, ?_⟩) | (refine ⟨(hkl _ hu (by assumption)).2.ge, ?_⟩) | (refine ⟨_, (hkl _ hu (by assumption)).2.get, ?_⟩) | (refine ⟨hinu, ?_⟩) | (refine ⟨hinu.1, ?_⟩) | (refine ⟨_, hgetu, ?_⟩) | refine ⟨_, get_map' hx, ?_⟩ | refine ⟨_, get_map' hz, ?_⟩ | refine ⟨_, get_map' hy, ?_⟩ | refine ⟨_, ka.get, ?_⟩ | (refine ⟨_, (hzc (of_decide_eq_true (by assumption))).get, ?_⟩) | (refine ⟨⟨ka.ge, ka.lt⟩, ?_⟩) | (refine ⟨ka.ge, ?_⟩) | (refine ⟨⟨(hzc (of_decide_eq_true (by assumption))).ge, (hzc (of_decide_eq_true (by assumption))).lt⟩, ?_⟩) | (refine ⟨(hzc (of_decide_eq_true (by assumption))).ge, ?_⟩) | ((with_reducible refine isGet (xs := q.items.map itemD) (i := ((k3 : Nat) : Int).toNat) ?_); obtain ⟨z, hz⟩ := get_ex (ss := q.items) (k := k3) (lt_of_dec (by assumption)); have hzc := items_at hlen hg hui hf hz; refine ⟨_, get_map' hz, ?_⟩) | ((with_reducible refine isGet (xs := q.wh.map termD) (i := ((k2 : Nat) : Int).toNat) ?_); obtain ⟨y, hy⟩ := get_ex (ss := q.wh) (k := k2) (lt_of_dec (by assumption)); have ka := k_at hlen (hg y.col (hum y (get_mem hy)) (hf.tcol y (get_mem hy))); refine ⟨_, get_map' hy, ?_⟩) | ((with_reducible refine isGet (xs := us.map strD) (i := ((k : Nat) : Int).toNat) ?_); obtain ⟨x, hx⟩ := get_ex (ss := us) (k := k) (lt_of_dec (by assumption)); refine ⟨_, get_map' hx, ?_⟩) | ((with_reducible refine isSmall ?_) <;> (refine ⟨?_, ?_⟩; kernel_rfl)) | refine ⟨rfl, ?_⟩ | refine ⟨Int.natCast_nonneg _, ?_⟩)) | with_reducible refine Both.mk ?_ ?_ | (exfalso; exact join_yes hj (by assumption)) | rintro _ rfl | exact rfl | (split <;> (rename_i h; first | (simp only [beq_self_eq_true, eq_self, decide_true, Bool.not_true, Bool.false_eq_true] at h; done) | (try rw [h])))))
  all_goals try (conv => whnf)
  all_goals first
    | exact absurd (of_decide_eq_true h) h1
    | exact absurd (of_decide_eq_true h) h2
    | (rw [any_endP (f := strD) hu (by assumption), hjb.trans (by assumption)] at ho
       rw [ho]; exact .inr ⟨ns, ks, rfl, rfl⟩)
    | (have hb := any_hitP hx (bad_yes (by assumption) (by assumption))
       rw [hb] at ho
       rw [ho]; exact .inr ⟨ns, ks, rfl, rfl⟩)
    | exact ⟨⟨k + 1, _, step_up (get_lt hx) hul, anyP_up hu hx (bad_no2 (by assumption)), rfl⟩, mu_up (get_lt hx) hul⟩
    | exact ⟨⟨k + 1, _, step_up (get_lt hx) hul, anyP_up hu hx (bad_no1 (by assumption)), rfl⟩, mu_up (get_lt hx) hul⟩
    | (have hb2 : pw y = true := by
         rw [epw]; simp_all [isW]
       rw [he1, hjf, any_hitP hy hb2] at ho
       rw [ho]; exact .inr ⟨ns, ks, rfl, rfl⟩)
    | (have hb2 : pw y = false := by
         rw [epw]; simp_all [isW]
       exact ⟨⟨k2 + 1, _, step_up (get_lt hy) hwl, anyP_up hu2 hy hb2, rfl⟩, mu_up (get_lt hy) hwl⟩)
    | (have hb3 : pj z = true := by
         rw [epj]; simp_all
       rw [he1, hjf, he2, any_hitP hz hb3] at ho
       rw [ho]; exact .inr ⟨ns, ks, rfl, rfl⟩)
    | (have hb3 : pj z = false := by
         rw [epj]; simp_all
       exact ⟨⟨k3 + 1, _, step_up (get_lt hz) hil, anyP_up hu3 hz hb3, rfl⟩, mu_up (get_lt hz) hil⟩)
    | (rw [he1, hjf, he2, any_endP (f := itemD) hu3 h] at ho
       rw [ho]; exact .inr ⟨ns, ks, rfl, rfl⟩)
    | (with_reducible trace_state)
end Go.Pm.Tryz
