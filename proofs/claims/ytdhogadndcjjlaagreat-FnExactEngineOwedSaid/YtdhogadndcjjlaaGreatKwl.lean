/-
A part of the proof (packed).
-/
import Derived.Lib.Strings
import Derived.Lib.Slices
import Derived.Lib.Walk
import Derived.Lib.Builder
import Derived.Lib.UnsafeStr
import Derived.WalkKit
import Derived.Test.YtdhogadndcjjlaaGreatKwk
namespace Go.Pm.Tryz
open Go Go.Proofs
set_option linter.unusedVariables false
set_option linter.unusedSimpArgs false
set_option maxRecDepth 100000
theorem cnt_cols : ∀ cs : List Col, cntL (cs.map colD) = 3 * cs.length
  | [] => rfl
  | c :: cs => by simp only [List.map_cons, cntL, colD, cntD, cnt_cols cs, List.length_cons]; omega
theorem cnt_ints : ∀ cs : List Int, cntL (cs.map i64D) = cs.length
  | [] => rfl
  | c :: cs => by simp only [List.map_cons, cntL, i64D, cntD]; rw [cnt_ints cs, List.length_cons]; omega
theorem loose_cols : ∀ cs : List Col, looseL (cs.map colD) = true
  | [] => rfl
  | c :: cs => loose_cols cs
theorem loose_ints : ∀ cs : List Int, looseL (cs.map i64D) = true
  | [] => rfl
  | c :: cs => loose_ints cs
theorem loose_idx : ∀ cs : List Idx, looseL (cs.map idxO) = true
  | [] => rfl
  | c :: cs => by
    show looseL (idxO c :: cs.map idxO) = true
    simp only [looseL, idxO, D.loose, loose_ints]
    exact loose_idx cs
theorem fine_next {xs : List D} {n : Int} (h : Fine xs n) {ys : List D} (hs : n + cntL xs + cntL ys ≤ 1000000000000000) : Fine ys (ctL xs n) := by
  have := h.lo
  rw [ctL_eq xs h.lo h.hi]
  exact ⟨by omega, by omega⟩
theorem cnt_vals : ∀ vs : List Val, cntL (vs.map valD) = 3 * vs.length
  | [] => rfl
  | c :: cs => by simp only [List.map_cons, cntL, valD, cntD, cnt_vals cs, List.length_cons]; omega
theorem cnt_idx2 : ∀ is : List Idx, cntL (is.map idxO) ≤ 3 * wl wIdx is
  | [] => Nat.zero_le _
  | i :: is => by
    have h2 := cnt_idx2 is
    simp only [wl, wsum, List.map_cons, List.sum_cons, List.length_cons, cntL, idxO, cntD, cnt_ints, wIdx] at *
    omega
theorem cnt_rows2 : ∀ rs : List (List Val), cntL (rs.map rowO) ≤ 3 * wl wRow rs
  | [] => Nat.zero_le _
  | r :: rs => by
    have h2 := cnt_rows2 rs
    simp only [wl, wsum, List.map_cons, List.sum_cons, List.length_cons, cntL, rowO, cntD, cnt_vals, wRow] at *
    omega
theorem cnt_tabs2 : ∀ ts : List Tab, cntL (ts.map tabO) ≤ 3 * wl wTab ts
  | [] => Nat.zero_le _
  | t :: ts => by
    have h2 := cnt_tabs2 ts
    have n1 := cnt_cols t.sch.cols
    have n2 := cnt_ints t.sch.keys
    have n3 := cnt_idx2 t.sch.idxs
    have n4 := cnt_rows2 t.rows
    have e : wTab t = t.sch.cols.length + wsum wColumn t.sch.cols + t.sch.keys.length + wl wIdx t.sch.idxs + wl wRow t.rows := rfl
    have e2 : wl wTab (t :: ts) = wTab t + wl wTab ts + 1 := by simp only [wl, wsum, List.map_cons, List.sum_cons, List.length_cons]; omega
    simp only [List.map_cons, cntL, tabO, cntD]
    omega
theorem own_vals {cs : List Val} (h : cs.length ≤ 2000000) : AllOf ownValue (cs.map valD) := ⟨by rw [List.length_map]; exact le_max2 h, fun x hx => by obtain ⟨c, _, rfl⟩ := List.mem_map.1 hx; exact ⟨_, _, _, rfl⟩⟩
theorem own_cols2 {cs : List Col} (h : cs.length ≤ 2000000) : AllOf ownColumn (cs.map colD) := ⟨by rw [List.length_map]; exact le_max2 h, fun x hx => by obtain ⟨c, _, rfl⟩ := List.mem_map.1 hx; exact ⟨_, _, _, rfl⟩⟩
theorem own_ints2 {cs : List Int} (h : cs.length ≤ 2000000) : AllOf ownInt64 (cs.map i64D) := ⟨by rw [List.length_map]; exact le_max2 h, fun x hx => by obtain ⟨c, _, rfl⟩ := List.mem_map.1 hx; exact ⟨_, rfl⟩⟩
theorem own_idx2 {is : List Idx} (h : is.length ≤ 2000000) (h2 : ∀ i, i ∈ is → i.cols.length ≤ 2000000) : AllOf ownIndex (is.map idxO) := ⟨by rw [List.length_map]; exact le_max2 h, fun x hx => by obtain ⟨c, hc, rfl⟩ := List.mem_map.1 hx; exact ⟨_, _, rfl, own_ints2 (h2 c hc)⟩⟩
theorem own_rows {rs : List (List Val)} (h : rs.length ≤ 2000000) (h2 : ∀ r, r ∈ rs → r.length ≤ 2000000) : AllOf ownValueS (rs.map rowO) := ⟨by rw [List.length_map]; exact le_max2 h, fun x hx => by obtain ⟨c, hc, rfl⟩ := List.mem_map.1 hx; exact ⟨_, rfl, own_vals (h2 c hc)⟩⟩
theorem own_tabs2 {ts : List Tab} (h : ts.length ≤ 1048576) (h2 : ∀ t, t ∈ ts → szTab t) : AllOf ownTable (ts.map tabO) := ⟨by rw [List.length_map]; exact le_max2 (by omega), fun x hx => by
  obtain ⟨t, ht, rfl⟩ := List.mem_map.1 hx
  have hs := h2 t ht
  have s1 := hs.sch.cols
  have s2 := hs.sch.keys
  have s3 := hs.sch.idxs
  have s4 := hs.rows
  exact ⟨_, _, _, _, _, rfl, own_cols2 (by omega), own_ints2 (by omega), own_idx2 (by omega) (fun i hi => Nat.le_trans (hs.sch.lists i hi) (by decide)), own_rows (by omega) fun r hr => Nat.le_trans (hs.row r hr) (by decide)⟩⟩
theorem cnt_strs : ∀ cs : List (List UInt8), cntL (cs.map strD) = cs.length
  | [] => rfl
  | c :: cs => by simp only [List.map_cons, cntL, strD, cntD]; rw [cnt_strs cs, List.length_cons]; omega
theorem cnt_wrs : ∀ cs : List Wr, cntL (cs.map wrD) = 2 * cs.length
  | [] => rfl
  | c :: cs => by simp only [List.map_cons, cntL, wrD, cntD, cnt_wrs cs, List.length_cons]; omega
theorem own_strs {cs : List (List UInt8)} (h : cs.length ≤ 2000000) : AllOf ownString (cs.map strD) := ⟨by rw [List.length_map]; exact le_max2 h, fun x hx => by obtain ⟨c, _, rfl⟩ := List.mem_map.1 hx; exact ⟨_, rfl⟩⟩
theorem own_wrs {cs : List Wr} (h : cs.length ≤ 2000000) : AllOf ownWrite (cs.map wrD) := ⟨by rw [List.length_map]; exact le_max2 h, fun x hx => by obtain ⟨c, _, rfl⟩ := List.mem_map.1 hx; exact ⟨_, _, rfl⟩⟩
theorem eq_sto {s : Sto} (hz : szSto s) : Ent Tryz.prog 11 [.d (stoD s), .d (stoD s)] [] (.d (.b true)) [] := by
  have h1 := hz.secs
  have h2 := hz.cache
  have o1 : AllOf isString (s.disk.secs.map strD) := own_strs (by omega)
  have o2 : AllOf isWrite (s.disk.cache.map wrD) := own_wrs (by omega)
  have o3 : AllOf isTable (s.tabs.map tabD) := by rw [← erase_tabs]; exact (own_tabs2 hz.tabs hz.tab).erase fun _ => eraseTable
  exact eqStore _ ⟨_, _, _, _, _, rfl, o1, o2, o3⟩
def wrSh : Sh := .agg [.int .i64, .str]
def stoSh : Sh := .agg [.sl .str, .sl wrSh, .sl tabSh, .int .i64, .int .i64]
theorem str_of {y : D} (h : Sh.str.of y) : ∃ t : List UInt8, y = strD t ∧ t.length ≤ maxLen := by
  simp only [Sh.of] at h
  obtain ⟨l, rfl, hl⟩ := h
  exact ⟨l, rfl, hl⟩
theorem wr_of {y : D} (h : wrSh.of y) : ∃ v : Wr, y = wrD v ∧ fitWr v := by
  simp only [wrSh, Sh.of, ofL] at h
  obtain ⟨cs, rfl, x0, r0, rfl, ⟨a, rfl, _⟩, x1, r1, rfl, ⟨b, rfl, hb⟩, rfl⟩ := h
  exact ⟨⟨a, b⟩, rfl, hb⟩
theorem sto_of {y : D} (h : stoSh.of y) : ∃ s : Sto, y = stoD s ∧ s.fit2 := by
  simp only [stoSh, Sh.of, ofL] at h
  obtain ⟨cs, rfl, x0, r0, rfl, ⟨ts, rfl, hts, lts⟩, x1, r1, rfl, ⟨ws, rfl, hws, lws⟩, x2, r2, rfl, ⟨tt, rfl, htt, ltt⟩, x3, r3, rfl, ⟨a, rfl, _⟩, x4, r4, rfl, ⟨b, rfl, _⟩, rfl⟩ := h
  obtain ⟨ts, rfl, q1⟩ := ex_map (f := strD) (q := fun t => t.length ≤ maxLen) fun y hy => str_of (by simpa only [Sh.of] using hts y hy)
  obtain ⟨ws, rfl, q2⟩ := ex_map (f := wrD) (q := fitWr) fun y hy => wr_of (hws y hy)
  obtain ⟨tt, rfl, q3⟩ := ex_map (f := tabD) (q := Tab.fit2) fun y hy => tab_of (htt y hy)
  exact ⟨⟨⟨ts, ws⟩, tt, a, b⟩, rfl, ⟨by simpa using lts, q1, by simpa using lws, q2⟩, by simpa using ltt, q3⟩
end Go.Pm.Tryz
namespace Go.Pm
open Go
set_option linter.unusedVariables false
theorem bit_or128 {c : Nat} (hc : c < 256) : bitD .u8 (· ||| ·) (c : Int) 128 = .i .u8 ((c % 128 + 128 : Nat) : Int) := by
  have h : (BitVec.ofInt 8 (c : Int) ||| BitVec.ofInt 8 128).toNat = c % 128 + 128 := by
    rw [ofInt_nat, show BitVec.ofInt 8 128 = BitVec.ofNat 8 128 from rfl, BitVec.toNat_or, BitVec.toNat_ofNat, BitVec.toNat_ofNat, Nat.mod_eq_of_lt hc]
    have hall : ∀ c, c < 256 → c ||| 128 % 2 ^ 8 = c % 128 + 128 := by decide +kernel
    exact hall c hc
  show D.i .u8 (IntKind.u8.wrap ((BitVec.ofInt 8 (c : Int) ||| BitVec.ofInt 8 128).toNat : Int)) = _
  rw [h, wrap_u8_nat (by omega)]
theorem bit_xor0u {x : Nat} (hx : x < 18446744073709551616) : bitD .u64 (· ^^^ ·) (x : Int) 0 = .i .u64 (x : Int) := by
  have h : (BitVec.ofInt 64 (x : Int) ^^^ BitVec.ofInt 64 0).toNat = x := by
    rw [ofInt_nat, show BitVec.ofInt 64 0 = BitVec.ofNat 64 0 from rfl, BitVec.toNat_xor, BitVec.toNat_ofNat, BitVec.toNat_ofNat, Nat.mod_eq_of_lt (by omega)]
    simp
  show D.i .u64 (IntKind.u64.wrap ((BitVec.ofInt 64 (x : Int) ^^^ BitVec.ofInt 64 0).toNat : Int)) = _
  rw [h, wrap_u64_nat hx]
theorem bit_xor1u {x : Nat} (hx : x < 18446744073709551616) : bitD .u64 (· ^^^ ·) (x : Int) 18446744073709551615 = .i .u64 ((18446744073709551615 - x : Nat) : Int) := by
  have h : (BitVec.ofInt 64 (x : Int) ^^^ BitVec.ofInt 64 18446744073709551615).toNat = 18446744073709551615 - x := by
    rw [ofInt_nat, show BitVec.ofInt 64 18446744073709551615 = BitVec.allOnes 64 from by decide, BitVec.xor_allOnes, BitVec.toNat_not, BitVec.toNat_ofNat, Nat.mod_eq_of_lt (by omega)]
  show D.i .u64 (IntKind.u64.wrap ((BitVec.ofInt 64 (x : Int) ^^^ BitVec.ofInt 64 18446744073709551615).toNat : Int)) = _
  rw [h, wrap_u64_nat (by omega)]
def putU : Nat → Nat → List UInt8
  | 0, u => [UInt8.ofNat u]
  | f + 1, u => if u < 128 then [UInt8.ofNat u] else UInt8.ofNat (u % 128 + 128) :: putU f (u / 128)
def foldU (n : Int) : Nat := if n < 0 then (-2 * n - 1).toNat else (2 * n).toNat
end Go.Pm
namespace Go.Pm.Tryz
open Go Go.Proofs
set_option linter.unusedVariables false
set_option linter.unusedSimpArgs false
set_option maxRecDepth 100000
theorem roomB {n : Nat} {x : D} (h : n ≤ 1000000) : room (n + [x].length) 1 := by
  have : maxLen = 9223372036854775807 := rfl
  simp only [room, List.length_cons, List.length_nil]
  omega
theorem wrap_u64_small {x : Int} (h0 : 0 ≤ x) (h : x < 18446744073709551616) : IntKind.u64.wrap x = x := by
  simp only [IntKind.wrap, IntKind.signed, IntKind.bits, Bool.false_and, Bool.false_eq_true, if_false]
  omega
theorem specFold (n : Int) (h1 : -9223372036854775808 ≤ n) (h2 : n ≤ 9223372036854775807) : Ent Tryz.prog 142 [.d (.i .i64 n)] [] (.d (.i .u64 (foldU n : Nat))) [] := by
  obtain ⟨o, ho⟩ : ∃ o, o = foldU n := ⟨_, rfl⟩
  rw [← ho]
  refine ent_of tok mixed (f := 142) Tryz.func142 (by kernel_rfl) (keep := false) ?_
  repeat' ((conv => whnf) <;> (first | ((with_reducible refine isCall ?_) <;> (first | fail)) | ((with_reducible refine isCut ?_) <;> (first | refine ⟨⟨none⟩, ?_⟩)) | ((first | with_reducible refine isEx ?_ | with_reducible refine isAnd ?_ | with_reducible refine isOr ?_) <;> (first | ((with_reducible refine isSmall ?_) <;> (refine ⟨?_, ?_⟩; kernel_rfl)) | refine ⟨rfl, ?_⟩ | refine ⟨Int.natCast_nonneg _, ?_⟩)) | with_reducible refine Both.mk ?_ ?_ | rintro _ rfl | exact rfl | (split <;> (rename_i h; first | (simp only [beq_self_eq_true, eq_self, decide_true, Bool.not_true, Bool.false_eq_true] at h; done) | (try rw [h])))))
  all_goals (conv => whnf)
  all_goals (refine ⟨congrArg (fun x => AV.d (D.i .u64 x)) ?_, rfl⟩)
  · have hn := of_decide_eq_true h
    have e : (foldU n : Nat) = (-2 * n - 1).toNat := by rw [foldU, if_pos hn]
    rw [wrap_i64_id (n + 1) (by omega) (by omega), wrap_i64_id (0 - (n + 1)) (by omega) (by omega), wrap_u64_small (x := 0 - (n + 1)) (by omega) (by omega), wrap_u64_small (x := 2 * (0 - (n + 1))) (by omega) (by omega), wrap_u64_small (by omega) (by omega), ho, e]
    omega
  · have hn := of_decide_eq_false h
    have e : (foldU n : Nat) = (2 * n).toNat := by rw [foldU, if_neg hn]
    rw [wrap_u64_small (x := n) (by omega) (by omega), wrap_u64_small (by omega) (by omega), ho, e]
    omega
theorem fold_small {n : Int} (h1 : -9223372036854775808 ≤ n) (h2 : n ≤ 9223372036854775807) : foldU n < 18446744073709551616 := by
  unfold foldU; split <;> omega
theorem putU_more {f u : Nat} (hf : 0 < f) (h : ¬ u < 128) : putU f u = UInt8.ofNat (u % 128 + 128) :: putU (f - 1) (u / 128) := by
  obtain ⟨g, rfl⟩ : ∃ g, f = g + 1 := ⟨f - 1, by omega⟩
  rw [putU, if_neg h, Nat.add_sub_cancel]
theorem putU_last {f u : Nat} (h : u < 128) : putU f u = [UInt8.ofNat u] := by
  cases f with
  | zero => rfl
  | succ f => rw [putU, if_pos h]
def putNum (n : Int) : List UInt8 := putU 9 (foldU n)
theorem u8_of (u : Nat) : IntKind.u8.wrap (u : Int) = ((UInt8.ofNat u).toNat : Int) := by
  rw [UInt8.toNat_ofNat']
  simp only [IntKind.wrap, IntKind.signed, IntKind.bits, Bool.false_and, Bool.false_eq_true, if_false]
  omega
theorem u8s_push (acc : List UInt8) (u : Nat) : u8s acc ++ [D.i .u8 (IntKind.u8.wrap (u : Int))] = u8s (acc ++ [UInt8.ofNat u]) := by
  rw [u8_of]; unfold u8s; rw [List.map_append]; rfl
theorem put_lt {f u : Nat} (hf : 0 < f) (hu : u < 2 ^ (7 * f + 1)) : u / 128 < 2 ^ (7 * (f - 1) + 1) := by
  obtain ⟨g, rfl⟩ : ∃ g, f = g + 1 := ⟨f - 1, by omega⟩
  rw [Nat.add_sub_cancel]
  have e : 2 ^ (7 * (g + 1) + 1) = 2 ^ (7 * g + 1) * 128 := by rw [show 7 * (g + 1) + 1 = (7 * g + 1) + 7 by omega, Nat.pow_add]
  rw [e] at hu
  exact Nat.div_lt_of_lt_mul (by rw [Nat.mul_comm]; exact hu)
set_option maxHeartbeats 1000000 in
theorem specPutNum (n : Int) (h1 : -9223372036854775808 ≤ n) (h2 : n ≤ 9223372036854775807) : Ent Tryz.prog 101 [.d (.i .i64 n)] [] (.d (.s (putNum n))) [] := by
  obtain ⟨o, ho⟩ : ∃ o, o = putNum n := ⟨_, rfl⟩
  rw [← ho]
  have c1 := specFold n h1 h2
  have hb := fold_small h1 h2
  unfold putNum at ho
  generalize foldU n = w at *
  refine ent_of tok mixed (f := 101) Tryz.func101 (by kernel_rfl) (keep := false) ?_
  repeat' ((conv => whnf) <;> (first | ((with_reducible refine isCall ?_) <;> (first | (refine ⟨_, c1, ?_⟩; rintro _ _ ⟨rfl, rfl⟩) | (refine ⟨_, u8s_push acc u, ?_⟩) | (refine ⟨(by decide : (128 : Int) ≠ 0), ?_⟩) | (refine ⟨⟨by decide, rfl, rfl, roomB (by unfold u8s; rw [List.length_map]; omega)⟩, ?_⟩) | fail)) | ((with_reducible refine isLoop ?_) <;> (first | (refine ⟨[3, 4], [10007], fun st => ∃ (f u : Nat) (v : Int) (acc : List UInt8) (xs : List D), v = u ∧ u < 2 ^ (7 * f + 1) ∧ f ≤ 9 ∧ acc.length + f ≤ 9 ∧ o = acc ++ putU f u ∧ xs = u8s acc ∧ st = ⟨[(3, .d (.i .u64 v)), (4, .own 10007)], [(10007, .arr 1 false xs)]⟩, fun st => match look 3 st.env with | some (.d (.i _ v)) => v.toNat | _ => 0, rfl, ⟨9, w, _, [], _, rfl, hb, Nat.le_refl _, by decide, ho, rfl, rfl⟩, ?_⟩; rintro st ⟨f, u, v, acc, xs, rfl, hu, hf, hacc, hu2, rfl, rfl⟩) | (refine ⟨_, u8s_push acc u, ?_⟩) | (refine ⟨(by decide : (128 : Int) ≠ 0), ?_⟩) | (refine ⟨⟨by decide, rfl, rfl, roomB (by unfold u8s; rw [List.length_map]; omega)⟩, ?_⟩) | fail)) | ((with_reducible refine isCut ?_) <;> (first | refine ⟨⟨none⟩, ?_⟩)) | ((first | with_reducible refine isEx ?_ | with_reducible refine isAnd ?_ | with_reducible refine isOr ?_) <;> (first | (refine ⟨_, u8s_push acc u, ?_⟩) | (refine ⟨(by decide : (128 : Int) ≠ 0), ?_⟩) | (refine ⟨⟨by decide, rfl, rfl, roomB (by unfold u8s; rw [List.length_map]; omega)⟩, ?_⟩) | ((with_reducible refine isSmall ?_) <;> (refine ⟨?_, ?_⟩; kernel_rfl)) | refine ⟨rfl, ?_⟩ | refine ⟨Int.natCast_nonneg _, ?_⟩)) | with_reducible refine Both.mk ?_ ?_ | rintro _ rfl | exact rfl | (split <;> (rename_i h; first | (simp only [beq_self_eq_true, eq_self, decide_true, Bool.not_true, Bool.false_eq_true] at h; done) | (try rw [h])))))
  all_goals (conv => whnf)
  all_goals first
    | (have hu128 : ¬ u < 128 := by have := of_decide_eq_true h; omega
       have hf0 : 0 < f := by
         rcases Nat.eq_zero_or_pos f with e | e
         · subst e; simp at hu; omega
         · exact e
       have hu64 : u < 18446744073709551616 := Nat.lt_of_lt_of_le hu (Nat.pow_le_pow_right (n := 2) (by decide) (by omega : 7 * f + 1 ≤ 64))
       have ed : IntKind.u64.wrap ((u : Int).tdiv 128) = ((u / 128 : Nat) : Int) := by rw [Int.tdiv_eq_ediv_of_nonneg (by omega), wrap_u64_small (by omega) (by omega)]; omega
       have et : (u : Int).tmod 128 = ((u % 128 : Nat) : Int) := by rw [Int.tmod_eq_emod_of_nonneg (by omega)]; omega
       have em : IntKind.u64.wrap ((u : Int).tmod 128 + 128) = ((u % 128 + 128 : Nat) : Int) := by rw [et, wrap_u64_small (by omega) (by omega)]; omega
       have ex : u8s acc ++ [D.i .u8 (IntKind.u8.wrap (IntKind.u64.wrap ((u : Int).tmod 128 + 128)))] = u8s (acc ++ [UInt8.ofNat (u % 128 + 128)]) := by rw [em]; exact u8s_push acc _
       refine ⟨⟨f - 1, u / 128, _, acc ++ [UInt8.ofNat (u % 128 + 128)], _, ed, put_lt hf0 hu, by omega, by simp only [List.length_append, List.length_cons, List.length_nil]; omega, by rw [hu2, putU_more hf0 hu128, List.append_assoc]; rfl, ex, rfl⟩, ?_⟩
       show (IntKind.u64.wrap ((u : Int).tdiv 128)).toNat < (u : Int).toNat
       rw [ed]; omega)
    | (rw [hu2, putU_last (by have := of_decide_eq_false h; omega)]; exact ⟨rfl, rfl⟩)
    | trace_state
end Go.Pm.Tryz
namespace Go.Pm.Tryz
open Go Go.Proofs
set_option linter.unusedVariables false
set_option linter.unusedSimpArgs false
set_option maxRecDepth 100000
theorem wrap_u64_mod (x : Int) : IntKind.u64.wrap x = x % 18446744073709551616 := by
  simp only [IntKind.wrap, IntKind.signed, IntKind.bits, Bool.false_and, Bool.false_eq_true, if_false]
  omega
theorem fold_bit {n : Int} (h1 : -9223372036854775808 ≤ n) (h2 : n ≤ 9223372036854775807) :
    bitD .u64 (· ^^^ ·) (IntKind.u64.wrap (IntKind.u64.wrap n * 2 ^ min (Int.toNat 1) IntKind.u64.bits)) (IntKind.u64.wrap (n.fdiv (2 ^ min (Int.toNat 63) IntKind.i64.bits))) = .i .u64 (foldU n : Nat) := by
  have e1 : (2 : Int) ^ min (Int.toNat 1) IntKind.u64.bits = 2 := rfl
  have e2 : (2 : Int) ^ min (Int.toNat 63) IntKind.i64.bits = 9223372036854775808 := rfl
  rw [e1, e2, Int.fdiv_eq_ediv_of_nonneg _ (by decide)]
  by_cases hn : n < 0
  · have a1 : IntKind.u64.wrap (IntKind.u64.wrap n * 2) = (((2 * n + 18446744073709551616).toNat : Nat) : Int) := by rw [wrap_u64_mod, wrap_u64_mod]; omega
    have a2 : IntKind.u64.wrap (n / 9223372036854775808) = 18446744073709551615 := by rw [wrap_u64_mod]; omega
    rw [a1, a2, bit_xor1u (by omega), foldU, if_pos hn]
    congr 1; omega
  · have a1 : IntKind.u64.wrap (IntKind.u64.wrap n * 2) = (((2 * n).toNat : Nat) : Int) := by rw [wrap_u64_mod, wrap_u64_mod]; omega
    have a2 : IntKind.u64.wrap (n / 9223372036854775808) = 0 := by rw [wrap_u64_mod]; omega
    rw [a1, a2, bit_xor0u (by omega), foldU, if_neg hn]
theorem wrap_u8_mod (u : Nat) : IntKind.u8.wrap (u : Int) = ((u % 256 : Nat) : Int) := by
  simp only [IntKind.wrap, IntKind.signed, IntKind.bits, Bool.false_and, Bool.false_eq_true, if_false]
  omega
theorem or_push (acc : List UInt8) (u : Nat) : u8s acc ++ [bitD .u8 (· ||| ·) (IntKind.u8.wrap (u : Int)) 128] = u8s (acc ++ [UInt8.ofNat (u % 128 + 128)]) := by
  rw [wrap_u8_mod, bit_or128 (Nat.mod_lt _ (by decide)), ← u8s_push, wrap_u8_mod]
  congr 4; omega
theorem shift7 (u : Nat) : (u : Int).fdiv (2 ^ min (Int.toNat 7) IntKind.u64.bits) = ((u / 128 : Nat) : Int) := by
  have e1 : (2 : Int) ^ min (Int.toNat 7) IntKind.u64.bits = 128 := rfl
  rw [e1, Int.fdiv_eq_ediv_of_nonneg _ (by decide)]; omega
set_option maxHeartbeats 1000000 in
theorem implPutNum (n : Int) (h1 : -9223372036854775808 ≤ n) (h2 : n ≤ 9223372036854775807) : Ent Tryz.prog 121 [.d (.i .i64 n)] [] (.d (.s (putNum n))) [] := by
  obtain ⟨o, ho⟩ : ∃ o, o = putNum n := ⟨_, rfl⟩
  rw [← ho]
  have hb := fold_small h1 h2
  have hw := (D.i.inj (fold_bit h1 h2)).2
  unfold putNum at ho
  refine ent_of tok mixed (f := 121) Tryz.func121 (by kernel_rfl) (keep := false) ?_
  repeat' ((conv => whnf) <;> (first | ((with_reducible refine isCall ?_) <;> (first | (refine ⟨_, u8s_push acc u, ?_⟩) | (refine ⟨(by decide : (0 : Int) ≤ 1), ?_⟩) | (refine ⟨(by decide : (0 : Int) ≤ 63), ?_⟩) | (refine ⟨(by decide : (0 : Int) ≤ 7), ?_⟩) | (refine ⟨⟨by decide, rfl, rfl, roomB (by unfold u8s; rw [List.length_map]; omega)⟩, ?_⟩) | fail)) | ((with_reducible refine isLoop ?_) <;> (first | (refine ⟨[3, 4], [10012], fun st => ∃ (f u : Nat) (v : Int) (acc : List UInt8) (xs : List D), v = u ∧ u < 2 ^ (7 * f + 1) ∧ f ≤ 9 ∧ acc.length + f ≤ 9 ∧ o = acc ++ putU f u ∧ xs = u8s acc ∧ st = ⟨[(3, .d (.i .u64 v)), (4, .own 10012)], [(10012, .arr 1 false xs)]⟩, fun st => match look 3 st.env with | some (.d (.i _ v)) => v.toNat | _ => 0, rfl, ⟨9, foldU n, _, [], _, hw, hb, Nat.le_refl _, by decide, ho, rfl, rfl⟩, ?_⟩; rintro st ⟨f, u, v, acc, xs, rfl, hu, hf, hacc, hu2, rfl, rfl⟩) | (refine ⟨_, u8s_push acc u, ?_⟩) | (refine ⟨(by decide : (0 : Int) ≤ 1), ?_⟩) | (refine ⟨(by decide : (0 : Int) ≤ 63), ?_⟩) | (refine ⟨(by decide : (0 : Int) ≤ 7), ?_⟩) | (refine ⟨⟨by decide, rfl, rfl, roomB (by unfold u8s; rw [List.length_map]; omega)⟩, ?_⟩) | fail)) | ((with_reducible refine isCut ?_) <;> (first | refine ⟨⟨none⟩, ?_⟩)) | ((first | with_reducible refine isEx ?_ | with_reducible refine isAnd ?_ | with_reducible refine isOr ?_) <;> (first | (refine ⟨_, u8s_push acc u, ?_⟩) | (refine ⟨(by decide : (0 : Int) ≤ 1), ?_⟩) | (refine ⟨(by decide : (0 : Int) ≤ 63), ?_⟩) | (refine ⟨(by decide : (0 : Int) ≤ 7), ?_⟩) | (refine ⟨⟨by decide, rfl, rfl, roomB (by unfold u8s; rw [List.length_map]; omega)⟩, ?_⟩) | ((with_reducible refine isSmall ?_) <;> (refine ⟨?_, ?_⟩; kernel_rfl)) | refine ⟨rfl, ?_⟩ | refine ⟨Int.natCast_nonneg _, ?_⟩)) | with_reducible refine Both.mk ?_ ?_ | rintro _ rfl | exact rfl | (split <;> (rename_i h; first | (simp only [beq_self_eq_true, eq_self, decide_true, Bool.not_true, Bool.false_eq_true] at h; done) | (try rw [h])))))
  all_goals (conv => whnf)
  all_goals first
    | (have hu128 : ¬ u < 128 := by have := of_decide_eq_true h; omega
       have hf0 : 0 < f := by
         rcases Nat.eq_zero_or_pos f with e | e
         · subst e; simp at hu; omega
         · exact e
       refine ⟨⟨f - 1, u / 128, _, acc ++ [UInt8.ofNat (u % 128 + 128)], _, shift7 u, put_lt hf0 hu, by omega, by simp only [List.length_append, List.length_cons, List.length_nil]; omega, by rw [hu2, putU_more hf0 hu128, List.append_assoc]; rfl, or_push acc u, rfl⟩, ?_⟩
       show ((u : Int).fdiv (2 ^ min (Int.toNat 7) IntKind.u64.bits)).toNat < (u : Int).toNat
       rw [shift7]; omega)
    | (rw [hu2, putU_last (by have := of_decide_eq_false h; omega)]; exact ⟨rfl, rfl⟩)
    | trace_state
end Go.Pm.Tryz
namespace Go.Pm.Tryz
open Go Go.Proofs
set_option linter.unusedVariables false
set_option linter.unusedSimpArgs false
set_option maxRecDepth 100000
theorem putU_len : ∀ (f u : Nat), (putU f u).length ≤ f + 1
  | 0, u => by simp [putU]
  | f + 1, u => by
    rw [putU]; split
    · simp
    · have := putU_len f (u / 128); simp only [List.length_cons]; omega
theorem putNum_len (n : Int) : (putNum n).length ≤ 10 := putU_len 9 _
theorem putU_ne (f u : Nat) : putU f u ≠ [] := by
  cases f with
  | zero => simp [putU]
  | succ f => rw [putU]; split <;> simp
theorem putNum_ne (n : Int) : putNum n ≠ [] := putU_ne 9 _
def putText (t : List UInt8) : List UInt8 := match decide ((t.length : Int) > 20000) with | true => [] | false => putNum t.length ++ t
theorem putText_len (t : List UInt8) : (putText t).length ≤ 20010 := by
  unfold putText
  split
  · simp
  · rename_i h
    have h := of_decide_eq_false h
    have := putNum_len t.length
    rw [List.length_append]; omega
theorem putText_long {t : List UInt8} (h : decide ((t.length : Int) > 20000) = true) : putText t = [] := by simp only [putText, h]
theorem putText_short {t : List UInt8} (h : decide ((t.length : Int) > 20000) = false) : putText t = putNum t.length ++ t := by simp only [putText, h]
theorem text_sum {x y : List UInt8} {a b : Nat} (h1 : x.length ≤ a) (h2 : y.length ≤ b) (h : a + b ≤ 9223372036854775807) : ((x.length + y.length : Nat) : Int) ≤ 9223372036854775807 := by omega
def strB (l : List UInt8) : D := .s l
theorem isLongs (ls : List (List UInt8)) (hs : ls.length ≤ maxLen) : Ent Tryz.prog 154 [.d (.sl false (ls.map strB))] [] (.d (.b (ls.any fun l => decide ((l.length : Int) > 20000)))) [] := by
  obtain ⟨u, hu⟩ : ∃ u, u = ls.any fun l => decide ((l.length : Int) > 20000) := ⟨_, rfl⟩
  rw [← hu]
  refine ent_of tok mixed (f := 154) Tryz.func154 (by kernel_rfl) (keep := false) ?_
  repeat' ((conv => whnf) <;> (first | ((with_reducible refine isCall ?_) <;> (first | (obtain ⟨t, ht⟩ := get_ex (ss := ls) (k := k) (lt_of_dec (by assumption)); refine ⟨_, get_map' ht, ?_⟩) | exact ⟨rfl, ⟨k + 1, _, step_up (get_lt ht) hs, get_lt ht, any_up' ht hv (by assumption), rfl⟩, mu_up (get_lt ht) hs⟩ | fail)) | ((with_reducible refine isLoop ?_) <;> (first | (refine ⟨[7, 6, 5], [], fun s => ∃ (k : Nat) (n : Int), n = k ∧ k ≤ ls.length ∧ (ls.take k).any (fun l => decide ((l.length : Int) > 20000)) = false ∧ s = ⟨[(7, .d (.i .i64 n)), (6, .d (.i .i64 ((ls.map strB).length : Int))), (5, .d (.sl false (ls.map strB)))], []⟩, fun s => match look 7 s.env with | some (.d (.i _ n)) => ls.length - n.toNat | _ => 0, rfl, ⟨0, _, rfl, Nat.zero_le _, rfl, rfl⟩, ?_⟩; rintro s ⟨k, n, rfl, hk, hv, rfl⟩) | (obtain ⟨t, ht⟩ := get_ex (ss := ls) (k := k) (lt_of_dec (by assumption)); refine ⟨_, get_map' ht, ?_⟩) | exact ⟨rfl, ⟨k + 1, _, step_up (get_lt ht) hs, get_lt ht, any_up' ht hv (by assumption), rfl⟩, mu_up (get_lt ht) hs⟩ | fail)) | ((with_reducible refine isCut ?_) <;> (first | refine ⟨⟨none⟩, ?_⟩)) | ((first | with_reducible refine isEx ?_ | with_reducible refine isAnd ?_ | with_reducible refine isOr ?_) <;> (first | (obtain ⟨t, ht⟩ := get_ex (ss := ls) (k := k) (lt_of_dec (by assumption)); refine ⟨_, get_map' ht, ?_⟩) | exact ⟨rfl, ⟨k + 1, _, step_up (get_lt ht) hs, get_lt ht, any_up' ht hv (by assumption), rfl⟩, mu_up (get_lt ht) hs⟩ | ((with_reducible refine isSmall ?_) <;> (refine ⟨?_, ?_⟩; kernel_rfl)) | refine ⟨rfl, ?_⟩ | refine ⟨Int.natCast_nonneg _, ?_⟩)) | with_reducible refine Both.mk ?_ ?_ | rintro _ rfl | exact rfl | (split <;> (rename_i h; first | (simp only [beq_self_eq_true, eq_self, decide_true, Bool.not_true, Bool.false_eq_true] at h; done) | (try rw [h])))))
  all_goals (conv => whnf)
  · refine ⟨congrArg (fun b => AV.d (D.b b)) ?_, rfl⟩
    rw [hu]; symm
    rw [List.any_eq_true]
    exact ⟨t, get_mem ht, h⟩
  · refine ⟨congrArg (fun b => AV.d (D.b b)) ?_, rfl⟩
    have e : k = ls.length := by have := of_decide_eq_false h; rw [List.length_map] at this; omega
    rw [e, List.take_length] at hv
    rw [hu, hv]
theorem isLong1 (l : List UInt8) : Ent Tryz.prog 154 [.d (.sl false [.s l])] [] (.d (.b (decide ((l.length : Int) > 20000)))) [] := by
  have h := isLongs [l] (Nat.le_of_ble_eq_true rfl)
  simp only [List.any_cons, List.any_nil, Bool.or_false] at h
  exact h
theorem specPutText (l : List UInt8) (hl : l.length ≤ 9223372036854775807) : Ent Tryz.prog 100 [.d (.s l)] [] (.d (.s (putText l))) [] := by
  obtain ⟨o, ho⟩ : ∃ o, o = putText l := ⟨_, rfl⟩
  rw [← ho]
  have c1 := specPutNum (l.length : Int) (by omega) (by omega)
  have h10 := putNum_len (l.length : Int)
  refine ent_of tok mixed (f := 100) Tryz.func100 (by kernel_rfl) (keep := false) ?_
  repeat' ((conv => whnf) <;> (first | ((with_reducible refine isCall ?_) <;> (first | (refine ⟨_, c1, ?_⟩; rintro _ _ ⟨rfl, rfl⟩) | (refine ⟨text_sum (a := 10) (b := 20000) h10 (by have := of_decide_eq_false h; omega) (by decide), ?_⟩) | fail)) | ((with_reducible refine isCut ?_) <;> (first | refine ⟨⟨none⟩, ?_⟩)) | ((first | with_reducible refine isEx ?_ | with_reducible refine isAnd ?_ | with_reducible refine isOr ?_) <;> (first | (refine ⟨text_sum (a := 10) (b := 20000) h10 (by have := of_decide_eq_false h; omega) (by decide), ?_⟩) | ((with_reducible refine isSmall ?_) <;> (refine ⟨?_, ?_⟩; kernel_rfl)) | refine ⟨rfl, ?_⟩ | refine ⟨Int.natCast_nonneg _, ?_⟩)) | with_reducible refine Both.mk ?_ ?_ | rintro _ rfl | exact rfl | (split <;> (rename_i h; first | (simp only [beq_self_eq_true, eq_self, decide_true, Bool.not_true, Bool.false_eq_true] at h; done) | (try rw [h])))))
  all_goals (conv => whnf)
  · exact ⟨congrArg (fun t => AV.d (D.s t)) (by rw [ho, putText_long h]), rfl⟩
  · exact ⟨congrArg (fun t => AV.d (D.s t)) (by rw [ho, putText_short h]), rfl⟩
theorem implPutText (l : List UInt8) (hl : l.length ≤ 9223372036854775807) : Ent Tryz.prog 120 [.d (.s l)] [] (.d (.s (putText l))) [] := by
  obtain ⟨o, ho⟩ : ∃ o, o = putText l := ⟨_, rfl⟩
  rw [← ho]
  have c0 := isLong1 l
  have c1 := implPutNum (l.length : Int) (by omega) (by omega)
  have h10 := putNum_len (l.length : Int)
  refine ent_of tok mixed (f := 120) Tryz.func120 (by kernel_rfl) (keep := false) ?_
  repeat' ((conv => whnf) <;> (first | ((with_reducible refine isCall ?_) <;> (first | (refine ⟨_, c0, ?_⟩; rintro _ _ ⟨rfl, rfl⟩) | (refine ⟨_, c1, ?_⟩; rintro _ _ ⟨rfl, rfl⟩) | (refine ⟨text_sum (a := 10) (b := 20000) h10 (by have := of_decide_eq_false h; omega) (by decide), ?_⟩) | fail)) | ((with_reducible refine isCut ?_) <;> (first | refine ⟨⟨none⟩, ?_⟩)) | ((first | with_reducible refine isEx ?_ | with_reducible refine isAnd ?_ | with_reducible refine isOr ?_) <;> (first | (refine ⟨text_sum (a := 10) (b := 20000) h10 (by have := of_decide_eq_false h; omega) (by decide), ?_⟩) | ((with_reducible refine isSmall ?_) <;> (refine ⟨?_, ?_⟩; kernel_rfl)) | refine ⟨rfl, ?_⟩ | refine ⟨Int.natCast_nonneg _, ?_⟩)) | with_reducible refine Both.mk ?_ ?_ | rintro _ rfl | exact rfl | (split <;> (rename_i h; first | (simp only [beq_self_eq_true, eq_self, decide_true, Bool.not_true, Bool.false_eq_true] at h; done) | (try rw [h])))))
  all_goals (conv => whnf)
  · exact ⟨congrArg (fun t => AV.d (D.s t)) (by rw [ho, putText_long h]), rfl⟩
  · exact ⟨congrArg (fun t => AV.d (D.s t)) (by rw [ho, putText_short h]), rfl⟩
structure I64 (n : Int) : Prop where
  lo : -9223372036854775808 ≤ n
  hi : n ≤ 9223372036854775807
def bitB (b : Bool) : List UInt8 := match b with | true => putNum 1 | false => putNum 0
end Go.Pm.Tryz
namespace Go.Pm.Tryz
open Go Go.Proofs
set_option linter.unusedVariables false
set_option linter.unusedSimpArgs false
set_option maxRecDepth 100000
def listB (l : List Int) : List UInt8 := putNum (l.length : Int) ++ l.flatMap putNum
def colB (c : Col) : List UInt8 := (putText c.name ++ putNum c.kind) ++ bitB c.uniq
def idxB (i : Idx) : List UInt8 := listB i.cols ++ bitB i.uniq
def schH (s : Schema) : List UInt8 := putText s.name ++ putNum (s.cols.length : Int)
def schM (s : Schema) : List UInt8 := listB s.keys ++ putNum (s.idxs.length : Int)
def schB (s : Schema) : List UInt8 := ((schH s ++ s.cols.flatMap colB) ++ schM s) ++ s.idxs.flatMap idxB
noncomputable def schBytes (s : Schema) : List UInt8 := match dec (schemaP s) with | true => schB s | false => []
theorem schBytes_ok {s : Schema} (h : dec (schemaP s) = true) : schBytes s = schB s := by simp only [schBytes, h]
theorem schBytes_bad {s : Schema} (h : dec (schemaP s) = false) : schBytes s = [] := by simp only [schBytes, h]
def IntsPut (l : List Int) : Prop := l.length ≤ 10 ∧ ∀ x, x ∈ l → I64 x
structure ColPut (c : Col) : Prop where
  l : c.name.length ≤ 20000
  k : I64 c.kind
structure SchPut (s : Schema) : Prop where
  l : s.name.length ≤ 20000
  cols : s.cols.length ≤ 10 ∧ ∀ c, c ∈ s.cols → ColPut c
  keys : IntsPut s.keys
  idxs : s.idxs.length ≤ 4 ∧ ∀ i, i ∈ s.idxs → IntsPut i.cols
theorem name_len {l : List UInt8} (h : nameOk l = true) : l.length ≤ 20 := by
  simp only [nameOk, Bool.and_eq_true, decide_eq_true_eq] at h
  exact h.1.2
theorem ints_put {l : List Int} {n : Nat} (h : colsP l n) (hn : n ≤ 10) : IntsPut l :=
  ⟨by have := colsP_len h; omega, fun x hx => by have := colsP_in h hx; exact ⟨by omega, by omega⟩⟩
theorem sch_put {s : Schema} (h : schemaP s) : SchPut s where
  l := by have := name_len h.name; omega
  cols := ⟨h.hi, fun c hc => by
    obtain ⟨k, hk, e⟩ := List.mem_iff_getElem.1 hc
    obtain ⟨h1, h2, _⟩ := h.cols k c (by rw [List.getElem?_eq_getElem hk, e])
    have := name_len h1
    exact ⟨by omega, by omega, by omega⟩⟩
  keys := ints_put h.keys h.hi
  idxs := ⟨h.idx, fun i hi => ints_put (h.idxs i hi) h.hi⟩
theorem flat_len {α : Type} {f : α → List UInt8} {b : Nat} : ∀ {xs : List α}, (∀ x, x ∈ xs → (f x).length ≤ b) → (xs.flatMap f).length ≤ b * xs.length
  | [], _ => by simp
  | x :: xs, h => by
    have h1 := h x (List.mem_cons_self ..)
    have h2 := flat_len (xs := xs) fun y hy => h y (List.mem_cons_of_mem _ hy)
    rw [List.flatMap_cons, List.length_append, List.length_cons, Nat.mul_succ]; omega
theorem flat_next {α : Type} {f : α → List UInt8} {xs : List α} {k : Nat} {x : α} (h : xs[k]? = some x) : (xs.take (k + 1)).flatMap f = (xs.take k).flatMap f ++ f x := by
  rw [take_up h, List.flatMap_append, List.flatMap_cons, List.flatMap_nil, List.append_nil]
theorem flatT_len {α : Type} {f : α → List UInt8} {b : Nat} {xs : List α} (h : ∀ x, x ∈ xs → (f x).length ≤ b) (k : Nat) : ((xs.take k).flatMap f).length ≤ b * xs.length := by
  have h1 := flat_len (xs := xs.take k) fun x hx => h x (List.mem_of_mem_take hx)
  have h2 : (xs.take k).length ≤ xs.length := by rw [List.length_take]; omega
  exact Nat.le_trans h1 (Nat.mul_le_mul_left _ h2)
theorem bitB_len (b : Bool) : (bitB b).length ≤ 10 := by cases b <;> exact putNum_len _
theorem ints_len (l : List Int) : (l.flatMap putNum).length ≤ 10 * l.length := flat_len fun x _ => putNum_len x
theorem listB_len (l : List Int) : (listB l).length ≤ 10 + 10 * l.length := by
  have := ints_len l; have := putNum_len (l.length : Int)
  rw [listB, List.length_append]; omega
theorem text_len (t : List UInt8) : (putText t).length ≤ 10 + t.length := by
  unfold putText
  split
  · exact Nat.zero_le _
  · rw [List.length_append]; have := putNum_len (t.length : Int); omega
theorem schB_len {s : Schema} (h : schemaP s) : (schB s).length ≤ 20000 := by
  have hp := sch_put h
  have h1 : ∀ c, c ∈ s.cols → (colB c).length ≤ 50 := fun c hc => by
    obtain ⟨k, hk, e⟩ := List.mem_iff_getElem.1 hc
    have := name_len (h.cols k c (by rw [List.getElem?_eq_getElem hk, e])).1
    have := text_len c.name; have := putNum_len c.kind; have := bitB_len c.uniq
    simp only [colB, List.length_append]; omega
  have h2 : ∀ i, i ∈ s.idxs → (idxB i).length ≤ 120 := fun i hi => by
    have := (hp.idxs.2 i hi).1; have := listB_len i.cols; have := bitB_len i.uniq
    simp only [idxB, List.length_append]; omega
  have h3 := flat_len h1; have h4 := flat_len h2
  have := hp.cols.1; have := hp.idxs.1; have := hp.keys.1
  have := listB_len s.keys; have := name_len h.name; have := text_len s.name
  have := putNum_len (s.cols.length : Int); have := putNum_len (s.idxs.length : Int)
  simp only [schB, schH, schM, List.length_append]; omega
theorem schB_ne (s : Schema) : schB s ≠ [] := by
  intro e
  have := congrArg List.length e
  simp only [schB, schM, List.length_append, List.length_nil] at this
  exact putNum_ne (s.idxs.length : Int) (List.eq_nil_of_length_eq_zero (by omega))
theorem sch_iff (s : Schema) : dec (schemaP s) = !decide (schBytes s = []) := by
  cases h : dec (schemaP s) with
  | false => rw [schBytes_bad h]; rfl
  | true => rw [schBytes_ok h, decide_eq_false (schB_ne s)]; rfl
theorem schBytes_len (s : Schema) : (schBytes s).length ≤ 20000 := by
  cases h : dec (schemaP s) with
  | false => rw [schBytes_bad h]; decide
  | true => rw [schBytes_ok h]; exact schB_len (of_dec h)
end Go.Pm.Tryz
namespace Go.Pm
open Go
set_option linter.unusedVariables false
variable {P : Program}
structure BldTo (w w' : World) (b : Nat) (own : Option Nat) (t e : TypeId) (l : List UInt8) : Prop where
  ob : ∃ q v, (q = .pointer none ∨ q = .pointer (some ⟨b, 0, none⟩)) ∧ w'.heap[b]? = some (.cells #[q, v] t (0, 0)) ∧ w'.ownsRowF 0 e 1 v l.length (Lib.byteCells l) ∧ ∀ g, v.ownBlock = some g → g ≠ b ∧ (own = some g ∨ w.heap.size ≤ g)
  os : w'.os = w.os
  tape : w'.tape = w.tape
  output : w'.output = w.output
  size : w.heap.size ≤ w'.heap.size
  block : ∀ k, k < w.heap.size → k ≠ b → own ≠ some k → w'.heap[k]? = w.heap[k]?
theorem ent_bld {f : FuncId} {xs : List AV} {R : AV} {t e : TypeId} {l l' : List UInt8} (hE : Enters P f)
    (h : ∀ (X : Nat → Prop) (J : Nat → Option Place) (w : World) (b : Nat) (q v : Value) (us : List Value), (q = .pointer none ∨ q = .pointer (some ⟨b, 0, none⟩)) → w.heap[b]? = some (.cells #[q, v] t (0, 0)) →
      w.ownsRowF 0 e 1 v l.length (Lib.byteCells l) → v.ownBlock ≠ some b → AV.repL w X J xs us →
      Calls P f (.pointer (some ⟨b, 0, none⟩) :: us).toArray w fun x w' => ∃ r, x = .returned r ∧ (∀ X J, R.rep w' X J r) ∧ BldTo w w' b v.ownBlock t e l') :
    Ent P f (.ptr 0 0 :: xs) [.bld t e l] R [.bld t e l'] := by
  refine ⟨hE, fun X0 J w vs hr hm => ?_⟩
  obtain ⟨p, hp, hh, q, v, hq, hb, ho, hnest⟩ := hm.ob 0 _ rfl
  simp only [AV.repL] at hr
  obtain ⟨u, us, hvs, ⟨p2, hp2, hu⟩, hus⟩ := hr
  rw [hp] at hp2; cases hp2
  have hk : ∀ k p', J k = some p' → k = 0 := by
    intro k p' hkp
    obtain ⟨o, ho⟩ := hm.dom k p' hkp
    cases k with
    | zero => rfl
    | succ k => cases ho
  have hfp : p.fp = p.blk :: p.nest := p.fp_hd hh
  have hnd := hm.nd 0 p hp
  rw [hfp] at hnd
  have hne : v.ownBlock ≠ some p.blk := by
    intro he
    rw [hnest, he] at hnd
    simp at hnd
  have e0 : vs = (.pointer (some ⟨p.blk, 0, none⟩) :: us).toArray := by
    apply Array.ext'; rw [hvs, hu]
  rw [e0]
  have hlt : p.blk < w.heap.size := (Array.getElem?_eq_some_iff.1 hb).1
  refine (h _ J w p.blk q v us hq hb ho hne hus).mono ?_
  rintro x w' ⟨r, rfl, hR, hT⟩
  obtain ⟨q', v', hq', hb', ho', hown'⟩ := hT.ob
  have mfp : ∀ b, b ∈ p.fp ↔ b = p.blk ∨ v.ownBlock = some b := by
    intro b; rw [hfp, hnest]; cases v.ownBlock <;> simp [eq_comm]
  refine ⟨R, [.bld t e l'], r, fun k => if k = 0 then some ⟨p.blk, v'.ownBlock.toList, p.v, p.hd⟩ else none, ⟨rfl, rfl⟩, rfl, hR _ _, ?_, ?_, ?_, ?_⟩
  · have mfp' : ∀ b, b ∈ (⟨p.blk, v'.ownBlock.toList, p.v, p.hd⟩ : Place).fp ↔ b = p.blk ∨ v'.ownBlock = some b := by
      intro b; rw [Place.fp_hd (p := ⟨p.blk, v'.ownBlock.toList, p.v, p.hd⟩) hh]; cases v'.ownBlock <;> simp [eq_comm]
    refine ⟨?_, ?_, ?_, ?_, ?_⟩
    · intro k o hko
      cases k with
      | zero => cases hko; exact ⟨_, rfl, hh, q', v', hq', hb', ho', rfl⟩
      | succ k => cases hko
    · intro k p' hkp
      cases k with
      | zero => exact ⟨_, rfl⟩
      | succ k => simp at hkp
    · intro k k' p1 p2 h1 h2 hne b hb1 hb2
      split at h1
      · split at h2
        · omega
        · cases h2
      · cases h1
    · intro k p1 h1
      split at h1
      · cases h1
        rw [Place.fp_hd (p := ⟨p.blk, v'.ownBlock.toList, p.v, p.hd⟩) hh]
        cases hv : v'.ownBlock with
        | none => simp
        | some g => have := (hown' g hv).1; simp; exact fun e => this e.symm
      · cases h1
    · intro b hx
      obtain ⟨hbw, hno⟩ := hm.x0 b hx
      have hnp := hno 0 p hp
      rw [mfp] at hnp
      refine ⟨Nat.lt_of_lt_of_le hbw hT.size, ?_⟩
      intro k p1 h1
      split at h1
      · cases h1
        rw [mfp']
        rintro (rfl | hg)
        · exact hnp (.inl rfl)
        · rcases (hown' b hg).2 with h2 | h2
          · exact hnp (.inr h2)
          · omega
      · cases h1
  · refine ⟨hT.os, hT.tape, hT.output, hT.size, ?_⟩
    intro b hbw hF
    have hnp : b ∉ p.fp := fun hm => hF ⟨0, p, hp, hm⟩
    rw [mfp] at hnp
    exact hT.block b hbw (fun e => hnp (.inl e)) (fun e => hnp (.inr e))
  · intro k p1 b h1 hbp
    dsimp only at h1
    split at h1
    · cases h1
      rw [Place.fp_hd (p := ⟨p.blk, v'.ownBlock.toList, p.v, p.hd⟩) hh] at hbp
      rcases List.mem_cons.1 hbp with rfl | hbp
      · exact .inl ⟨0, p, hp, by rw [mfp]; exact .inl rfl⟩
      · have hg : v'.ownBlock = some b := by
          cases hv : v'.ownBlock with
          | none => rw [hv] at hbp; cases hbp
          | some g => rw [hv] at hbp; simp at hbp; rw [hbp]
        rcases (hown' b hg).2 with h2 | h2
        · exact .inl ⟨0, p, hp, by rw [mfp]; exact .inr h2⟩
        · exact .inr h2
    · cases h1
  · intro k p1 h1
    cases hk k p1 h1
    rw [hp] at h1; cases h1
    exact ⟨_, rfl, rfl, rfl⟩
end Go.Pm
namespace Go.Proofs
open Go.Pm
set_option linter.unusedVariables false
set_option linter.unusedSimpArgs false
set_option maxHeartbeats 1000000 in
set_option maxRecDepth 100000 in
theorem Tryz.copyCheck_used (b : Nat) (w : World) (h0 : w.cell? ⟨b, 0, none⟩ = some (.pointer (some ⟨b, 0, none⟩))) :
    Calls Tryz.prog 153 #[.pointer (some ⟨b, 0, none⟩)] w fun e w' => e = .returned (.tuple #[]) ∧ w' = w := by
  obtain ⟨j, hj, _⟩ : ∃ j, Tryz.prog.info? 185 = some j ∧ j.size = 2 := Option.map_eq_some_iff.1 (by kernel_rfl : (Tryz.prog.info? 185).map (·.size) = some 2)
  go_enter Tryz.func153, Tryz.ntmps153
  go_wp2
  rw [Lib.run_neq_ptr_same w _ (by kernel_rfl : Tryz.prog.underlying 183 = some (.pointer 185)) hj]
  go_wp2
  go_end0
  exact ⟨rfl, rfl⟩
set_option maxHeartbeats 1000000 in
set_option maxRecDepth 100000 in
theorem Tryz.copyCheck_fresh (b : Nat) (w : World) (h0 : w.cell? ⟨b, 0, none⟩ = some (.pointer none)) (hsh : w.shape? b = some (185, 2)) (hfz : w.frozen? ⟨b, 0, none⟩ = false) :
    Calls Tryz.prog 153 #[.pointer (some ⟨b, 0, none⟩)] w fun e w' => e = .returned (.tuple #[]) ∧ w' = w.setCell ⟨b, 0, none⟩ (.pointer (some ⟨b, 0, none⟩)) := by
  obtain ⟨j, hj, hjs⟩ : ∃ j, Tryz.prog.info? 185 = some j ∧ j.size = 2 := Option.map_eq_some_iff.1 (by kernel_rfl : (Tryz.prog.info? 185).map (·.size) = some 2)
  have t70 : Tryz.prog.underlying 183 = some (.pointer 185) := by kernel_rfl
  have t164 : Tryz.prog.underlying 243 = some .unsafePointer := by kernel_rfl
  go_enter Tryz.func153, Tryz.ntmps153
  go_wp2
  rw [Lib.run_to_unsafe w ⟨b, 0, none⟩ t70 t164 hj (by rw [hjs]; decide) hsh (Nat.zero_lt_succ 1)]
  simp only [Result.andThen]
  rw [Oper.upon_value]
  go_wp2
  rw [run_callFunc_extern Tryz.func186 (by kernel_rfl) (by kernel_rfl) (by kernel_rfl) (e := Extern.AbiNoEscape.same) (by kernel_rfl)]
  rw [Lib.run_noEscape]
  simp only [Result.andThen]
  rw [Oper.upon_value]
  go_wp2
  rw [Lib.run_from_unsafe w ⟨b, 0, none⟩ t164 t70 hj hsh (by kernel_rfl : liesAt Tryz.prog Tryz.prog.depth 185 (2 / Tryz.prog.cellsOf 185) 0 185 1 = true)]
  simp only [Result.andThen]
  rw [Oper.upon_value]
  go_wp2
  go_end0
  exact ⟨rfl, rfl⟩
end Go.Proofs
namespace Go.Pm
open Go
set_option linter.unusedVariables false
variable {P : Program}
theorem append_bld (w : World) (t u ty e : TypeId) (i : TypeInfo) (ht : P.underlying t = some (.slice e)) (hu : P.underlying u = some .string) (hi : P.info? e = some i) (hz : i.zero = some (.int .u8 0))
    (hsize : i.size = 1) (hby : i.bytes = 1) (v : Value) (n : Nat) (xs : List Value) (hown : w.ownsRowF 0 e 1 v n xs) (s : ByteArray) (hbytes : n + s.size ≤ 140737488355328) :
    ∃ v' w', (Builtin.append_ #[t, u] ty #[v, .string s]).run P w = .ok v' w' ∧ w'.ownsRowF 0 e 1 v' (n + s.size) (xs ++ Lib.strCells s) ∧ w.grownBy w' v.ownBlock ∧ ∀ g, v'.ownBlock = some g → v.ownBlock = some g ∨ w.heap.size ≤ g := by
  have h63 : n + s.size ≤ maxLen := by simp only [maxLen]; omega
  rcases hown.2 with ⟨rfl, rfl⟩ | ⟨g, cap, cur, fz, rfl, hbg, hg, hfz, hnc, hcm, hcs, htake⟩
  · obtain ⟨v', w', h1, h2, h3, h4⟩ := Lib.run_append_own_string (P := P) w w.heap.size t u ty e i ht hu hi hz hsize hby (.slice none 0 0) 0 xs ⟨hown.1, .inl ⟨rfl, rfl⟩⟩ s h63 hbytes (Nat.le_refl _)
    have h2F := World.ownsRowF_of h2
    refine ⟨v', w', h1, ⟨h2F.1, h2F.2.imp id ?_⟩, h3, fun g hg => .inr (h2F.lt g hg).1⟩
    rintro ⟨g, cap, cur, fz, e1, e2, e3⟩
    exact ⟨g, cap, cur, fz, e1, Nat.zero_le _, e3⟩
  · have hxl : xs.length = n := by simpa using hown.1
    have hlen : (xs ++ Lib.strCells s).length = (n + s.size) * 1 := by rw [List.length_append, hxl, Lib.strCells_length, Nat.mul_one]
    by_cases hroom : n + s.size ≤ cap
    · have hcs' : cur.size = cap := by simpa using hcs
      have hr := Lib.run_append_room_stringF (P := P) w t u ty e i ht hu hi hsize g n cap cur fz hg (by simpa using hfz) s hroom (by omega)
      refine ⟨_, _, hr, ⟨hlen, .inr ⟨g, cap, _, fz, rfl, hbg, setRow_heap w g cur _ e _ hg, by omega, hroom, hcm, ?_, ?_⟩⟩, ⟨rfl, rfl, rfl, by simp, fun k _ hk => setRow_other w g k _ (fun e => hk (by simp [Value.ownBlock, e]))⟩, fun _ hg => .inl hg⟩
      · simp only [List.size_toArray, List.length_append, List.length_take, List.length_drop, Array.length_toList, Lib.strCells_length]
        omega
      · have ht' : cur.toList.take n = xs := by simpa using htake
        rw [ht', ← hlen]
        exact List.take_left
    · have holds : ∀ j u, xs[j]? = some u → w.cell? ((⟨g, 0, none⟩ : Addr).add j) = some u := hown.cells (g := g) rfl
      have hr := Lib.run_append_grow_string (P := P) w t u ty e i (.int .u8 0) ht hu hi hz ⟨g, 0, none⟩ n cap xs (by rw [hsize]; simpa using hxl) holds s (by omega) (by simp only [maxLen] at h63; omega) (by rw [hby]; exact growslice_fits (by omega) (by omega))
      have hge := grownCap_ge w (n + s.size) cap e
      have hcm2 : grownCap w (n + s.size) cap e ≤ maxLen := grownCap_le_maxLen w (n + s.size) cap e h63
      refine ⟨_, _, hr, ⟨hlen, .inr ⟨w.heap.size, _, _, (0, 0), rfl, Nat.zero_le _, heap_alloc_new w.drew _, Nat.zero_le _, hge, hcm2, ?_, ?_⟩⟩, ⟨rfl, rfl, rfl, by simp, fun k hk _ => Lib.alloc_old w.drew _ k hk⟩, fun g hg => .inr ?_⟩
      · have hz1 : (Value.int IntKind.u8 0).cells.size = 1 := rfl
        simp only [Array.size_append, List.size_toArray, size_zeroCells, hz1, hxl, Lib.strCells_length]
        omega
      · simp only [Array.toList_append, List.append_assoc]
        rw [← List.append_assoc, ← hlen]
        exact List.take_left
      · simp only [Value.ownBlock, Option.some.injEq] at hg; omega
theorem wpList_append_bld {w : World} {ops : Array Oper} {rest : List Oper} {o : Oper} {a : Act} {Q : Exit → Act → World → Prop} (hgd : o.guard = none) (sl x : Operand) (t u : TypeId)
    (ho : o.op = .call { callee := .builtin .append, args := #[sl, x], argTypes := #[t, u] })
    (e : TypeId) (i : TypeInfo) (ht : P.underlying t = some (.slice e)) (hu : P.underlying u = some .string) (hi : P.info? e = some i) (hz : i.zero = some (.int .u8 0))
    (hsize : i.size = 1) (hby : i.bytes = 1)
    (v : Value) (n : Nat) (xs : List Value) (hs : a.eval sl = v) (hown : w.ownsRowF 0 e 1 v n xs) (s : ByteArray) (hx : a.eval x = .string s) (hbytes : n + s.size ≤ 140737488355328)
    (h : ∀ v' w', w'.ownsRowF 0 e 1 v' (n + s.size) (xs ++ Lib.strCells s) → w.grownBy w' v.ownBlock → (∀ g, v'.ownBlock = some g → v.ownBlock = some g ∨ w.heap.size ≤ g) → wpList P ops Q rest (a.put o.dst v') w') : wpList P ops Q (o :: rest) a w := by
  refine wpList_plain hgd fun K hK => ?_
  obtain ⟨v', w', hr, h2, h3, h4⟩ := append_bld (P := P) w t u o.type e i ht hu hi hz hsize hby v n xs hown s hbytes
  unfold Oper.wp execOp
  simp only [ho, resolve, invoke, builtin, Sem.run_bind, Sem.run_pure, Result.andThen_ok, List.map_toArray, List.map_cons, List.map_nil, hs, hx, hr]
  exact hK _ _ (h v' w' h2 h3 h4)
theorem strCells_bytes (s : List UInt8) : Lib.strCells ⟨s.toArray⟩ = Lib.byteCells s := rfl
theorem byteCells_append (a b : List UInt8) : Lib.byteCells (a ++ b) = Lib.byteCells a ++ Lib.byteCells b := by simp [Lib.byteCells]
end Go.Pm
namespace Go.Proofs
open Go.Pm
set_option linter.unusedVariables false
set_option linter.unusedSimpArgs false
theorem Tryz.copyCheck (b : Nat) (q v : Value) (w : World) (hq : q = .pointer none ∨ q = .pointer (some ⟨b, 0, none⟩)) (hb : w.heap[b]? = some (.cells #[q, v] 185 (0, 0))) :
    Calls Tryz.prog 153 #[.pointer (some ⟨b, 0, none⟩)] w fun e w' => e = .returned (.tuple #[]) ∧ w'.heap[b]? = some (.cells #[.pointer (some ⟨b, 0, none⟩), v] 185 (0, 0)) ∧
      w.grownBy w' (some b) ∧ w'.heap.size = w.heap.size := by
  rcases hq with rfl | rfl
  · refine (Tryz.copyCheck_fresh b w (by rw [Lib.cell_of_heap hb]; rfl) (by simp [World.shape?, hb]) (by simp [World.frozen?, hb])).mono ?_
    rintro e w' ⟨rfl, rfl⟩
    have hs := setCell_eq_setRow w b 0 _ _ _ (.pointer (some ⟨b, 0, none⟩)) hb
    refine ⟨rfl, ?_, ⟨rfl, rfl, rfl, by simp, ?_⟩, by simp⟩
    · rw [hs, setRow_heap w b _ _ _ _ hb]; rfl
    · intro k hk hne
      rw [hs]
      exact setRow_other w b k _ (fun e => hne (by rw [e]))
  · refine (Tryz.copyCheck_used b w (by rw [Lib.cell_of_heap hb]; rfl)).mono ?_
    rintro e w' ⟨rfl, rfl⟩
    exact ⟨rfl, hb, ⟨rfl, rfl, rfl, Nat.le_refl _, fun _ _ _ => rfl⟩, rfl⟩
set_option maxHeartbeats 1000000 in
set_option maxRecDepth 100000 in
theorem Tryz.writeStringM (b : Nat) (q v : Value) (l s : List UInt8) (w : World) (hq : q = .pointer none ∨ q = .pointer (some ⟨b, 0, none⟩)) (hb : w.heap[b]? = some (.cells #[q, v] 185 (0, 0)))
    (ho : w.ownsRowF 0 5 1 v l.length (Lib.byteCells l)) (hne : v.ownBlock ≠ some b) (hlen : l.length + s.length ≤ 140737488355328) :
    Calls Tryz.prog 119 #[.pointer (some ⟨b, 0, none⟩), .string ⟨s.toArray⟩] w fun e w' => e = .returned (.tuple #[.int .i64 s.length, .nilIface]) ∧ BldTo w w' b v.ownBlock 185 5 (l ++ s) := by
  obtain ⟨i0, hi, hi3⟩ : ∃ i, Tryz.prog.info? 5 = some i ∧ (i.zero, i.size, i.bytes) = (some (.int .u8 0), 1, 1) := Option.map_eq_some_iff.1 (by kernel_rfl : (Tryz.prog.info? 5).map (fun i => (i.zero, i.size, i.bytes)) = some (some (.int .u8 0), 1, 1))
  simp only [Prod.mk.injEq] at hi3
  obtain ⟨hz, hs1, hby⟩ := hi3
  have tS : Tryz.prog.underlying 148 = some (.slice 5) := by kernel_rfl
  have tT : Tryz.prog.underlying 9 = some .string := by kernel_rfl
  have hlen' : l.length + (⟨s.toArray⟩ : ByteArray).size ≤ 140737488355328 := hlen
  go_enter Tryz.func119, Tryz.ntmps119
  go_wp2_with (go_at_call 153; refine (Tryz.copyCheck b q v _ hq hb).mono ?_)
  rintro e w1 ⟨rfl, hb1, hg1, hs1'⟩
  have hlt : b < w.heap.size := (Array.getElem?_eq_some_iff.1 hb).1
  have c0 : w1.cell? ⟨b, 0, none⟩ = some (.pointer (some ⟨b, 0, none⟩)) := by rw [Lib.cell_of_heap hb1]; rfl
  have c1 : w1.cell? ⟨b, 1, none⟩ = some v := by rw [Lib.cell_of_heap hb1]; rfl
  have ho1 : w1.ownsRowF 0 5 1 v l.length (Lib.byteCells l) := ho.kept hg1 (.inr hne)
  go_wp2_with (at_builtin; refine wpList_append_bld rfl _ _ 148 9 rfl 5 i0 tS tT hi hz hs1 hby _ _ _ rfl ho1 ⟨s.toArray⟩ rfl hlen' ?_)
  intro v' w2 ho2 hg2 hown2
  have hlt1 : b < w1.heap.size := by omega
  have hb2 : w2.heap[b]? = some (.cells #[.pointer (some ⟨b, 0, none⟩), v] 185 (0, 0)) := (hg2.block b hlt1 (fun e => hne e.symm)).trans hb1
  have d0 : w2.cell? ⟨b, 0, none⟩ = some (.pointer (some ⟨b, 0, none⟩)) := by rw [Lib.cell_of_heap hb2]; rfl
  have d1 : w2.cell? ⟨b, 1, none⟩ = some v := by rw [Lib.cell_of_heap hb2]; rfl
  have f1 : w2.frozen? ⟨b, 1, none⟩ = false := Lib.frozen_of_heap hb2 1
  have hv1 : v'.oneCell' = true := by
    rcases ho2.2 with ⟨rfl, _⟩ | ⟨g, cap, cur, fz, rfl, _⟩ <;> rfl
  obtain ⟨ao, n', cap, rfl⟩ : ∃ ao n' cap, v' = .slice ao n' cap := by
    rcases ho2.2 with ⟨hv, _⟩ | ⟨g, cap, cur, fz, hv, _⟩
    · exact ⟨_, _, _, hv⟩
    · exact ⟨_, _, _, hv⟩
  go_wp2
  go_ret2
  have hset := setCell_eq_setRow w2 b 1 _ _ _ (.slice ao n' cap) hb2
  have hoth : ∀ k, k ≠ b → (w2.setCell ⟨b, 1, none⟩ (.slice ao n' cap)).heap[k]? = w2.heap[k]? := fun k hk => by rw [hset]; exact setRow_other w2 b k _ hk
  have hnew : ∀ g, (Value.slice ao n' cap).ownBlock = some g → g ≠ b ∧ (v.ownBlock = some g ∨ w.heap.size ≤ g) := by
    intro g hg
    rcases hown2 g hg with h | h
    · exact ⟨fun e => hne (by rw [h, e]), .inl h⟩
    · exact ⟨by omega, .inr (by omega)⟩
  refine ⟨rfl, ⟨⟨_, _, .inr rfl, by rw [hset, setRow_heap w2 b _ _ _ _ hb2]; rfl, ?_, hnew⟩, hg2.os.trans hg1.os, hg2.tape.trans hg1.tape, hg2.output.trans hg1.output, ?_, ?_⟩⟩
  · rw [strCells_bytes, ← byteCells_append] at ho2
    refine ⟨by rw [Lib.byteCells_length, Nat.mul_one], ?_⟩
    have hl : (l ++ s).length = l.length + (⟨s.toArray⟩ : ByteArray).size := by rw [List.length_append]; rfl
    rw [hl]
    refine ho2.2.imp id ?_
    rintro ⟨g, cap', cur, fz, e1, e2, e3, e4⟩
    refine ⟨g, cap', cur, fz, e1, e2, ?_, e4⟩
    rw [hoth g (hnew g (by rw [e1]; rfl)).1]; exact e3
  · have := hg2.size; simp; omega
  · intro k hk hkb hko
    rw [hoth k hkb, hg2.block k (by omega) (fun e => hko e.symm), hg1.block k hk (fun e => hkb (Option.some.inj e))]
set_option maxHeartbeats 2000000 in
set_option maxRecDepth 100000 in
theorem Tryz.builderStringM (b : Nat) (q v : Value) (l : List UInt8) (w : World) (hq : q = .pointer none ∨ q = .pointer (some ⟨b, 0, none⟩)) (hb : w.heap[b]? = some (.cells #[q, v] 185 (0, 0)))
    (ho : w.ownsRowF 0 5 1 v l.length (Lib.byteCells l)) (hne : v.ownBlock ≠ some b) (h0 : l ≠ []) :
    Calls Tryz.prog 124 #[.pointer (some ⟨b, 0, none⟩)] w fun e w' => e = .returned (.string ⟨l.toArray⟩) ∧ BldTo w w' b v.ownBlock 185 5 l := by
  have hl0 : l.length ≠ 0 := by simpa using h0
  have hown := ho
  obtain ⟨g, cap, cur, fz, rfl, hbg, hg, hfz, hnc, hcm, hcs, htake⟩ : ∃ g cap cur fz, v = .slice (some ⟨g, 0, none⟩) l.length cap ∧ 0 ≤ g ∧ w.heap[g]? = some (.cells cur 5 fz) ∧ fz.2 ≤ l.length * 1 ∧ l.length ≤ cap ∧ cap ≤ maxLen ∧ cur.size = cap * 1 ∧ cur.toList.take (l.length * 1) = Lib.byteCells l := by
    rcases hown.2 with ⟨_, hz⟩ | ⟨g, cap, cur, fz, hv, r⟩
    · exact absurd hz hl0
    · exact ⟨g, cap, cur, fz, hv, r⟩
  have c1 : w.drew.cell? ⟨b, 1, none⟩ = some (.slice (some ⟨g, 0, none⟩) l.length cap) := by
    have : w.drew.heap[b]? = some (.cells #[q, .slice (some ⟨g, 0, none⟩) l.length cap] 185 (0, 0)) := hb
    rw [Lib.cell_of_heap this]; rfl
  have hSD : (Builtin.unsafeSliceData_ #[148] 215 #[.slice (some ⟨g, 0, none⟩) l.length cap]).run Tryz.prog w.drew = .ok (.pointer (some ⟨g, 0, none⟩)) w.drew :=
    Lib.run_unsafeSliceData_row _ _ _ _ _ _ (by omega)
  have hUS : (Builtin.unsafeString_ #[215, 3] 9 #[.pointer (some ⟨g, 0, none⟩), .int .i64 l.length]).run Tryz.prog w.drew = .ok (.string ⟨l.toArray⟩) (w.drew.freeze ⟨g, 0, none⟩ l.length) := by
    refine Lib.run_unsafeString_row w.drew 215 3 9 5 (by kernel_rfl) (by kernel_rfl) g cur.size (by have hg' : w.drew.heap[g]? = some (.cells cur 5 fz) := hg; simp [World.shape?, hg']) l h0 (by omega) (by unfold maxLen at hcm; omega) ?_
    intro j x hx
    have := hown.cells (g := g) rfl j (.int .u8 x.toNat) (by simp [Lib.byteCells, hx])
    exact this
  have hgb : g ≠ b := fun e => hne (by simp [Value.ownBlock, e])
  have hfr : ∀ k, k ≠ g → (w.drew.freeze ⟨g, 0, none⟩ l.length).heap[k]? = w.heap[k]? := by
    intro k hk
    unfold World.freeze
    split
    · rfl
    · simp only [Array.getElem?_modify]
      rw [if_neg (Ne.symm hk)]; rfl
  have hkeep : BldTo w (w.drew.freeze ⟨g, 0, none⟩ l.length) b (some g) 185 5 l := by
    have hA : Lib.BuilderAtF 185 5 0 b q (Lib.byteCells l) w.drew := ⟨Nat.zero_le _, _, hb, by rw [Lib.byteCells_length]; exact hown, hne⟩
    have hF := hA.froze (g := g) (cap := cap) (by rw [Lib.byteCells_length]; exact c1)
    rw [Lib.byteCells_length] at hF
    obtain ⟨_, v', hb', ho', hne'⟩ := hF
    have hv : v' = .slice (some ⟨g, 0, none⟩) l.length cap := by
      have := hb'.symm.trans ((hfr b hgb.symm).trans hb)
      simp only [Option.some.injEq, Obj.cells.injEq, and_true] at this
      simpa using this
    subst hv
    rw [Lib.byteCells_length] at ho'
    refine ⟨⟨q, _, hq, hb', ho', fun k hk => ?_⟩, ?_, ?_, ?_, ?_, fun k hk hkb hkg => hfr k (fun e => hkg (by rw [e]))⟩
    · simp only [Value.ownBlock, Option.some.injEq] at hk
      exact ⟨by omega, .inl (by rw [hk])⟩
    all_goals (unfold World.freeze; split)
    all_goals first | rfl | exact Nat.le_refl _ | (simp; done) | (show w.heap.size ≤ _; simp [World.drew])
  go_enter Tryz.func124, Tryz.ntmps124
  go_wp2
  go_region
  all_goals (go_wp2; go_ret; exact ⟨rfl, hkeep⟩)
end Go.Proofs
namespace Go.Pm.Tryz
open Go Go.Proofs
set_option linter.unusedVariables false
theorem writeString (l s : List UInt8) (hlen : l.length + s.length ≤ 140737488355328) : Ent Tryz.prog 119 [.ptr 0 0, .d (.s s)] [.bld 185 5 l] (.tup [.d (.i .i64 s.length), .c .nilIface]) [.bld 185 5 (l ++ s)] := by
  refine ent_bld ⟨_, Tryz.func119, by kernel_rfl, by kernel_rfl⟩ fun X J w b q v us hq hb ho hne hr => ?_
  simp only [AV.repL, AV.rep, D.rep] at hr
  obtain ⟨u, us', rfl, ⟨rfl, _⟩, rfl⟩ := hr
  refine (Tryz.writeStringM b q v l s w hq hb ho hne hlen).mono ?_
  rintro e w' ⟨rfl, h⟩
  refine ⟨_, rfl, fun X J => ?_, h⟩
  exact ⟨_, rfl, _, _, rfl, ⟨rfl, rfl⟩, _, _, rfl, ⟨rfl, rfl⟩, rfl⟩
theorem builderString (l : List UInt8) (h0 : l ≠ []) : Ent Tryz.prog 124 [.ptr 0 0] [.bld 185 5 l] (.d (.s l)) [.bld 185 5 l] := by
  refine ent_bld ⟨_, Tryz.func124, by kernel_rfl, by kernel_rfl⟩ fun X J w b q v us hq hb ho hne hr => ?_
  simp only [AV.repL] at hr
  subst hr
  refine (Tryz.builderStringM b q v l w hq hb ho hne h0).mono ?_
  rintro e w' ⟨rfl, h⟩
  exact ⟨_, rfl, fun X J => ⟨rfl, rfl⟩, h⟩
end Go.Pm.Tryz
namespace Go.Pm.Tryz
open Go Go.Proofs
set_option linter.unusedVariables false
set_option linter.unusedSimpArgs false
set_option maxRecDepth 100000
section
variable {α : Type} {f : α → List UInt8} {xs : List α} {k : Nat} {x : α} {h acc : List UInt8}
theorem acc_zero (h : List UInt8) (f : α → List UInt8) (xs : List α) : h = h ++ (xs.take 0).flatMap f := by simp
theorem acc_next (ha : acc = h ++ (xs.take k).flatMap f) (hx : xs[k]? = some x) : acc ++ f x = h ++ (xs.take (k + 1)).flatMap f := by
  rw [flat_next hx, ha, List.append_assoc]
theorem acc_len {a b : Nat} (ha : acc = h ++ (xs.take k).flatMap f) (hh : h.length ≤ a) (hf : ∀ x, x ∈ xs → (f x).length ≤ b) : acc.length ≤ a + b * xs.length := by
  have := flatT_len hf k
  rw [ha, List.length_append]; omega
theorem acc_all {g : α → D} (ha : acc = h ++ (xs.take k).flatMap f) (hk : decide ((k : Int) < ((xs.map g).length : Int)) = false) : acc = h ++ xs.flatMap f := by
  have := of_decide_eq_false hk
  rw [List.length_map] at this
  rw [ha, List.take_of_length_le (by omega)]
end
theorem specBool (b : Bool) : Ent Tryz.prog 102 [.d (.b b)] [] (.d (.s (bitB b))) [] := by
  have c1 := specPutNum 1 (by decide) (by decide)
  have c0 := specPutNum 0 (by decide) (by decide)
  cases b
  all_goals
    refine ent_of tok mixed (f := 102) Tryz.func102 (by kernel_rfl) (keep := false) ?_
    repeat' ((conv => whnf) <;> (first | ((with_reducible refine isCall ?_) <;> (first | (refine ⟨_, c1, ?_⟩; rintro _ _ ⟨rfl, rfl⟩) | (refine ⟨_, c0, ?_⟩; rintro _ _ ⟨rfl, rfl⟩) | fail)) | ((with_reducible refine isCut ?_) <;> (first | refine ⟨⟨none⟩, ?_⟩)) | ((first | with_reducible refine isEx ?_ | with_reducible refine isAnd ?_ | with_reducible refine isOr ?_) <;> (first | ((with_reducible refine isSmall ?_) <;> (refine ⟨?_, ?_⟩; kernel_rfl)) | refine ⟨rfl, ?_⟩ | refine ⟨Int.natCast_nonneg _, ?_⟩)) | with_reducible refine Both.mk ?_ ?_ | rintro _ rfl | exact rfl | (split <;> (rename_i h; first | (simp only [beq_self_eq_true, eq_self, decide_true, Bool.not_true, Bool.false_eq_true] at h; done) | (try rw [h])))))
  all_goals exact ⟨rfl, rfl⟩
theorem implBit (b : Bool) : Ent Tryz.prog 122 [.d (.b b)] [] (.d (.s (bitB b))) [] := by
  have c1 := implPutNum 1 (by decide) (by decide)
  have c0 := implPutNum 0 (by decide) (by decide)
  cases b
  all_goals
    refine ent_of tok mixed (f := 122) Tryz.func122 (by kernel_rfl) (keep := false) ?_
    repeat' ((conv => whnf) <;> (first | ((with_reducible refine isCall ?_) <;> (first | (refine ⟨_, c1, ?_⟩; rintro _ _ ⟨rfl, rfl⟩) | (refine ⟨_, c0, ?_⟩; rintro _ _ ⟨rfl, rfl⟩) | fail)) | ((with_reducible refine isCut ?_) <;> (first | refine ⟨⟨none⟩, ?_⟩)) | ((first | with_reducible refine isEx ?_ | with_reducible refine isAnd ?_ | with_reducible refine isOr ?_) <;> (first | ((with_reducible refine isSmall ?_) <;> (refine ⟨?_, ?_⟩; kernel_rfl)) | refine ⟨rfl, ?_⟩ | refine ⟨Int.natCast_nonneg _, ?_⟩)) | with_reducible refine Both.mk ?_ ?_ | rintro _ rfl | exact rfl | (split <;> (rename_i h; first | (simp only [beq_self_eq_true, eq_self, decide_true, Bool.not_true, Bool.false_eq_true] at h; done) | (try rw [h])))))
  all_goals exact ⟨rfl, rfl⟩
theorem putLen {f : Int → D} {l : List Int} {F : FuncId} (c : Ent Tryz.prog F [.d (.i .i64 (l.length : Int))] [] (.d (.s (putNum (l.length : Int)))) []) : Ent Tryz.prog F [.d (.i .i64 ((l.map f).length : Int))] [] (.d (.s (putNum (l.length : Int)))) [] := by
  rw [List.length_map]; exact c
set_option maxHeartbeats 1000000 in
theorem specNums (l : List Int) (hp : IntsPut l) : Ent Tryz.prog 103 [.d (.sl false (l.map i64D))] [] (.d (.s (listB l))) [] := by
  have hl := hp.1
  have c1 := putLen (f := i64D) (specPutNum (l.length : Int) (by omega) (by omega))
  have hm : l.length ≤ maxLen := Nat.le_trans hl (Nat.le_of_ble_eq_true rfl)
  refine ent_of tok mixed (f := 103) Tryz.func103 (by kernel_rfl) (keep := false) ?_
  repeat' ((conv => whnf) <;> (first | ((with_reducible refine isCall ?_) <;> (first | (refine ⟨_, c1, ?_⟩; rintro _ _ ⟨rfl, rfl⟩) | (refine ⟨_, specPutNum x hx2.lo hx2.hi, ?_⟩; rintro _ _ ⟨rfl, rfl⟩) | (obtain ⟨x, hx⟩ := get_ex (k := k) (lt_of_dec (by assumption)); have hx2 := hp.2 x (get_mem hx); have q6 := putNum_len x; refine ⟨_, get_map' hx, ?_⟩) | (refine ⟨(by (try simp only [List.length_append]); omega), ?_⟩) | exact ⟨⟨k + 1, _, _, step_up (get_lt hx) hm, acc_next hacc hx, rfl⟩, mu_up (get_lt hx) hm⟩ | fail)) | ((with_reducible refine isLoop ?_) <;> (first | (refine ⟨[0, 3, 4], [], fun st => ∃ (k : Nat) (n : Int) (acc : List UInt8), n = k ∧ acc = putNum (l.length : Int) ++ (l.take k).flatMap putNum ∧ st = ⟨[(0, .d (.sl false (l.map i64D))), (3, .d (.s acc)), (4, .d (.i .i64 n))], []⟩, fun s => match look 4 s.env with | some (.d (.i _ n)) => l.length - n.toNat | _ => 0, rfl, ⟨0, _, _, rfl, acc_zero _ putNum l, rfl⟩, ?_⟩; rintro st ⟨k, n, acc, rfl, hacc, rfl⟩; have q7 := acc_len hacc (putNum_len _) fun x _ => putNum_len x) | (obtain ⟨x, hx⟩ := get_ex (k := k) (lt_of_dec (by assumption)); have hx2 := hp.2 x (get_mem hx); have q6 := putNum_len x; refine ⟨_, get_map' hx, ?_⟩) | (refine ⟨(by (try simp only [List.length_append]); omega), ?_⟩) | exact ⟨⟨k + 1, _, _, step_up (get_lt hx) hm, acc_next hacc hx, rfl⟩, mu_up (get_lt hx) hm⟩ | fail)) | ((with_reducible refine isCut ?_) <;> (first | refine ⟨⟨none⟩, ?_⟩)) | ((first | with_reducible refine isEx ?_ | with_reducible refine isAnd ?_ | with_reducible refine isOr ?_) <;> (first | (obtain ⟨x, hx⟩ := get_ex (k := k) (lt_of_dec (by assumption)); have hx2 := hp.2 x (get_mem hx); have q6 := putNum_len x; refine ⟨_, get_map' hx, ?_⟩) | (refine ⟨(by (try simp only [List.length_append]); omega), ?_⟩) | exact ⟨⟨k + 1, _, _, step_up (get_lt hx) hm, acc_next hacc hx, rfl⟩, mu_up (get_lt hx) hm⟩ | ((with_reducible refine isSmall ?_) <;> (refine ⟨?_, ?_⟩; kernel_rfl)) | refine ⟨rfl, ?_⟩ | refine ⟨Int.natCast_nonneg _, ?_⟩)) | with_reducible refine Both.mk ?_ ?_ | rintro _ rfl | exact rfl | (split <;> (rename_i h; first | (simp only [beq_self_eq_true, eq_self, decide_true, Bool.not_true, Bool.false_eq_true] at h; done) | (try rw [h])))))
  all_goals (conv => whnf)
  all_goals (refine ⟨congrArg (fun t => AV.d (D.s t)) ?_, rfl⟩)
  all_goals exact acc_all hacc h
set_option maxHeartbeats 1000000 in
theorem implPutList (l : List Int) (hp : IntsPut l) : Ent Tryz.prog 123 [.d (.sl false (l.map i64D))] [] (.d (.s (listB l))) [] := by
  have hl := hp.1
  have c1 := putLen (f := i64D) (implPutNum (l.length : Int) (by omega) (by omega))
  have hm : l.length ≤ maxLen := Nat.le_trans hl (Nat.le_of_ble_eq_true rfl)
  refine ent_of tok mixed (f := 123) Tryz.func123 (by kernel_rfl) (keep := false) ?_
  repeat' ((conv => whnf) <;> (first | ((with_reducible refine isCall ?_) <;> (first | (refine ⟨_, c1, ?_⟩; rintro _ _ ⟨rfl, rfl⟩) | (refine ⟨_, implPutNum x hx2.lo hx2.hi, ?_⟩; rintro _ _ ⟨rfl, rfl⟩) | (obtain ⟨x, hx⟩ := get_ex (k := k) (lt_of_dec (by assumption)); have hx2 := hp.2 x (get_mem hx); have q6 := putNum_len x; refine ⟨_, get_map' hx, ?_⟩) | (refine ⟨(by (try simp only [List.length_append]); omega), ?_⟩) | exact ⟨⟨k + 1, _, _, step_up (get_lt hx) hm, acc_next hacc hx, rfl⟩, mu_up (get_lt hx) hm⟩ | fail)) | ((with_reducible refine isLoop ?_) <;> (first | (refine ⟨[3, 9, 10, 11], [], fun st => ∃ (k : Nat) (n : Int) (acc : List UInt8), n = k ∧ acc = putNum (l.length : Int) ++ (l.take k).flatMap putNum ∧ st = ⟨[(3, .d (.s acc)), (9, .d (.sl false (l.map i64D))), (10, .d (.i .i64 ((l.map i64D).length : Int))), (11, .d (.i .i64 n))], []⟩, fun s => match look 11 s.env with | some (.d (.i _ n)) => l.length - n.toNat | _ => 0, rfl, ⟨0, _, _, rfl, acc_zero _ putNum l, rfl⟩, ?_⟩; rintro st ⟨k, n, acc, rfl, hacc, rfl⟩; have q7 := acc_len hacc (putNum_len _) fun x _ => putNum_len x) | (obtain ⟨x, hx⟩ := get_ex (k := k) (lt_of_dec (by assumption)); have hx2 := hp.2 x (get_mem hx); have q6 := putNum_len x; refine ⟨_, get_map' hx, ?_⟩) | (refine ⟨(by (try simp only [List.length_append]); omega), ?_⟩) | exact ⟨⟨k + 1, _, _, step_up (get_lt hx) hm, acc_next hacc hx, rfl⟩, mu_up (get_lt hx) hm⟩ | fail)) | ((with_reducible refine isCut ?_) <;> (first | refine ⟨⟨none⟩, ?_⟩)) | ((first | with_reducible refine isEx ?_ | with_reducible refine isAnd ?_ | with_reducible refine isOr ?_) <;> (first | (obtain ⟨x, hx⟩ := get_ex (k := k) (lt_of_dec (by assumption)); have hx2 := hp.2 x (get_mem hx); have q6 := putNum_len x; refine ⟨_, get_map' hx, ?_⟩) | (refine ⟨(by (try simp only [List.length_append]); omega), ?_⟩) | exact ⟨⟨k + 1, _, _, step_up (get_lt hx) hm, acc_next hacc hx, rfl⟩, mu_up (get_lt hx) hm⟩ | ((with_reducible refine isSmall ?_) <;> (refine ⟨?_, ?_⟩; kernel_rfl)) | refine ⟨rfl, ?_⟩ | refine ⟨Int.natCast_nonneg _, ?_⟩)) | with_reducible refine Both.mk ?_ ?_ | rintro _ rfl | exact rfl | (split <;> (rename_i h; first | (simp only [beq_self_eq_true, eq_self, decide_true, Bool.not_true, Bool.false_eq_true] at h; done) | (try rw [h])))))
  all_goals (conv => whnf)
  all_goals (refine ⟨congrArg (fun t => AV.d (D.s t)) ?_, rfl⟩)
  all_goals exact acc_all hacc h
structure ColFact (c : Col) : Prop where
  name : c.name.length ≤ 9223372036854775807
  lo : -9223372036854775808 ≤ c.kind
  hi : c.kind ≤ 9223372036854775807
  len : (colB c).length ≤ 50
  t : (putText c.name).length ≤ 30
  n : (putNum c.kind).length ≤ 10
  b : (bitB c.uniq).length ≤ 10
theorem col_fact {s : Schema} (h : schemaP s) {c : Col} (hc : c ∈ s.cols) : ColFact c := by
  obtain ⟨k, hk, e⟩ := List.mem_iff_getElem.1 hc
  obtain ⟨h1, h2, _⟩ := h.cols k c (by rw [List.getElem?_eq_getElem hk, e])
  have := name_len h1
  have t1 := text_len c.name; have t2 := putNum_len c.kind; have t3 := bitB_len c.uniq
  exact ⟨by omega, by omega, by omega, by simp only [colB, List.length_append]; omega, by omega, t2, t3⟩
structure IdxFact (i : Idx) : Prop where
  put : IntsPut i.cols
  len : (idxB i).length ≤ 120
  l : (listB i.cols).length ≤ 110
  b : (bitB i.uniq).length ≤ 10
theorem idx_fact {s : Schema} (h : schemaP s) {i : Idx} (hi : i ∈ s.idxs) : IdxFact i := by
  have hp := (sch_put h).idxs.2 i hi
  have := hp.1
  have t1 := listB_len i.cols; have t3 := bitB_len i.uniq
  exact ⟨hp, by simp only [idxB, List.length_append]; omega, by omega, t3⟩
theorem schH_len {s : Schema} (h : schemaP s) : (schH s).length ≤ 40 := by
  have := name_len h.name; have := text_len s.name; have := putNum_len (s.cols.length : Int)
  simp only [schH, List.length_append]; omega
theorem schM_len {s : Schema} (h : schemaP s) : (schM s).length ≤ 120 := by
  have := (sch_put h).keys.1; have := listB_len s.keys; have := putNum_len (s.idxs.length : Int)
  simp only [schM, List.length_append]; omega
theorem col_join {acc : List UInt8} {c : Col} : ((acc ++ putText c.name) ++ putNum c.kind) ++ bitB c.uniq = acc ++ colB c := by simp only [colB, List.append_assoc]
theorem idx_join {acc : List UInt8} {i : Idx} : (acc ++ listB i.cols) ++ bitB i.uniq = acc ++ idxB i := by simp only [idxB, List.append_assoc]
theorem mid_join {acc : List UInt8} {s : Schema} : (acc ++ listB s.keys) ++ putNum (s.idxs.length : Int) = acc ++ schM s := by simp only [schM, List.append_assoc]
theorem schB_fin {s : Schema} {a1 a2 : List UInt8} (h1 : a1 = schH s ++ s.cols.flatMap colB) (h2 : a2 = (a1 ++ schM s) ++ s.idxs.flatMap idxB) : a2 = schB s := by rw [h2, h1]; rfl
theorem sch_ne {s : Schema} {a : List UInt8} (h : a = schB s) : a ≠ [] := by rw [h]; exact schB_ne s
set_option maxHeartbeats 4000000 in
theorem specSchemaBytes (s : Schema) (hs : s.fits) : Ent Tryz.prog 62 [.d (schemaD s)] [] (.d (.s (schBytes s))) [] := by
  obtain ⟨o, ho⟩ : ∃ o, o = schBytes s := ⟨_, rfl⟩
  rw [← ho]
  have c1 := specSchemaRight s hs
  cases hok : dec (schemaP s) with
  | false =>
    rw [hok] at c1
    rw [schBytes_bad hok] at ho
    refine ent_of tok mixed (f := 62) Tryz.func62 (by kernel_rfl) (keep := false) ?_
    repeat' ((conv => whnf) <;> (first | ((with_reducible refine isCall ?_) <;> (first | (refine ⟨_, c1, ?_⟩; rintro _ _ ⟨rfl, rfl⟩) | fail)) | ((with_reducible refine isCut ?_) <;> (first | refine ⟨⟨none⟩, ?_⟩)) | ((first | with_reducible refine isEx ?_ | with_reducible refine isAnd ?_ | with_reducible refine isOr ?_) <;> (first | ((with_reducible refine isSmall ?_) <;> (refine ⟨?_, ?_⟩; kernel_rfl)) | refine ⟨rfl, ?_⟩ | refine ⟨Int.natCast_nonneg _, ?_⟩)) | with_reducible refine Both.mk ?_ ?_ | rintro _ rfl | exact rfl | (split <;> (rename_i h; first | (simp only [beq_self_eq_true, eq_self, decide_true, Bool.not_true, Bool.false_eq_true] at h; done) | (try rw [h])))))
    all_goals (conv => whnf)
    all_goals (rw [ho]; exact ⟨rfl, rfl⟩)
  | true =>
    rw [hok] at c1
    rw [schBytes_ok hok] at ho
    have hP := of_dec hok
    have hp := sch_put hP
    have hc0 := hp.cols.1
    have hi0 := hp.idxs.1
    have hcm : s.cols.length ≤ maxLen := hs.cols
    have him : s.idxs.length ≤ maxLen := hs.idxs
    have c2 := specPutText s.name hs.name
    have c3 : Ent Tryz.prog 101 [.d (.i .i64 ((s.cols.map colD).length : Int))] [] (.d (.s (putNum s.cols.length))) [] := by
      rw [List.length_map]; exact specPutNum (s.cols.length : Int) (by omega) (by omega)
    have c4 : Ent Tryz.prog 101 [.d (.i .i64 ((s.idxs.map idxD).length : Int))] [] (.d (.s (putNum s.idxs.length))) [] := by
      rw [List.length_map]; exact specPutNum (s.idxs.length : Int) (by omega) (by omega)
    have c5 := specNums s.keys hp.keys
    have h1 := putText_len s.name
    have h2 := putNum_len (s.cols.length : Int)
    have h3 := putNum_len (s.idxs.length : Int)
    have h4 := listB_len s.keys
    have h5 := hp.keys.1
    have h6 := schH_len hP
    have h7 := schM_len hP
    refine ent_of tok mixed (f := 62) Tryz.func62 (by kernel_rfl) (keep := false) ?_
    repeat' ((conv => whnf) <;> (first | ((with_reducible refine isCall ?_) <;> (first | (refine ⟨_, c1, ?_⟩; rintro _ _ ⟨rfl, rfl⟩) | (refine ⟨_, c2, ?_⟩; rintro _ _ ⟨rfl, rfl⟩) | (refine ⟨_, c3, ?_⟩; rintro _ _ ⟨rfl, rfl⟩) | (refine ⟨_, c4, ?_⟩; rintro _ _ ⟨rfl, rfl⟩) | (refine ⟨_, c5, ?_⟩; rintro _ _ ⟨rfl, rfl⟩) | (refine ⟨_, specPutText c.name hf.name, ?_⟩; rintro _ _ ⟨rfl, rfl⟩) | (refine ⟨_, specPutNum c.kind hf.lo hf.hi, ?_⟩; rintro _ _ ⟨rfl, rfl⟩) | (refine ⟨_, specBool c.uniq, ?_⟩; rintro _ _ ⟨rfl, rfl⟩) | (refine ⟨_, specNums i.cols hf2.put, ?_⟩; rintro _ _ ⟨rfl, rfl⟩) | (refine ⟨_, specBool i.uniq, ?_⟩; rintro _ _ ⟨rfl, rfl⟩) | (have e1 := acc_all hacc (by assumption); have q8 : (acc ++ schM s).length ≤ 1000 := (by rw [List.length_append]; omega); refine ⟨[1, 3, 5], [10001], fun st => ∃ (k : Nat) (n : Int) (a2 : List UInt8), n = k ∧ a2 = (acc ++ schM s) ++ (s.idxs.take k).flatMap idxB ∧ st = ⟨[(1, .ptr 10001 0), (3, .d (.s a2)), (5, .d (.i .i64 n))], [(10001, .var (schC s))]⟩, fun s' => match look 5 s'.env with | some (.d (.i _ n)) => s.idxs.length - n.toNat | _ => 0, rfl, ⟨0, _, _, rfl, mid_join.trans (acc_zero (acc ++ schM s) idxB s.idxs), rfl⟩, ?_⟩; rintro st ⟨k2, n2, a2, rfl, hacc2, rfl⟩; have q9 := acc_len hacc2 q8 fun i hi => (idx_fact hP hi).len) | refine ⟨_, get_map' hc, ?_⟩ | refine ⟨_, get_map' hi, ?_⟩ | (refine ⟨(by (try simp only [List.length_append]); omega), ?_⟩) | exact ⟨⟨k + 1, _, _, step_up (get_lt hc) hcm, col_join.trans (acc_next hacc hc), rfl⟩, mu_up (get_lt hc) hcm⟩ | exact ⟨⟨k2 + 1, _, _, step_up (get_lt hi) him, idx_join.trans (acc_next hacc2 hi), rfl⟩, mu_up (get_lt hi) him⟩ | fail)) | ((with_reducible refine isLoop ?_) <;> (first | (refine ⟨[1, 3, 4], [10001], fun st => ∃ (k : Nat) (n : Int) (acc : List UInt8), n = k ∧ acc = schH s ++ (s.cols.take k).flatMap colB ∧ st = ⟨[(1, .ptr 10001 0), (3, .d (.s acc)), (4, .d (.i .i64 n))], [(10001, .var (schC s))]⟩, fun s' => match look 4 s'.env with | some (.d (.i _ n)) => s.cols.length - n.toNat | _ => 0, rfl, ⟨0, _, _, rfl, acc_zero (schH s) colB s.cols, rfl⟩, ?_⟩; rintro st ⟨k, n, acc, rfl, hacc, rfl⟩; have q7 := acc_len hacc h6 fun c hc => (col_fact hP hc).len) | (have e1 := acc_all hacc (by assumption); have q8 : (acc ++ schM s).length ≤ 1000 := (by rw [List.length_append]; omega); refine ⟨[1, 3, 5], [10001], fun st => ∃ (k : Nat) (n : Int) (a2 : List UInt8), n = k ∧ a2 = (acc ++ schM s) ++ (s.idxs.take k).flatMap idxB ∧ st = ⟨[(1, .ptr 10001 0), (3, .d (.s a2)), (5, .d (.i .i64 n))], [(10001, .var (schC s))]⟩, fun s' => match look 5 s'.env with | some (.d (.i _ n)) => s.idxs.length - n.toNat | _ => 0, rfl, ⟨0, _, _, rfl, mid_join.trans (acc_zero (acc ++ schM s) idxB s.idxs), rfl⟩, ?_⟩; rintro st ⟨k2, n2, a2, rfl, hacc2, rfl⟩; have q9 := acc_len hacc2 q8 fun i hi => (idx_fact hP hi).len) | (have e1 := acc_all hacc (by assumption); have q8 : (acc ++ schM s).length ≤ 1000 := (by rw [List.length_append]; omega); refine ⟨[1, 3, 5], [10001], fun st => ∃ (k : Nat) (n : Int) (a2 : List UInt8), n = k ∧ a2 = (acc ++ schM s) ++ (s.idxs.take k).flatMap idxB ∧ st = ⟨[(1, .ptr 10001 0), (3, .d (.s a2)), (5, .d (.i .i64 n))], [(10001, .var (schC s))]⟩, fun s' => match look 5 s'.env with | some (.d (.i _ n)) => s.idxs.length - n.toNat | _ => 0, rfl, ⟨0, _, _, rfl, mid_join.trans (acc_zero (acc ++ schM s) idxB s.idxs), rfl⟩, ?_⟩; rintro st ⟨k2, n2, a2, rfl, hacc2, rfl⟩; have q9 := acc_len hacc2 q8 fun i hi => (idx_fact hP hi).len) | refine ⟨_, get_map' hc, ?_⟩ | refine ⟨_, get_map' hi, ?_⟩ | (refine ⟨(by (try simp only [List.length_append]); omega), ?_⟩) | exact ⟨⟨k + 1, _, _, step_up (get_lt hc) hcm, col_join.trans (acc_next hacc hc), rfl⟩, mu_up (get_lt hc) hcm⟩ | exact ⟨⟨k2 + 1, _, _, step_up (get_lt hi) him, idx_join.trans (acc_next hacc2 hi), rfl⟩, mu_up (get_lt hi) him⟩ | fail)) | ((with_reducible refine isCut ?_) <;> (first | refine ⟨⟨none⟩, ?_⟩)) | ((first | with_reducible refine isEx ?_ | with_reducible refine isAnd ?_ | with_reducible refine isOr ?_) <;> (first | (have e1 := acc_all hacc (by assumption); have q8 : (acc ++ schM s).length ≤ 1000 := (by rw [List.length_append]; omega); refine ⟨[1, 3, 5], [10001], fun st => ∃ (k : Nat) (n : Int) (a2 : List UInt8), n = k ∧ a2 = (acc ++ schM s) ++ (s.idxs.take k).flatMap idxB ∧ st = ⟨[(1, .ptr 10001 0), (3, .d (.s a2)), (5, .d (.i .i64 n))], [(10001, .var (schC s))]⟩, fun s' => match look 5 s'.env with | some (.d (.i _ n)) => s.idxs.length - n.toNat | _ => 0, rfl, ⟨0, _, _, rfl, mid_join.trans (acc_zero (acc ++ schM s) idxB s.idxs), rfl⟩, ?_⟩; rintro st ⟨k2, n2, a2, rfl, hacc2, rfl⟩; have q9 := acc_len hacc2 q8 fun i hi => (idx_fact hP hi).len) | refine ⟨_, get_map' hc, ?_⟩ | refine ⟨_, get_map' hi, ?_⟩ | ((with_reducible refine isGet (xs := s.idxs.map idxD) (i := ((k2 : Nat) : Int).toNat) ?_); obtain ⟨i, hi⟩ := get_ex (ss := s.idxs) (k := k2) (lt_of_dec (by assumption)); have hf2 := idx_fact hP (get_mem hi); have q1 := hf2.l; have q2 := hf2.b; refine ⟨_, get_map' hi, ?_⟩) | ((with_reducible refine isGet (xs := s.cols.map colD) (i := ((k : Nat) : Int).toNat) ?_); obtain ⟨c, hc⟩ := get_ex (ss := s.cols) (k := k) (lt_of_dec (by assumption)); have hf := col_fact hP (get_mem hc); have q1 := hf.t; have q2 := hf.n; have q3 := hf.b; refine ⟨_, get_map' hc, ?_⟩) | (refine ⟨(by (try simp only [List.length_append]); omega), ?_⟩) | exact ⟨⟨k + 1, _, _, step_up (get_lt hc) hcm, col_join.trans (acc_next hacc hc), rfl⟩, mu_up (get_lt hc) hcm⟩ | exact ⟨⟨k2 + 1, _, _, step_up (get_lt hi) him, idx_join.trans (acc_next hacc2 hi), rfl⟩, mu_up (get_lt hi) him⟩ | ((with_reducible refine isSmall ?_) <;> (refine ⟨?_, ?_⟩; kernel_rfl)) | refine ⟨rfl, ?_⟩ | refine ⟨Int.natCast_nonneg _, ?_⟩)) | with_reducible refine Both.mk ?_ ?_ | rintro _ rfl | exact rfl | (split <;> (rename_i h; first | (simp only [beq_self_eq_true, eq_self, decide_true, Bool.not_true, Bool.false_eq_true] at h; done) | (try rw [h])))))
    all_goals (conv => whnf)
    all_goals (refine ⟨congrArg (fun t => AV.d (D.s t)) ?_, rfl⟩)
    all_goals (rw [ho]; exact schB_fin e1 (acc_all hacc2 h))
set_option maxHeartbeats 4000000 in
theorem implSchemaBytes (s : Schema) (hs : s.fits) : Ent Tryz.prog 74 [.d (schemaD s)] [] (.d (.s (schBytes s))) [] := by
  obtain ⟨o, ho⟩ : ∃ o, o = schBytes s := ⟨_, rfl⟩
  rw [← ho]
  have c1 := implSchemaRight s hs
  cases hok : dec (schemaP s) with
  | false =>
    rw [hok] at c1
    rw [schBytes_bad hok] at ho
    refine ent_of tok mixed (f := 74) Tryz.func74 (by kernel_rfl) (keep := false) ?_
    repeat' ((conv => whnf) <;> (first | ((with_reducible refine isCall ?_) <;> (first | (refine ⟨_, c1, ?_⟩; rintro _ _ ⟨rfl, rfl⟩) | fail)) | ((with_reducible refine isCut ?_) <;> (first | refine ⟨⟨none⟩, ?_⟩)) | ((first | with_reducible refine isEx ?_ | with_reducible refine isAnd ?_ | with_reducible refine isOr ?_) <;> (first | ((with_reducible refine isSmall ?_) <;> (refine ⟨?_, ?_⟩; kernel_rfl)) | refine ⟨rfl, ?_⟩ | refine ⟨Int.natCast_nonneg _, ?_⟩)) | with_reducible refine Both.mk ?_ ?_ | rintro _ rfl | exact rfl | (split <;> (rename_i h; first | (simp only [beq_self_eq_true, eq_self, decide_true, Bool.not_true, Bool.false_eq_true] at h; done) | (try rw [h])))))
    all_goals (conv => whnf)
    all_goals (rw [ho]; exact ⟨rfl, rfl⟩)
  | true =>
    rw [hok] at c1
    rw [schBytes_ok hok] at ho
    have hP := of_dec hok
    have hp := sch_put hP
    have hc0 := hp.cols.1
    have hi0 := hp.idxs.1
    have hcm : s.cols.length ≤ maxLen := hs.cols
    have him : s.idxs.length ≤ maxLen := hs.idxs
    have c2 := implPutText s.name hs.name
    have c3 : Ent Tryz.prog 121 [.d (.i .i64 ((s.cols.map colD).length : Int))] [] (.d (.s (putNum s.cols.length))) [] := by
      rw [List.length_map]; exact implPutNum (s.cols.length : Int) (by omega) (by omega)
    have c4 : Ent Tryz.prog 121 [.d (.i .i64 ((s.idxs.map idxD).length : Int))] [] (.d (.s (putNum s.idxs.length))) [] := by
      rw [List.length_map]; exact implPutNum (s.idxs.length : Int) (by omega) (by omega)
    have c5 := implPutList s.keys hp.keys
    have h1 := putText_len s.name
    have h2 := putNum_len (s.cols.length : Int)
    have h3 := putNum_len (s.idxs.length : Int)
    have h4 := listB_len s.keys
    have h5 := hp.keys.1
    have h6 := schH_len hP
    have h7 := schM_len hP
    refine ent_of tok mixed (f := 74) Tryz.func74 (by kernel_rfl) (keep := false) ?_
    repeat' ((conv => whnf) <;> (first | ((with_reducible refine isCall ?_) <;> (first | (refine ⟨_, c1, ?_⟩; rintro _ _ ⟨rfl, rfl⟩) | (refine ⟨_, c2, ?_⟩; rintro _ _ ⟨rfl, rfl⟩) | (refine ⟨_, c3, ?_⟩; rintro _ _ ⟨rfl, rfl⟩) | (refine ⟨_, c4, ?_⟩; rintro _ _ ⟨rfl, rfl⟩) | (refine ⟨_, c5, ?_⟩; rintro _ _ ⟨rfl, rfl⟩) | (refine ⟨_, implPutText c.name hf.name, ?_⟩; rintro _ _ ⟨rfl, rfl⟩) | (refine ⟨_, implPutNum c.kind hf.lo hf.hi, ?_⟩; rintro _ _ ⟨rfl, rfl⟩) | (refine ⟨_, implBit c.uniq, ?_⟩; rintro _ _ ⟨rfl, rfl⟩) | (refine ⟨_, implPutList i.cols hf2.put, ?_⟩; rintro _ _ ⟨rfl, rfl⟩) | (refine ⟨_, implBit i.uniq, ?_⟩; rintro _ _ ⟨rfl, rfl⟩) | (refine ⟨_, writeString [] _ (by (try simp only [List.length_append, List.length_nil]); omega), ?_⟩; rintro _ _ ⟨rfl, rfl⟩) | (refine ⟨_, writeString a2 _ (by (try simp only [List.length_append]); omega), ?_⟩; rintro _ _ ⟨rfl, rfl⟩) | (refine ⟨_, writeString acc _ (by (try simp only [List.length_append]); omega), ?_⟩; rintro _ _ ⟨rfl, rfl⟩) | (refine ⟨_, builderString a2 (sch_ne (schB_fin e1 (acc_all hacc2 (by assumption)))), ?_⟩; rintro _ _ ⟨rfl, rfl⟩) | (have e1 := acc_all hacc (by assumption); have q8 : (acc ++ schM s).length ≤ 1000 := (by rw [List.length_append]; omega); refine ⟨[3, 50, 51, 52], [10003], fun st => ∃ (k : Nat) (n : Int) (a2 : List UInt8), n = k ∧ a2 = (acc ++ schM s) ++ (s.idxs.take k).flatMap idxB ∧ st = ⟨[(3, .ptr 10003 0), (50, .d (.sl false (s.idxs.map idxD))), (51, .d (.i .i64 ((s.idxs.map idxD).length : Int))), (52, .d (.i .i64 n))], [(10003, .bld 185 5 a2)]⟩, fun s' => match look 52 s'.env with | some (.d (.i _ n)) => s.idxs.length - n.toNat | _ => 0, rfl, ⟨0, _, _, rfl, acc_zero (acc ++ schM s) idxB s.idxs, rfl⟩, ?_⟩; rintro st ⟨k2, n2, a2, rfl, hacc2, rfl⟩; have q9 := acc_len hacc2 q8 fun i hi => (idx_fact hP hi).len) | refine ⟨_, get_map' hc, ?_⟩ | refine ⟨_, get_map' hi, ?_⟩ | (refine ⟨(by (try simp only [List.length_append]); omega), ?_⟩) | exact ⟨⟨k + 1, _, _, step_up (get_lt hc) hcm, acc_next hacc hc, rfl⟩, mu_up (get_lt hc) hcm⟩ | exact ⟨⟨k2 + 1, _, _, step_up (get_lt hi) him, acc_next hacc2 hi, rfl⟩, mu_up (get_lt hi) him⟩ | fail)) | ((with_reducible refine isLoop ?_) <;> (first | (refine ⟨[1, 3, 21, 22, 23], [10001, 10003], fun st => ∃ (k : Nat) (n : Int) (acc : List UInt8), n = k ∧ acc = schH s ++ (s.cols.take k).flatMap colB ∧ st = ⟨[(1, .ptr 10001 0), (3, .ptr 10003 0), (21, .d (.sl false (s.cols.map colD))), (22, .d (.i .i64 ((s.cols.map colD).length : Int))), (23, .d (.i .i64 n))], [(10001, .var (schC s)), (10003, .bld 185 5 acc)]⟩, fun s' => match look 23 s'.env with | some (.d (.i _ n)) => s.cols.length - n.toNat | _ => 0, rfl, ⟨0, _, _, rfl, acc_zero (schH s) colB s.cols, rfl⟩, ?_⟩; rintro st ⟨k, n, acc, rfl, hacc, rfl⟩; have q7 := acc_len hacc h6 fun c hc => (col_fact hP hc).len) | (have e1 := acc_all hacc (by assumption); have q8 : (acc ++ schM s).length ≤ 1000 := (by rw [List.length_append]; omega); refine ⟨[3, 50, 51, 52], [10003], fun st => ∃ (k : Nat) (n : Int) (a2 : List UInt8), n = k ∧ a2 = (acc ++ schM s) ++ (s.idxs.take k).flatMap idxB ∧ st = ⟨[(3, .ptr 10003 0), (50, .d (.sl false (s.idxs.map idxD))), (51, .d (.i .i64 ((s.idxs.map idxD).length : Int))), (52, .d (.i .i64 n))], [(10003, .bld 185 5 a2)]⟩, fun s' => match look 52 s'.env with | some (.d (.i _ n)) => s.idxs.length - n.toNat | _ => 0, rfl, ⟨0, _, _, rfl, acc_zero (acc ++ schM s) idxB s.idxs, rfl⟩, ?_⟩; rintro st ⟨k2, n2, a2, rfl, hacc2, rfl⟩; have q9 := acc_len hacc2 q8 fun i hi => (idx_fact hP hi).len) | (have e1 := acc_all hacc (by assumption); have q8 : (acc ++ schM s).length ≤ 1000 := (by rw [List.length_append]; omega); refine ⟨[3, 50, 51, 52], [10003], fun st => ∃ (k : Nat) (n : Int) (a2 : List UInt8), n = k ∧ a2 = (acc ++ schM s) ++ (s.idxs.take k).flatMap idxB ∧ st = ⟨[(3, .ptr 10003 0), (50, .d (.sl false (s.idxs.map idxD))), (51, .d (.i .i64 ((s.idxs.map idxD).length : Int))), (52, .d (.i .i64 n))], [(10003, .bld 185 5 a2)]⟩, fun s' => match look 52 s'.env with | some (.d (.i _ n)) => s.idxs.length - n.toNat | _ => 0, rfl, ⟨0, _, _, rfl, acc_zero (acc ++ schM s) idxB s.idxs, rfl⟩, ?_⟩; rintro st ⟨k2, n2, a2, rfl, hacc2, rfl⟩; have q9 := acc_len hacc2 q8 fun i hi => (idx_fact hP hi).len) | refine ⟨_, get_map' hc, ?_⟩ | refine ⟨_, get_map' hi, ?_⟩ | (refine ⟨(by (try simp only [List.length_append]); omega), ?_⟩) | exact ⟨⟨k + 1, _, _, step_up (get_lt hc) hcm, acc_next hacc hc, rfl⟩, mu_up (get_lt hc) hcm⟩ | exact ⟨⟨k2 + 1, _, _, step_up (get_lt hi) him, acc_next hacc2 hi, rfl⟩, mu_up (get_lt hi) him⟩ | fail)) | ((with_reducible refine isCut ?_) <;> (first | refine ⟨⟨none⟩, ?_⟩)) | ((first | with_reducible refine isEx ?_ | with_reducible refine isAnd ?_ | with_reducible refine isOr ?_) <;> (first | (have e1 := acc_all hacc (by assumption); have q8 : (acc ++ schM s).length ≤ 1000 := (by rw [List.length_append]; omega); refine ⟨[3, 50, 51, 52], [10003], fun st => ∃ (k : Nat) (n : Int) (a2 : List UInt8), n = k ∧ a2 = (acc ++ schM s) ++ (s.idxs.take k).flatMap idxB ∧ st = ⟨[(3, .ptr 10003 0), (50, .d (.sl false (s.idxs.map idxD))), (51, .d (.i .i64 ((s.idxs.map idxD).length : Int))), (52, .d (.i .i64 n))], [(10003, .bld 185 5 a2)]⟩, fun s' => match look 52 s'.env with | some (.d (.i _ n)) => s.idxs.length - n.toNat | _ => 0, rfl, ⟨0, _, _, rfl, acc_zero (acc ++ schM s) idxB s.idxs, rfl⟩, ?_⟩; rintro st ⟨k2, n2, a2, rfl, hacc2, rfl⟩; have q9 := acc_len hacc2 q8 fun i hi => (idx_fact hP hi).len) | refine ⟨_, get_map' hc, ?_⟩ | refine ⟨_, get_map' hi, ?_⟩ | ((with_reducible refine isGet (xs := s.idxs.map idxD) (i := ((k2 : Nat) : Int).toNat) ?_); obtain ⟨i, hi⟩ := get_ex (ss := s.idxs) (k := k2) (lt_of_dec (by assumption)); have hf2 := idx_fact hP (get_mem hi); have q1 := hf2.l; have q2 := hf2.b; refine ⟨_, get_map' hi, ?_⟩) | ((with_reducible refine isGet (xs := s.cols.map colD) (i := ((k : Nat) : Int).toNat) ?_); obtain ⟨c, hc⟩ := get_ex (ss := s.cols) (k := k) (lt_of_dec (by assumption)); have hf := col_fact hP (get_mem hc); have q1 := hf.t; have q2 := hf.n; have q3 := hf.b; refine ⟨_, get_map' hc, ?_⟩) | (refine ⟨(by (try simp only [List.length_append]); omega), ?_⟩) | exact ⟨⟨k + 1, _, _, step_up (get_lt hc) hcm, acc_next hacc hc, rfl⟩, mu_up (get_lt hc) hcm⟩ | exact ⟨⟨k2 + 1, _, _, step_up (get_lt hi) him, acc_next hacc2 hi, rfl⟩, mu_up (get_lt hi) him⟩ | ((with_reducible refine isSmall ?_) <;> (refine ⟨?_, ?_⟩; kernel_rfl)) | refine ⟨rfl, ?_⟩ | refine ⟨Int.natCast_nonneg _, ?_⟩)) | with_reducible refine Both.mk ?_ ?_ | rintro _ rfl | exact rfl | (split <;> (rename_i h; first | (simp only [beq_self_eq_true, eq_self, decide_true, Bool.not_true, Bool.false_eq_true] at h; done) | (try rw [h])))))
    all_goals (conv => whnf)
    all_goals (refine ⟨congrArg (fun t => AV.d (D.s t)) ?_, rfl⟩)
    all_goals (rw [ho]; exact schB_fin e1 (acc_all hacc2 h))
end Go.Pm.Tryz
namespace Go.Pm.Tryz
open Go Go.Proofs
set_option linter.unusedVariables false
set_option linter.unusedSimpArgs false
set_option maxRecDepth 100000
def defsL : List (UInt8 × List UInt8) := [(116, [110, 97, 109, 101]), (105, [112, 105, 118, 111, 116])]
def defsS : Schema := ⟨[100, 101, 102, 115], [⟨[110, 97, 109, 101], 3, false⟩, ⟨[112, 105, 118, 111, 116], 2, false⟩], [0], []⟩
def stepsL : List (UInt8 × List UInt8) := [(116, [100, 101, 102]), (105, [110, 117, 109]), (116, [110, 97, 109, 101]), (116, [99, 97, 108, 108]), (116, [117, 110, 100, 111]), (105, [116, 114, 105, 101, 115]), (105, [98, 97, 99, 107, 111, 102, 102]), (105, [116, 105, 109, 101, 111, 117, 116])]
def stepsS : Schema := ⟨[115, 116, 101, 112, 115], [⟨[100, 101, 102], 3, false⟩, ⟨[110, 117, 109], 2, false⟩, ⟨[110, 97, 109, 101], 3, false⟩, ⟨[99, 97, 108, 108], 3, false⟩, ⟨[117, 110, 100, 111], 3, false⟩, ⟨[116, 114, 105, 101, 115], 2, false⟩, ⟨[98, 97, 99, 107, 111, 102, 102], 2, false⟩, ⟨[116, 105, 109, 101, 111, 117, 116], 2, false⟩], [0, 1], []⟩
def sagasL : List (UInt8 × List UInt8) := [(105, [105, 100]), (116, [100, 101, 102]), (105, [112, 104, 97, 115, 101]), (105, [100, 111, 110, 101]), (105, [97, 116]), (105, [116, 114, 105, 101, 115]), (98, [115, 101, 110, 116]), (105, [100, 117, 101]), (105, [110, 101, 120, 116])]
def sagasS : Schema := ⟨[115, 97, 103, 97, 115], [⟨[105, 100], 2, false⟩, ⟨[100, 101, 102], 3, false⟩, ⟨[112, 104, 97, 115, 101], 2, false⟩, ⟨[100, 111, 110, 101], 2, false⟩, ⟨[97, 116], 2, false⟩, ⟨[116, 114, 105, 101, 115], 2, false⟩, ⟨[115, 101, 110, 116], 1, false⟩, ⟨[100, 117, 101], 2, false⟩, ⟨[110, 101, 120, 116], 2, false⟩], [0], []⟩
def outboxL : List (UInt8 × List UInt8) := [(105, [105, 100]), (105, [115, 97, 103, 97]), (105, [115, 116, 101, 112]), (98, [117, 110, 100, 111]), (105, [116, 114, 121]), (98, [115, 101, 110, 116]), (105, [111, 119, 110, 101, 114]), (105, [117, 110, 116, 105, 108])]
def outboxS : Schema := ⟨[111, 117, 116, 98, 111, 120], [⟨[105, 100], 2, false⟩, ⟨[115, 97, 103, 97], 2, false⟩, ⟨[115, 116, 101, 112], 2, false⟩, ⟨[117, 110, 100, 111], 1, false⟩, ⟨[116, 114, 121], 2, false⟩, ⟨[115, 101, 110, 116], 1, false⟩, ⟨[111, 119, 110, 101, 114], 2, false⟩, ⟨[117, 110, 116, 105, 108], 2, false⟩], [0], [⟨[1], true⟩]⟩
def engS : List Schema := [defsS, stepsS, sagasS, outboxS]
def letK (c : UInt8) : Int := match decide (c = 116) with | true => 3 | false => match decide (c = 98) with | true => 1 | false => 2
def letC (p : UInt8 × List UInt8) : Col := ⟨p.2, letK p.1, false⟩
def letT (p : UInt8 × List UInt8) : List UInt8 := p.1 :: p.2
theorem let_1 {c : UInt8} (h : decide ((c.toNat : Int) = 116) = true) : letK c = 3 := by
  have := of_decide_eq_true h
  have : c = 116 := UInt8.toNat_inj.1 (by show c.toNat = 116; omega)
  subst this; rfl
theorem let_2 {c : UInt8} (h : decide ((c.toNat : Int) = 98) = true) : letK c = 1 := by
  have := of_decide_eq_true h
  have : c = 98 := UInt8.toNat_inj.1 (by show c.toNat = 98; omega)
  subst this; rfl
theorem let_3 {c : UInt8} (h : decide ((c.toNat : Int) = 116) = false) (h2 : decide ((c.toNat : Int) = 98) = false) : letK c = 2 := by
  have h1 := of_decide_eq_false h
  have h2 := of_decide_eq_false h2
  unfold letK
  rw [decide_eq_false (fun e => h1 (by rw [e]; rfl)), decide_eq_false (fun e => h2 (by rw [e]; rfl))]
theorem take_letC {cs : List (UInt8 × List UInt8)} {k : Nat} {x : UInt8 × List UInt8} {n : List UInt8} {y : Int} (hx : cs[k]? = some x) (hn : n = x.2) (hy : y = letK x.1) : ((cs.take k).map letC).map colD ++ [D.agg [.s n, .i .i64 y, .b false]] = ((cs.take (k + 1)).map letC).map colD := by
  subst hn hy
  rw [take_up hx, List.map_append, List.map_append]; rfl
theorem sp_all {α : Type} {l : List α} {x : α} : ((x :: l).take (x :: l).length).drop 1 = l := by rw [List.take_length]; rfl
set_option maxHeartbeats 4000000 in
theorem specSchemaOf (nm : List UInt8) (cs : List (UInt8 × List UInt8)) (ks : List Int) (hl : cs.length ≤ 20) : Ent Tryz.prog 98 [.d (.s nm), .d (.sl false ((cs.map letT).map strD)), .d (.sl false (ks.map i64D))] [] (.d (schemaD ⟨nm, cs.map letC, ks, []⟩)) [] := by
  have hm : cs.length ≤ maxLen := Nat.le_trans hl (by decide)
  have hln : ((cs.map letT).map strD).length = cs.length := by rw [List.length_map, List.length_map]
  refine ent_of tok mixed (f := 98) Tryz.func98 (by kernel_rfl) (keep := false) ?_
  repeat' ((conv => whnf) <;> (first | ((with_reducible refine isCall ?_) <;> (first | (refine ⟨_, get_map' hx2, ?_⟩) | (refine ⟨Int.natCast_nonneg _, ?_⟩) | (refine ⟨⟨by decide, (by show (0 : Int) < ((x.2.length + 1 : Nat) : Int); omega)⟩, ?_⟩) | (refine ⟨⟨by decide, (by show (1 : Int) ≤ ((x.2.length + 1 : Nat) : Int); omega)⟩, ?_⟩) | (refine ⟨⟨by decide, rfl, rfl, room_add (by rw [hxs]; simp only [List.length_map, List.length_take]; omega) (by decide)⟩, ?_⟩) | fail)) | ((with_reducible refine isLoop ?_) <;> (first | (refine ⟨[1, 6, 7, 8], [10006, 10007, .cell 10038 3 false 10007 1], fun st => ∃ (k : Nat) (i : Int) (xs : List D), i = k ∧ xs = ((cs.take k).map letC).map colD ∧ st = ⟨[(1, .d (.sl false ((cs.map letT).map strD))), (6, .ptr 10006 0), (7, .ptr 10007 0), (8, .d (.i .i64 i))], [(10006, .var [.d (.s []), .snil, .snil, .snil]), (10007, .var [.d (.s nm), .own 10038, .d (.sl false (ks.map i64D)), .snil]), (10038, .arr 3 false xs)]⟩, fun s' => match look 8 s'.env with | some (.d (.i _ n)) => cs.length - n.toNat | _ => 0, ?_, ⟨0, _, _, rfl, rfl, ?_⟩, ?_⟩; kernel_rfl; kernel_rfl; rintro st ⟨k, i, xs, rfl, hxs, rfl⟩) | (refine ⟨_, get_map' hx2, ?_⟩) | (refine ⟨Int.natCast_nonneg _, ?_⟩) | (refine ⟨⟨by decide, (by show (0 : Int) < ((x.2.length + 1 : Nat) : Int); omega)⟩, ?_⟩) | (refine ⟨⟨by decide, (by show (1 : Int) ≤ ((x.2.length + 1 : Nat) : Int); omega)⟩, ?_⟩) | (refine ⟨⟨by decide, rfl, rfl, room_add (by rw [hxs]; simp only [List.length_map, List.length_take]; omega) (by decide)⟩, ?_⟩) | fail)) | ((with_reducible refine isCut ?_) <;> (first | refine ⟨⟨none⟩, ?_⟩)) | ((first | with_reducible refine isEx ?_ | with_reducible refine isAnd ?_ | with_reducible refine isOr ?_) <;> (first | (refine ⟨_, get_map' hx2, ?_⟩) | ((with_reducible refine isGet (xs := (cs.map letT).map strD) (i := ((k : Nat) : Int).toNat) ?_); obtain ⟨x, hx⟩ := get_ex (ss := cs) (k := k) (by have := of_decide_eq_true (by assumption : decide ((k : Int) < (((cs.map letT).map strD).length : Int)) = true); omega); have hx2 : (cs.map letT)[k]? = some (letT x) := (by rw [List.getElem?_map, hx]; rfl); refine ⟨_, get_map' hx2, ?_⟩) | (refine ⟨Int.natCast_nonneg _, ?_⟩) | (refine ⟨⟨by decide, (by show (0 : Int) < ((x.2.length + 1 : Nat) : Int); omega)⟩, ?_⟩) | (refine ⟨⟨by decide, (by show (1 : Int) ≤ ((x.2.length + 1 : Nat) : Int); omega)⟩, ?_⟩) | (refine ⟨⟨by decide, rfl, rfl, room_add (by rw [hxs]; simp only [List.length_map, List.length_take]; omega) (by decide)⟩, ?_⟩) | ((with_reducible refine isSmall ?_) <;> (refine ⟨?_, ?_⟩; kernel_rfl)) | refine ⟨rfl, ?_⟩ | refine ⟨Int.natCast_nonneg _, ?_⟩)) | with_reducible refine Both.mk ?_ ?_ | rintro _ rfl | exact rfl | (split <;> (rename_i h; first | (simp only [beq_self_eq_true, eq_self, decide_true, Bool.not_true, Bool.false_eq_true] at h; done) | (try rw [h])))))
  all_goals try (conv => whnf)
  all_goals first
    | exact ⟨⟨k + 1, _, _, step_up (get_lt hx) hm, (by rw [hxs]; exact take_letC hx sp_all (let_1 (by assumption)).symm), rfl⟩, mu_up (get_lt hx) hm⟩
    | exact ⟨⟨k + 1, _, _, step_up (get_lt hx) hm, (by rw [hxs]; exact take_letC hx sp_all (let_2 (by assumption)).symm), rfl⟩, mu_up (get_lt hx) hm⟩
    | exact ⟨⟨k + 1, _, _, step_up (get_lt hx) hm, (by rw [hxs]; exact take_letC hx sp_all (let_3 (by assumption) (by assumption)).symm), rfl⟩, mu_up (get_lt hx) hm⟩
    | (have hh := of_decide_eq_false h
       rw [hln] at hh
       rw [hxs, List.take_of_length_le (by omega)]; exact ⟨rfl, rfl⟩)
    | trace_state
set_option maxHeartbeats 4000000 in
theorem specSchemas : Ent Tryz.prog 61 [] [] (.d (.sl false (engS.map schemaD))) [] := by
  have c1 := specSchemaOf [111, 117, 116, 98, 111, 120] outboxL [0] (by decide)
  have c2 := specSchemaOf [100, 101, 102, 115] defsL [0] (by decide)
  have c3 := specSchemaOf [115, 116, 101, 112, 115] stepsL [0, 1] (by decide)
  have c4 := specSchemaOf [115, 97, 103, 97, 115] sagasL [0] (by decide)
  refine ent_of (cx := ⟨tab, [2000002, 2000003, 2000009, 2000010, 2000012, 2000013, 2000015, 2000016], []⟩) tok mixed (f := 61) Tryz.func61 (by kernel_rfl) (keep := false) ?_
  repeat' ((conv => whnf) <;> (first | ((with_reducible refine isCall ?_) <;> (first | (refine ⟨_, c1, ?_⟩; rintro _ _ ⟨rfl, rfl⟩) | (refine ⟨_, c2, ?_⟩; rintro _ _ ⟨rfl, rfl⟩) | (refine ⟨_, c3, ?_⟩; rintro _ _ ⟨rfl, rfl⟩) | (refine ⟨_, c4, ?_⟩; rintro _ _ ⟨rfl, rfl⟩) | fail)) | ((with_reducible refine isCut ?_) <;> (first | refine ⟨⟨none⟩, ?_⟩)) | ((first | with_reducible refine isEx ?_ | with_reducible refine isAnd ?_ | with_reducible refine isOr ?_) <;> (first | ((with_reducible refine isSmall ?_) <;> (refine ⟨?_, ?_⟩; kernel_rfl)) | refine ⟨rfl, ?_⟩ | refine ⟨Int.natCast_nonneg _, ?_⟩)) | with_reducible refine Both.mk ?_ ?_ | rintro _ rfl | exact rfl | (split <;> (rename_i h; first | (simp only [beq_self_eq_true, eq_self, decide_true, Bool.not_true, Bool.false_eq_true] at h; done) | (try rw [h])))))
  all_goals try (conv => whnf)
  all_goals trace_state
end Go.Pm.Tryz
namespace Go.Pm.Tryz
open Go Go.Proofs
set_option linter.unusedVariables false
set_option linter.unusedSimpArgs false
def Pre {α : Type} (g : α → List UInt8) (P : α → Prop) : Prop := ∀ x y q r, P x → P y → g x ++ q = g y ++ r → x = y ∧ q = r
theorem putU_pre : ∀ (f u v : Nat) (q r : List UInt8), u < 2 ^ (7 * f + 1) → v < 2 ^ (7 * f + 1) → putU f u ++ q = putU f v ++ r → u = v ∧ q = r
  | 0, u, v, q, r, hu, hv, h => by
    simp only [putU, List.cons_append, List.nil_append, List.cons.injEq] at h
    refine ⟨?_, h.2⟩
    have := congrArg UInt8.toNat h.1
    simp only [UInt8.toNat_ofNat'] at this
    omega
  | f + 1, u, v, q, r, hu, hv, h => by
    have e : ∀ w : Nat, w < 2 ^ (7 * (f + 1) + 1) → w / 128 < 2 ^ (7 * f + 1) := fun w hw => by
      have : 2 ^ (7 * (f + 1) + 1) = 128 * 2 ^ (7 * f + 1) := by rw [show 7 * (f + 1) + 1 = 7 + (7 * f + 1) by omega, Nat.pow_add]
      omega
    by_cases h1 : u < 128
    · by_cases h2 : v < 128
      · rw [putU_last h1, putU_last h2, List.cons_append, List.cons_append, List.cons.injEq] at h
        have := congrArg UInt8.toNat h.1
        simp only [UInt8.toNat_ofNat'] at this
        exact ⟨by omega, by simpa using h.2⟩
      · rw [putU_last h1, putU_more (Nat.succ_pos f) h2, List.cons_append, List.cons_append, List.cons.injEq] at h
        have := congrArg UInt8.toNat h.1
        simp only [UInt8.toNat_ofNat'] at this
        omega
    · by_cases h2 : v < 128
      · rw [putU_last h2, putU_more (Nat.succ_pos f) h1, List.cons_append, List.cons_append, List.cons.injEq] at h
        have := congrArg UInt8.toNat h.1
        simp only [UInt8.toNat_ofNat'] at this
        omega
      · rw [putU_more (Nat.succ_pos f) h1, putU_more (Nat.succ_pos f) h2, List.cons_append, List.cons_append, List.cons.injEq] at h
        have h3 := congrArg UInt8.toNat h.1
        simp only [UInt8.toNat_ofNat'] at h3
        obtain ⟨h4, h5⟩ := putU_pre f (u / 128) (v / 128) q r (e u hu) (e v hv) h.2
        exact ⟨by omega, h5⟩
theorem fold_inj {n m : Int} (h : foldU n = foldU m) : n = m := by
  unfold foldU at h
  split at h <;> split at h <;> omega
theorem pre_num : Pre putNum I64 := fun x y q r hx hy h => by
  have h1 := fold_small hx.lo hx.hi
  have h2 := fold_small hy.lo hy.hi
  obtain ⟨h3, h4⟩ := putU_pre 9 _ _ q r (by omega) (by omega) h
  exact ⟨fold_inj h3, h4⟩
theorem pre_text : Pre putText (fun t => t.length ≤ 20000) := fun x y q r hx hy h => by
  rw [putText_short (decide_eq_false (by omega)), putText_short (decide_eq_false (by omega)), List.append_assoc, List.append_assoc] at h
  obtain ⟨h1, h2⟩ := pre_num _ _ _ _ ⟨by omega, by omega⟩ ⟨by omega, by omega⟩ h
  exact List.append_inj h2 (by omega)
theorem pre_bit : Pre bitB (fun _ => True) := fun x y q r _ _ h => by
  cases x <;> cases y <;> simp only [bitB] at h
  · exact ⟨rfl, (pre_num _ _ _ _ ⟨by decide, by decide⟩ ⟨by decide, by decide⟩ h).2⟩
  · exact absurd (pre_num _ _ _ _ ⟨by decide, by decide⟩ ⟨by decide, by decide⟩ h).1 (by decide)
  · exact absurd (pre_num _ _ _ _ ⟨by decide, by decide⟩ ⟨by decide, by decide⟩ h).1 (by decide)
  · exact ⟨rfl, (pre_num _ _ _ _ ⟨by decide, by decide⟩ ⟨by decide, by decide⟩ h).2⟩
theorem pre_all {α : Type} {g : α → List UInt8} {P : α → Prop} (hg : Pre g P) : ∀ (xs ys : List α) (q r : List UInt8), xs.length = ys.length → (∀ x, x ∈ xs → P x) → (∀ y, y ∈ ys → P y) → xs.flatMap g ++ q = ys.flatMap g ++ r → xs = ys ∧ q = r
  | [], [], q, r, _, _, _, h => ⟨rfl, by simpa using h⟩
  | [], y :: ys, q, r, hl, _, _, h => by cases hl
  | x :: xs, [], q, r, hl, _, _, h => by cases hl
  | x :: xs, y :: ys, q, r, hl, h1, h2, h => by
    rw [List.flatMap_cons, List.flatMap_cons, List.append_assoc, List.append_assoc] at h
    obtain ⟨rfl, h3⟩ := hg x y _ _ (h1 x (List.mem_cons_self ..)) (h2 y (List.mem_cons_self ..)) h
    obtain ⟨rfl, h4⟩ := pre_all hg xs ys q r (by simpa using hl) (fun z hz => h1 z (List.mem_cons_of_mem _ hz)) (fun z hz => h2 z (List.mem_cons_of_mem _ hz)) h3
    exact ⟨rfl, h4⟩
theorem len_i64 {n : Nat} (h : n ≤ 1000000) : I64 (n : Int) := ⟨by omega, by omega⟩
theorem pre_list : Pre listB IntsPut := fun x y q r hx hy h => by
  unfold listB at h
  rw [List.append_assoc, List.append_assoc] at h
  obtain ⟨h1, h2⟩ := pre_num _ _ _ _ (len_i64 (by have := hx.1; omega)) (len_i64 (by have := hy.1; omega)) h
  exact pre_all pre_num x y q r (by omega) hx.2 hy.2 h2
theorem pre_col : Pre colB ColPut := fun x y q r hx hy h => by
  unfold colB at h
  simp only [List.append_assoc] at h
  obtain ⟨h1, h⟩ := pre_text _ _ _ _ hx.l hy.l h
  obtain ⟨h2, h⟩ := pre_num _ _ _ _ hx.k hy.k h
  obtain ⟨h3, hq⟩ := pre_bit _ _ _ _ trivial trivial h
  obtain ⟨a, b, c⟩ := x
  obtain ⟨a', b', c'⟩ := y
  simp only at h1 h2 h3
  subst h1 h2 h3
  exact ⟨rfl, hq⟩
theorem pre_idx : Pre idxB (fun i => IntsPut i.cols) := fun x y q r hx hy h => by
  unfold idxB at h
  simp only [List.append_assoc] at h
  obtain ⟨h1, h⟩ := pre_list _ _ _ _ hx hy h
  obtain ⟨h3, hq⟩ := pre_bit _ _ _ _ trivial trivial h
  obtain ⟨a, c⟩ := x
  obtain ⟨a', c'⟩ := y
  simp only at h1 h3
  subst h1 h3
  exact ⟨rfl, hq⟩
theorem schB_inj {x y : Schema} (hx : SchPut x) (hy : SchPut y) (h : schB x = schB y) : x = y := by
  have h : schB x ++ [] = schB y ++ [] := by rw [h]
  unfold schB schH schM at h
  simp only [List.append_assoc] at h
  obtain ⟨h1, h⟩ := pre_text _ _ _ _ hx.l hy.l h
  obtain ⟨h2, h⟩ := pre_num _ _ _ _ (len_i64 (by have := hx.cols.1; omega)) (len_i64 (by have := hy.cols.1; omega)) h
  obtain ⟨h3, h⟩ := pre_all pre_col _ _ _ _ (by omega) hx.cols.2 hy.cols.2 h
  obtain ⟨h4, h⟩ := pre_list _ _ _ _ hx.keys hy.keys h
  obtain ⟨h5, h⟩ := pre_num _ _ _ _ (len_i64 (by have := hx.idxs.1; omega)) (len_i64 (by have := hy.idxs.1; omega)) h
  obtain ⟨h6, h⟩ := pre_all pre_idx _ _ _ _ (by omega) hx.idxs.2 hy.idxs.2 h
  obtain ⟨a, b, c, d⟩ := x
  obtain ⟨a', b', c', d'⟩ := y
  simp only at h1 h3 h4 h6
  subst h1 h3 h4 h6
  rfl
theorem schBytes_inj {x y : Schema} (hx : schemaP x) (h : schBytes x = schBytes y) : x = y := by
  rw [schBytes_ok (dec_true hx)] at h
  cases hy : dec (schemaP y) with
  | false => rw [schBytes_bad hy] at h; exact absurd h (schB_ne x)
  | true => rw [schBytes_ok hy] at h; exact schB_inj (sch_put hx) (sch_put (of_dec hy)) h
end Go.Pm.Tryz
namespace Go.Pm.Tryz
open Go Go.Proofs
set_option linter.unusedVariables false
set_option linter.unusedSimpArgs false
set_option maxRecDepth 100000
theorem push_col {cs : List Col} {k : Nat} {c : Col} {y : Int} {n : List UInt8} (hx : cs[k]? = some c) (hu : c.uniq = false) (hn : n = c.name) (hy : y = c.kind) : (cs.take k).map colD ++ [D.agg [.s n, .i .i64 y, .b false]] = (cs.take (k + 1)).map colD := by
  subst hn hy
  rw [take_up hx, List.map_append, ← hu]; rfl
set_option maxHeartbeats 4000000 in
theorem implTableOf (nm : List UInt8) (cs : List Col) (ks : List Int) (is : List Idx) (hl : cs.length ≤ 20) (hu : ∀ c, c ∈ cs → c.uniq = false) : Ent Tryz.prog 115 [.d (.s nm), .d (.sl false (ks.map i64D)), .d (.sl false (is.map idxD)), .d (.sl false ((cs.map Col.name).map strD)), .d (.sl false ((cs.map Col.kind).map i64D))] [] (.d (schemaD ⟨nm, cs, ks, is⟩)) [] := by
  have hm : cs.length ≤ maxLen := Nat.le_trans hl (by decide)
  have hln : ((cs.map Col.name).map strD).length = cs.length := by rw [List.length_map, List.length_map]
  have hlk : ((cs.map Col.kind).map i64D).length = cs.length := by rw [List.length_map, List.length_map]
  refine ent_of tok mixed (f := 115) Tryz.func115 (by kernel_rfl) (keep := false) ?_
  repeat' ((conv => whnf) <;> (first | ((with_reducible refine isCall ?_) <;> (first | (refine ⟨Int.natCast_nonneg _, ?_⟩) | (refine ⟨⟨by decide, rfl, rfl, room_add (by rw [hxs]; simp only [List.length_map, List.length_take]; omega) (by decide)⟩, ?_⟩) | fail)) | ((with_reducible refine isLoop ?_) <;> (first | (refine ⟨[4, 10, 11, 18, 19, 20], [10010, 10011, .cell 10034 3 false 10011 1], fun st => ∃ (k : Nat) (i : Int) (xs : List D), i = k ∧ xs = (cs.take k).map colD ∧ st = ⟨[(4, .d (.sl false ((cs.map Col.kind).map i64D))), (10, .ptr 10010 0), (11, .ptr 10011 0), (18, .d (.sl false ((cs.map Col.name).map strD))), (19, .d (.i .i64 (((cs.map Col.name).map strD).length : Int))), (20, .d (.i .i64 i))], [(10010, .var [.d (.s []), .snil, .snil, .snil]), (10011, .var [.d (.s nm), .own 10034, .d (.sl false (ks.map i64D)), .d (.sl false (is.map idxD))]), (10034, .arr 3 false xs)]⟩, fun s' => match look 20 s'.env with | some (.d (.i _ n)) => cs.length - n.toNat | _ => 0, ?_, ⟨0, _, _, rfl, rfl, ?_⟩, ?_⟩; kernel_rfl; kernel_rfl; rintro st ⟨k, i, xs, rfl, hxs, rfl⟩) | (refine ⟨Int.natCast_nonneg _, ?_⟩) | (refine ⟨⟨by decide, rfl, rfl, room_add (by rw [hxs]; simp only [List.length_map, List.length_take]; omega) (by decide)⟩, ?_⟩) | fail)) | ((with_reducible refine isCut ?_) <;> (first | refine ⟨⟨none⟩, ?_⟩)) | ((first | with_reducible refine isEx ?_ | with_reducible refine isAnd ?_ | with_reducible refine isOr ?_) <;> (first | ((with_reducible refine isGet (xs := (cs.map Col.kind).map i64D) (i := ((k : Nat) : Int).toNat) ?_); refine ⟨_, get_map' hx3, ?_⟩) | ((with_reducible refine isGet (xs := (cs.map Col.name).map strD) (i := ((k : Nat) : Int).toNat) ?_); obtain ⟨x, hx⟩ := get_ex (ss := cs) (k := k) (by have := of_decide_eq_true (by assumption : decide ((k : Int) < (((cs.map Col.name).map strD).length : Int)) = true); omega); have hx2 : (cs.map Col.name)[k]? = some x.name := (by rw [List.getElem?_map, hx]; rfl); have hx3 : (cs.map Col.kind)[k]? = some x.kind := (by rw [List.getElem?_map, hx]; rfl); have hxu := hu x (get_mem hx); refine ⟨_, get_map' hx2, ?_⟩) | (refine ⟨Int.natCast_nonneg _, ?_⟩) | (refine ⟨⟨by decide, rfl, rfl, room_add (by rw [hxs]; simp only [List.length_map, List.length_take]; omega) (by decide)⟩, ?_⟩) | ((with_reducible refine isSmall ?_) <;> (refine ⟨?_, ?_⟩; kernel_rfl)) | refine ⟨rfl, ?_⟩ | refine ⟨Int.natCast_nonneg _, ?_⟩)) | with_reducible refine Both.mk ?_ ?_ | rintro _ rfl | exact rfl | (split <;> (rename_i h; first | (simp only [beq_self_eq_true, eq_self, decide_true, Bool.not_true, Bool.false_eq_true] at h; done) | (try rw [h])))))
  all_goals try (conv => whnf)
  all_goals first
    | exact ⟨⟨k + 1, _, _, step_up (get_lt hx) hm, (by rw [hxs]; exact push_col hx hxu rfl rfl), rfl⟩, mu_up (get_lt hx) hm⟩
    | (have hh := of_decide_eq_false h
       rw [hln] at hh
       rw [hxs, List.take_of_length_le (by omega)]; exact ⟨rfl, rfl⟩)
    | trace_state
theorem plain_cols {s : Schema} (h : s.cols.all (fun c => !c.uniq) = true) : ∀ c, c ∈ s.cols → c.uniq = false := fun c hc => by simpa using List.all_eq_true.1 h c hc
set_option maxHeartbeats 4000000 in
theorem implSchemas : Ent Tryz.prog 72 [] [] (.d (.sl false (engS.map schemaD))) [] := by
  have c1 := implTableOf defsS.name defsS.cols defsS.keys defsS.idxs (by decide) (plain_cols rfl)
  have c2 := implTableOf stepsS.name stepsS.cols stepsS.keys stepsS.idxs (by decide) (plain_cols rfl)
  have c3 := implTableOf sagasS.name sagasS.cols sagasS.keys sagasS.idxs (by decide) (plain_cols rfl)
  have c4 := implTableOf outboxS.name outboxS.cols outboxS.keys outboxS.idxs (by decide) (plain_cols rfl)
  refine ent_of tok mixed (f := 72) Tryz.func72 (by kernel_rfl) (keep := false) ?_
  repeat' ((conv => whnf) <;> (first | ((with_reducible refine isCall ?_) <;> (first | (refine ⟨_, c1, ?_⟩; rintro _ _ ⟨rfl, rfl⟩) | (refine ⟨_, c2, ?_⟩; rintro _ _ ⟨rfl, rfl⟩) | (refine ⟨_, c3, ?_⟩; rintro _ _ ⟨rfl, rfl⟩) | (refine ⟨_, c4, ?_⟩; rintro _ _ ⟨rfl, rfl⟩) | fail)) | ((with_reducible refine isCut ?_) <;> (first | refine ⟨⟨none⟩, ?_⟩)) | ((first | with_reducible refine isEx ?_ | with_reducible refine isAnd ?_ | with_reducible refine isOr ?_) <;> (first | ((with_reducible refine isSmall ?_) <;> (refine ⟨?_, ?_⟩; kernel_rfl)) | refine ⟨rfl, ?_⟩ | refine ⟨Int.natCast_nonneg _, ?_⟩)) | with_reducible refine Both.mk ?_ ?_ | rintro _ rfl | exact rfl | (split <;> (rename_i h; first | (simp only [beq_self_eq_true, eq_self, decide_true, Bool.not_true, Bool.false_eq_true] at h; done) | (try rw [h])))))
  all_goals try (conv => whnf)
  all_goals trace_state
end Go.Pm.Tryz
namespace Go.Pm.Tryz
open Go Go.Proofs
set_option linter.unusedVariables false
set_option linter.unusedSimpArgs false
set_option maxRecDepth 100000
def engOrd : List Schema := [defsS, outboxS, sagasS, stepsS]
def engT (ts : List Tab) : Prop := ∃ a b c d, ts = [⟨defsS, a⟩, ⟨outboxS, b⟩, ⟨sagasS, c⟩, ⟨stepsS, d⟩]
theorem small_fits {s : Schema} (h : (Nat.ble s.name.length 100 && (Nat.ble s.cols.length 100 && (s.cols.all (fun c => Nat.ble c.name.length 100) && (Nat.ble s.keys.length 100 && (Nat.ble s.idxs.length 100 && s.idxs.all fun i => Nat.ble i.cols.length 100))))) = true) : s.fits := by
  simp only [Bool.and_eq_true, List.all_eq_true, Nat.ble_eq] at h
  have m : ∀ n, n ≤ 100 → n ≤ maxLen := fun n h => Nat.le_trans h (Nat.le_of_ble_eq_true rfl)
  exact ⟨m _ h.1, m _ h.2.1, fun c hc => m _ (h.2.2.1 c hc), m _ h.2.2.2.1, m _ h.2.2.2.2.1, fun i hi => m _ (h.2.2.2.2.2 i hi)⟩
theorem eng_fits : ∀ s, s ∈ engS → s.fits := fun s hs => by
  rcases List.mem_cons.1 hs with rfl | hs
  · exact small_fits rfl
  rcases List.mem_cons.1 hs with rfl | hs
  · exact small_fits rfl
  rcases List.mem_cons.1 hs with rfl | hs
  · exact small_fits rfl
  rcases List.mem_cons.1 hs with rfl | hs
  · exact small_fits rfl
  cases hs
structure OrdAt (k : Nat) (n : Int) (s : Schema) : Prop where
  num : ([0, 3, 2, 1] : List Int)[k]? = some n
  ge : 0 ≤ n
  lt : n < 4
  all : engS[n.toNat]? = some s
  ord : engOrd[k]? = some s
  fits : s.fits
theorem ord_at {k : Nat} (h : k < 4) : ∃ n s, OrdAt k n s := by
  match k, h with
  | 0, _ => exact ⟨0, defsS, rfl, by decide, by decide, rfl, rfl, eng_fits _ (by simp [engS])⟩
  | 1, _ => exact ⟨3, outboxS, rfl, by decide, by decide, rfl, rfl, eng_fits _ (by simp [engS])⟩
  | 2, _ => exact ⟨2, sagasS, rfl, by decide, by decide, rfl, rfl, eng_fits _ (by simp [engS])⟩
  | 3, _ => exact ⟨1, stepsS, rfl, by decide, by decide, rfl, rfl, eng_fits _ (by simp [engS])⟩
theorem engT_at {ts : List Tab} (h : engT ts) {k : Nat} {t : Tab} {s : Schema} (ht : ts[k]? = some t) (hs : engOrd[k]? = some s) : t.sch = s := by
  obtain ⟨a, b, c, d, rfl⟩ := h
  match k, ht, hs with
  | 0, ht, hs => cases ht; cases hs; rfl
  | 1, ht, hs => cases ht; cases hs; rfl
  | 2, ht, hs => cases ht; cases hs; rfl
  | 3, ht, hs => cases ht; cases hs; rfl
theorem engT_of {ts : List Tab} (hd : dbP ts) (hl : ts.length = 4) (h : ∀ j t s, j < 4 → ts[j]? = some t → engOrd[j]? = some s → schBytes t.sch = schBytes s) : engT ts := by
  have e : ∀ j t s, j < 4 → ts[j]? = some t → engOrd[j]? = some s → t.sch = s := fun j t s hj ht hs => schBytes_inj (hd.tabs j t ht).tab.sch (h j t s hj ht hs)
  match ts, hl, e with
  | [⟨s0, a⟩, ⟨s1, b⟩, ⟨s2, c⟩, ⟨s3, d⟩], _, e =>
    have e0 : s0 = defsS := e 0 ⟨s0, a⟩ defsS (by decide) rfl rfl
    have e1 : s1 = outboxS := e 1 ⟨s1, b⟩ outboxS (by decide) rfl rfl
    have e2 : s2 = sagasS := e 2 ⟨s2, c⟩ sagasS (by decide) rfl rfl
    have e3 : s3 = stepsS := e 3 ⟨s3, d⟩ stepsS (by decide) rfl rfl
    rw [e0, e1, e2, e3]
    exact ⟨a, b, c, d, rfl⟩
set_option maxHeartbeats 4000000 in
theorem specTables (ts : List Tab) (hd : dbP ts) (hf : ∀ t, t ∈ ts → t.fits) : Ent Tryz.prog 31 [.d (dbArg ts)] [] (.d (.b (dec (engT ts)))) [] := by
  obtain ⟨o, ho⟩ : ∃ o, o = dec (engT ts) := ⟨_, rfl⟩
  rw [← ho]
  have c0 := specSchemas
  have hm : ts.length ≤ maxLen := Nat.le_trans hd.most (by decide)
  have hlm : (ts.map tabD).length = ts.length := List.length_map ..
  have hl4 : (!decide (((ts.map tabD).length : Int) = 4)) = false → ts.length = 4 := fun h => by have := of_decide_eq_true (not_ok h); omega
  refine ent_of (cx := ⟨tab, [2000004, 2000007], []⟩) tok mixed (f := 31) Tryz.func31 (by kernel_rfl) (keep := false) ?_
  repeat' ((conv => whnf) <;> (first | ((with_reducible refine isCall ?_) <;> (first | (refine ⟨_, c0, ?_⟩; rintro _ _ ⟨rfl, rfl⟩) | (refine ⟨_, (specSchemaBytes x.sch (hf x (get_mem hx)).sch), ?_⟩; rintro _ _ ⟨rfl, rfl⟩) | (refine ⟨_, (specSchemaBytes w hO.fits), ?_⟩; rintro _ _ ⟨rfl, rfl⟩) | (refine ⟨_, get_map' hO.all, ?_⟩) | (refine ⟨_, get_map' hO.num, ?_⟩) | (refine ⟨hO.ge, ?_⟩) | (refine ⟨Int.natCast_nonneg _, ?_⟩) | fail)) | ((with_reducible refine isLoop ?_) <;> (first | (refine ⟨[1, 3, 4, 5], [10001], fun st => ∃ (k : Nat) (i : Int), i = k ∧ (∀ j t s, j < k → ts[j]? = some t → engOrd[j]? = some s → schBytes t.sch = schBytes s) ∧ st = ⟨[(1, .ptr 10001 0), (3, .d (.sl false (engS.map schemaD))), (4, .d (.sl false (([0, 3, 2, 1] : List Int).map i64D))), (5, .d (.i .i64 i))], [(10001, .var [.d (.sl false (ts.map tabD))])]⟩, fun s' => match look 5 s'.env with | some (.d (.i _ n)) => 4 - n.toNat | _ => 0, ?_, ⟨0, _, rfl, (fun j t s h => absurd h (Nat.not_lt_zero _)), ?_⟩, ?_⟩; kernel_rfl; kernel_rfl; rintro st ⟨k, i, rfl, hv, rfl⟩) | (refine ⟨_, get_map' hO.all, ?_⟩) | (refine ⟨_, get_map' hO.num, ?_⟩) | (refine ⟨hO.ge, ?_⟩) | (refine ⟨Int.natCast_nonneg _, ?_⟩) | fail)) | ((with_reducible refine isCut ?_) <;> (first | refine ⟨⟨none⟩, ?_⟩)) | ((first | with_reducible refine isEx ?_ | with_reducible refine isAnd ?_ | with_reducible refine isOr ?_) <;> (first | (refine ⟨_, get_map' hO.all, ?_⟩) | (refine ⟨_, get_map' hO.num, ?_⟩) | (refine ⟨hO.ge, ?_⟩) | ((with_reducible refine isGet (xs := ts.map tabD) (i := ((k : Nat) : Int).toNat) ?_); have hk4 : k < 4 := (by have := of_decide_eq_true (by assumption : decide ((k : Int) < 4) = true); omega); obtain ⟨x, hx⟩ := get_ex (ss := ts) (k := k) (by rw [hl4 (by assumption)]; exact hk4); obtain ⟨n, w, hO⟩ := ord_at hk4; refine ⟨_, get_map' hx, ?_⟩) | (refine ⟨Int.natCast_nonneg _, ?_⟩) | ((with_reducible refine isSmall ?_) <;> (refine ⟨?_, ?_⟩; kernel_rfl)) | refine ⟨rfl, ?_⟩ | refine ⟨Int.natCast_nonneg _, ?_⟩)) | with_reducible refine Both.mk ?_ ?_ | rintro _ rfl | exact rfl | (split <;> (rename_i h; first | (simp only [beq_self_eq_true, eq_self, decide_true, Bool.not_true, Bool.false_eq_true] at h; done) | (try rw [h])))))
  all_goals try (conv => whnf)
  all_goals first
    | exact ⟨⟨k + 1, _, step_up (n := 4) hk4 (by decide), (fun j t s hj ht hs => by
         by_cases e : j = k
         · subst e
           rw [hx] at ht; cases ht
           rw [hO.ord] at hs; cases hs
           exact of_decide_eq_true (not_ok (by assumption : (!decide (schBytes x.sch = schBytes w)) = false))
         · exact hv j t s (by omega) ht hs), rfl⟩, mu_up (n := 4) hk4 (by decide)⟩
    | (refine ⟨congrArg (fun b => AV.d (D.b b)) ?_, rfl⟩
       rw [ho]; symm
       first
         | exact dec_false fun hE => of_decide_eq_false (not_ok' h) (by rw [engT_at hE hx hO.ord])
         | (refine dec_false fun ⟨a, b, c, d, hE⟩ => of_decide_eq_false (not_ok' h) ?_
            rw [hE]; rfl)
         | exact dec_true (engT_of hd (hl4 (by assumption)) fun j t s hj ht hs => hv j t s (by have := of_decide_eq_false (by assumption : decide ((k : Int) < 4) = false); omega) ht hs))
    | trace_state
end Go.Pm.Tryz
