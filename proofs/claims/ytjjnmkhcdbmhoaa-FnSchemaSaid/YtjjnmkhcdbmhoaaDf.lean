/-
Draws from bytes: schemas.
-/
import Derived.Test.YtjjnmkhcdbmhoaaDe
import Derived.Test.YtjjnmkhcdbmhoaaCq
namespace Go.Pm.Try
open Go Go.Proofs
set_option linter.unusedVariables false
set_option linter.unusedSimpArgs false
set_option maxRecDepth 100000
/-- A schema of few things. -/
structure SchIn (s : Schema) : Prop where
  name : s.name.length ≤ 20
  cols : s.cols.length ≤ 5
  names : ∀ c, c ∈ s.cols → c.name.length ≤ 20
  keys : s.keys.length ≤ 10
  idxs : s.idxs.length ≤ 4
  lists : ∀ i, i ∈ s.idxs → i.cols.length ≤ 10
theorem SchIn.fits {s : Schema} (h : SchIn s) : s.fits := by
  have hm : maxLen = 9223372036854775807 := rfl
  exact ⟨by have := h.name; omega, by have := h.cols; omega, fun c hc => by have := h.names c hc; omega, by have := h.keys; omega, by have := h.idxs; omega, fun i hi => by have := h.lists i hi; omega⟩
theorem SchIn.small {s : Schema} (h : SchIn s) : s.small := by
  have hm : maxLen = 9223372036854775807 := rfl
  exact ⟨by have := h.name; omega, by have := h.cols; omega, h.keys, h.idxs, h.lists⟩
def DrawSch (b : List UInt8) (z : Int) (R : AV) (O : List Ob) : Prop := ∃ (s : Schema) (k m : Int), R = .d (schemaD s) ∧ O = [.var (srcC b z k m)] ∧ SrcOk b z k ∧ SchIn s
inductive ColsMid (b : List UInt8) (z : Int) (nm : List UInt8) (st : St) : Prop
  | mk (cs : List Col) (n k m : Int) (h0 : n = (cs.length : Int)) (h1 : n ≤ 4) (hc : ∀ c, c ∈ cs → c.name.length ≤ 20) (hs : SrcOk b z k)
      (e : st = ⟨[(0, .ptr 0 0), (2, .ptr 10002 0), (3, .ptr 10003 0), (4, .d (.i .i64 n))],
        [(0, .var (srcC b z k m)), (10002, .var [.d (.s []), .snil, .snil, .snil]), (10035, .arr 3 false (cs.map colD)), (10003, .var [.d (.s nm), .own 10035, .own 10010, .snil]), (10010, .arr 1 false [.i .i64 0])]⟩)
inductive IdxMid (b : List UInt8) (z : Int) (nm : List UInt8) (cs : List Col) (kb : Nat) (ks : List D) (N : Int) (st : St) : Prop
  | mk (is : List Idx) (n k m : Int) (h0 : n = N - (is.length : Int)) (h1 : 0 ≤ n) (hi : ∀ i, i ∈ is → i.cols.length ≤ 10) (hs : SrcOk b z k)
      (e : st = ⟨[(0, .ptr 0 0), (2, .ptr 10002 0), (3, .ptr 10003 0), (5, .d (.i .i64 n))],
        [(0, .var (srcC b z k m)), (10002, .var [.d (.s []), .snil, .snil, .snil]), (10035, .arr 3 false (cs.map colD)), (10003, .var [.d (.s nm), .own 10035, .own kb, .own 10076]), (kb, .arr 1 false ks), (10076, .arr 2 true (is.map idxO))]⟩)
theorem cols_room {cs : List Col} {n : Int} (h0 : n = (cs.length : Int)) (h1 : n ≤ 4) : (cs.map colD).length ≤ 1000000 := by rw [List.length_map]; omega
theorem le_four {n r : Int} (h : decide (n ≤ r) = true) (hr : 0 ≤ r ∧ (1 < (4 : Int) → r < 4) ∧ ((4 : Int) ≤ 1 → r = 0)) : n ≤ 3 := by
  have := of_decide_eq_true h; have := hr.2.1 (by decide); omega
theorem in5 {cs : List Col} {n r : Int} (h0 : n = (cs.length : Int)) (h : decide (n ≤ r) = true) (hr : 0 ≤ r ∧ (1 < (4 : Int) → r < 4) ∧ ((4 : Int) ≤ 1 → r = 0)) : 0 ≤ n ∧ n < 5 := by
  have := le_four h hr; omega
def colNames : List D := [.s [105, 100], .s [120], .s [121], .s [122, 95, 50], .s [119]]
theorem five_get {cs : List Col} {n r : Int} (h0 : n = (cs.length : Int)) (h : decide (n ≤ r) = true) (hr : 0 ≤ r ∧ (1 < (4 : Int) → r < 4) ∧ ((4 : Int) ≤ 1 → r = 0)) : ∃ t, colNames[n.toNat]? = some (.s t) ∧ t.length ≤ 20 :=
  textsB_get (by decide) (by have := in5 h0 h hr; show n.toNat < 5; omega)
theorem cols_next {cs : List Col} {n r : Int} (h0 : n = (cs.length : Int)) (h : decide (n ≤ r) = true) (hr : 0 ≤ r ∧ (1 < (4 : Int) → r < 4) ∧ ((4 : Int) ≤ 1 → r = 0)) (c : Col) : IntKind.i64.wrap (n + 1) = (((cs ++ [c]).length : Nat) : Int) ∧ IntKind.i64.wrap (n + 1) ≤ 4 := by
  have := le_four h hr
  rw [wrap_i64_id _ (by omega) (by omega), List.length_append, List.length_cons, List.length_nil]
  omega
theorem cols_mu {cs : List Col} {n r : Int} (h0 : n = (cs.length : Int)) (h : decide (n ≤ r) = true) (hr : 0 ≤ r ∧ (1 < (4 : Int) → r < 4) ∧ ((4 : Int) ≤ 1 → r = 0)) : (5 - IntKind.i64.wrap (n + 1)).toNat < (5 - n).toNat := by
  have := le_four h hr
  rw [wrap_i64_id _ (by omega) (by omega)]
  omega
theorem cols_all {cs : List Col} {c : Col} (h : ∀ x, x ∈ cs → x.name.length ≤ 20) (hc : c.name.length ≤ 20) : ∀ x, x ∈ cs ++ [c] → x.name.length ≤ 20 := by
  intro x hx
  rcases List.mem_append.1 hx with hx | hx
  · exact h x hx
  · rw [List.mem_singleton.1 hx]; exact hc
theorem cols_push (cs : List Col) (c : Col) : (cs ++ [c]).map colD = cs.map colD ++ [colD c] := by simp
theorem idxs_push (is : List Idx) (i : Idx) : (is ++ [i]).map idxO = is.map idxO ++ [idxO i] := by simp
theorem idx_next {is : List Idx} {n N : Int} (h0 : n = N - (is.length : Int)) (h : decide (n > 0) = true) (hN : N ≤ 2) (i : Idx) : IntKind.i64.wrap (n - 1) = N - (((is ++ [i]).length : Nat) : Int) ∧ 0 ≤ IntKind.i64.wrap (n - 1) := by
  have := of_decide_eq_true h
  rw [wrap_i64_id _ (by omega) (by omega), List.length_append, List.length_cons, List.length_nil]
  omega
theorem idx_mu {is : List Idx} {n N : Int} (h0 : n = N - (is.length : Int)) (h : decide (n > 0) = true) (hN : N ≤ 2) : (IntKind.i64.wrap (n - 1)).toNat < n.toNat := by
  have := of_decide_eq_true h
  rw [wrap_i64_id _ (by omega) (by omega)]
  omega
theorem idx_all {is : List Idx} {i : Idx} (h : ∀ x, x ∈ is → x.cols.length ≤ 10) (hi : i.cols.length ≤ 10) : ∀ x, x ∈ is ++ [i] → x.cols.length ≤ 10 := by
  intro x hx
  rcases List.mem_append.1 hx with hx | hx
  · exact h x hx
  · rw [List.mem_singleton.1 hx]; exact hi
theorem idx_room {is : List Idx} {n N : Int} (h0 : n = N - (is.length : Int)) (h1 : 0 ≤ n) (hN : N ≤ 2) : (is.map idxO).length ≤ 1000000 := by rw [List.length_map]; omega
theorem few {r : Int} (h : 0 ≤ r ∧ (1 < (3 : Int) → r < 3) ∧ ((3 : Int) ≤ 1 → r = 0)) : 0 ≤ r ∧ r ≤ 2 := by have := h.2.1 (by decide); omega
theorem cols_max {cs : List Col} {n : Int} (h0 : n = (cs.length : Int)) (h1 : n ≤ 4) : ((cs.map colD).length : Int) ≤ 9223372036854775807 := by rw [List.length_map]; omega
theorem cols_some {cs : List Col} {n r : Int} (h0 : n = (cs.length : Int)) (h : decide (n ≤ r) = false) (hr : 0 ≤ r ∧ (1 < (4 : Int) → r < 4) ∧ ((4 : Int) ≤ 1 → r = 0)) : 0 ≤ (0 : Int) ∧ (0 : Int) < ((cs.map colD).length : Int) := by
  have := of_decide_eq_false h
  rw [List.length_map]; omega
theorem firstC {cs : List Col} {n r : Int} (h0 : n = (cs.length : Int)) (h : decide (n ≤ r) = false) (hr : 0 ≤ r ∧ (1 < (4 : Int) → r < 4) ∧ ((4 : Int) ≤ 1 → r = 0)) : ∃ c, cs[0]? = some c ∧ (cs.map colD)[Int.toNat 0]? = some (colD c) := by
  have := of_decide_eq_false h
  obtain ⟨c, hc⟩ := get_ex (ss := cs) (k := 0) (by omega)
  exact ⟨c, hc, get_map' hc⟩
theorem four15 {r : Int} {n : Int} (hn : n = 4 ∨ n = 3) (h : 0 ≤ r ∧ (1 < n → r < n) ∧ (n ≤ 1 → r = 0)) : r ≤ 1000 ∧ 0 ≤ r ∧ r.toNat ≤ 10 := by
  rcases hn with rfl | rfl <;> (have := h.2.1 (by decide); omega)
theorem sch_fin {b : List UInt8} {z k m : Int} {R : AV} {O : List Ob} {nm : List UInt8} {xs ys zs : List D} (cs : List Col) (ks : List Int) (is : List Idx) (hx : xs = cs.map colD) (hy : ys = ks.map i64D) (hz : zs = eraseL (is.map idxO))
    (hR : R = .d (.agg [.s nm, .sl false xs, .sl false ys, .sl false zs])) (hO : O = [.var (srcC b z k m)]) (hs : SrcOk b z k) (hl : nm.length ≤ 20) (hc : cs.length ≤ 5) (hn : ∀ c, c ∈ cs → c.name.length ≤ 20) (hk : ks.length ≤ 10) (hi : is.length ≤ 4)
    (hil : ∀ i, i ∈ is → i.cols.length ≤ 10) : DrawSch b z R O :=
  ⟨⟨nm, cs, ks, is⟩, k, m, by rw [hR, hx, hy, hz, erase_idx]; rfl, hO, hs, hl, hc, hn, hk, hi, hil⟩
theorem cols_five {cs : List Col} {n : Int} (h0 : n = (cs.length : Int)) (h1 : n ≤ 4) : cs.length ≤ 5 := by omega
theorem idxs_four {is : List Idx} {n N : Int} (h0 : n = N - (is.length : Int)) (h1 : 0 ≤ n) (hN : N ≤ 2) : is.length ≤ 4 := by omega
theorem idxs_push4 {is : List Idx} {n N : Int} (h0 : n = N - (is.length : Int)) (h1 : 0 ≤ n) (hN : N ≤ 2) (i : Idx) : (is ++ [i]).length ≤ 4 := by rw [List.length_append, List.length_cons, List.length_nil]; omega
theorem set_cols (cs : List Col) (c : Col) : (cs.set 0 c).map colD = (cs.map colD).set 0 (colD c) := List.map_set
theorem set_five {cs : List Col} {n : Int} (h0 : n = (cs.length : Int)) (h1 : n ≤ 4) (c : Col) : (cs.set 0 c).length ≤ 5 := by rw [List.length_set]; omega
theorem set_names {cs : List Col} {c : Col} (h : ∀ x, x ∈ cs → x.name.length ≤ 20) (hc : c.name.length ≤ 20) : ∀ x, x ∈ cs.set 0 c → x.name.length ≤ 20 := by
  intro x hx
  rcases List.mem_or_eq_of_mem_set hx with hx | rfl
  · exact h x hx
  · exact hc
set_option maxHeartbeats 16000000 in
theorem srcSchema {b : List UInt8} {z k m : Int} (hs : SrcOk b z k) : EntQ Try.prog 16 [.ptr 0 0] [.var (srcC b z k m)] (DrawSch b z) := by
  cases b
  all_goals
    refine ent_of tok mixed (f := 16) Try.func16 (by kernel_rfl) (keep := false) ?_
    repeat' ((conv => whnf) <;> (first | ((with_reducible refine isCall ?_) <;> (first | (refine ⟨_, names_pick (m := m) hs rfl rfl, ?_⟩; rintro _ _ ⟨t1, k1, m1, rfl, rfl, hs1, hl1⟩) | (refine ⟨_, srcN (m := m3) hs3 4 (by decide), ?_⟩; rintro _ _ ⟨r4, k4, m4, rfl, rfl, hs4, hr4⟩) | (refine ⟨_, srcN (m := m4) hs4 3 (by decide), ?_⟩; rintro _ _ ⟨r5, k5, m5, rfl, rfl, hs5, hr5⟩) | (refine ⟨_, srcOne (m := m5) hs5 2 (by decide), ?_⟩; rintro _ _ ⟨b6, k6, m6, rfl, rfl, hs6⟩) | (refine ⟨_, srcOneT (m := m4) hs4 3 (by decide), ?_⟩; rintro _ _ (⟨k7, m7, e7t, rfl, rfl, hs7⟩ | ⟨k7, m7, e7f, rfl, rfl, hs7⟩)) | (refine ⟨_, srcN (m := m7) hs7 3 (by decide), ?_⟩; rintro _ _ ⟨r8, k8, m8, rfl, rfl, hs8, hr8⟩) | (refine ⟨_, srcN (m := m9) hs9 ((cs.map colD).length : Int) (cols_max h0 h1), ?_⟩; rintro _ _ ⟨r10, k10, m10, rfl, rfl, hs10, hr10⟩) | (refine ⟨_, srcOne (m := m10) hs10 3 (by decide), ?_⟩; rintro _ _ ⟨b11, k11, m11, rfl, rfl, hs11⟩) | (refine ⟨_, srcOneT (m := m11) hs11 2 (by decide), ?_⟩; rintro _ _ (⟨k12, m12, e12t, rfl, rfl, hs12⟩ | ⟨k12, m12, e12f, rfl, rfl, hs12⟩)) | (refine ⟨_, srcOneT (m := m9) hs9 20 (by decide), ?_⟩; rintro _ _ (⟨k13, m13, e13t, rfl, rfl, hs13⟩ | ⟨k13, m13, e13f, rfl, rfl, hs13⟩)) | (refine ⟨_, srcN (m := m13) hs13 5 (by decide), ?_⟩; rintro _ _ ⟨r14, k14, m14, rfl, rfl, hs14, hr14⟩) | (refine ⟨_, srcN (m := m14) hs14 4 (by decide), ?_⟩; rintro _ _ ⟨r15, k15, m15, rfl, rfl, hs15, hr15⟩) | (refine ⟨_, srcN (m := m14) hs14 3 (by decide), ?_⟩; rintro _ _ ⟨r15, k15, m15, rfl, rfl, hs15, hr15⟩) | (refine ⟨_, srcN (m := m14) hs14 6 (by decide), ?_⟩; rintro _ _ ⟨r15, k15, m15, rfl, rfl, hs15, hr15⟩) | (refine ⟨_, srcList (m := m15) hs15 r15 (-1) 5 (four15 (.inl rfl) hr15).1 (four15 (.inl rfl) hr15).2.1, ?_⟩; rintro _ _ ⟨l16, k16, m16, rfl, rfl, hs16, hl16, hi16⟩) | (refine ⟨_, srcList (m := m15) hs15 r15 (-1) 5 (four15 (.inr rfl) hr15).1 (four15 (.inr rfl) hr15).2.1, ?_⟩; rintro _ _ ⟨l16, k16, m16, rfl, rfl, hs16, hl16, hi16⟩) | (refine ⟨_, names_pick (m := m14) hs14 rfl rfl, ?_⟩; rintro _ _ ⟨t15, k15, m15, rfl, rfl, hs15, hl15⟩) | (refine ⟨in5 h0 (by assumption) hr4, ?_⟩) | (obtain ⟨t5, ht5, hl5⟩ := five_get h0 (by assumption) hr4; refine ⟨_, ht5, ?_⟩) | (refine ⟨⟨(by decide), rfl, rfl, room_add (cols_room h0 h1) (by decide)⟩, ?_⟩) | (refine ⟨ColsMid.mk (cs ++ [⟨t5, IntKind.i64.wrap (1 + r5), b6⟩]) (IntKind.i64.wrap (n + 1)) k6 m6 (cols_next h0 (by assumption) hr4 _).1 (cols_next h0 (by assumption) hr4 ⟨[], 0, false⟩).2 (cols_all hc hl5) hs6 ?_, cast ?_ (cols_mu h0 (by assumption) hr4)⟩; rw [cols_push]; kernel_rfl; kernel_rfl) | (refine ⟨ColsMid.mk (cs ++ [⟨t5, IntKind.i64.wrap (1 + r5), false⟩]) (IntKind.i64.wrap (n + 1)) k5 m5 (cols_next h0 (by assumption) hr4 _).1 (cols_next h0 (by assumption) hr4 ⟨[], 0, false⟩).2 (cols_all hc hl5) hs5 ?_, cast ?_ (cols_mu h0 (by assumption) hr4)⟩; rw [cols_push]; kernel_rfl; kernel_rfl) | (refine ⟨⟨(by decide), rfl, rfl, room_add (idx_room g0 g1 hN.2) (by decide)⟩, ?_⟩) | (refine ⟨cols_some h0 (by assumption) hr4, ?_⟩) | (obtain ⟨c0, hc0, hd0⟩ := firstC h0 (by assumption) hr4; refine ⟨_, hd0, ?_⟩) | (refine ⟨IdxMid.mk (is ++ [⟨[0, 1], b11⟩]) (IntKind.i64.wrap (n9 - 1)) k12 m12 ((fun _ => (idx_next g0 (by assumption) hN.2 _).1) e12t) (idx_next g0 (by assumption) hN.2 ⟨[], false⟩).2 (idx_all hi (Nat.le_of_ble_eq_true rfl)) hs12 ?_, cast ?_ (idx_mu g0 (by assumption) hN.2)⟩; rw [idxs_push]; kernel_rfl; kernel_rfl) | (refine ⟨IdxMid.mk (is ++ [⟨[r10], b11⟩]) (IntKind.i64.wrap (n9 - 1)) k12 m12 ((fun _ => (idx_next g0 (by assumption) hN.2 _).1) e12f) (idx_next g0 (by assumption) hN.2 ⟨[], false⟩).2 (idx_all hi (Nat.le_of_ble_eq_true rfl)) hs12 ?_, cast ?_ (idx_mu g0 (by assumption) hN.2)⟩; rw [idxs_push]; kernel_rfl; kernel_rfl) | (refine ⟨IdxMid.mk (is ++ [⟨[r10], b11⟩]) (IntKind.i64.wrap (n9 - 1)) k11 m11 (idx_next g0 (by assumption) hN.2 _).1 (idx_next g0 (by assumption) hN.2 ⟨[], false⟩).2 (idx_all hi (Nat.le_of_ble_eq_true rfl)) hs11 ?_, cast ?_ (idx_mu g0 (by assumption) hN.2)⟩; rw [idxs_push]; kernel_rfl; kernel_rfl) | fail)) | ((with_reducible refine isLoop ?_) <;> (first | (refine ⟨[0, 2, 3, 5], [0, 10002, 10035, 10003, 10010, .cell 10076 2 true 10003 3], IdxMid _ z t1 cs 10010 [.i .i64 0] r5, fun st => match look 5 st.env with | some (.d (.i _ n)) => n.toNat | _ => 0, ?_, IdxMid.mk [] r5 k5 m5 (by simp) (few hr5).1 (by simp) hs5 ?_, ?_⟩; kernel_rfl; kernel_rfl; rintro _ ⟨is, n9, k9, m9, g0, g1, hi, hs9, rfl⟩; have hN := few hr5) | (refine ⟨[0, 2, 3, 5], [0, 10002, 10035, 10003, 10010, .cell 10076 2 true 10003 3], IdxMid _ z t1 cs 10010 [.i .i64 0] r8, fun st => match look 5 st.env with | some (.d (.i _ n)) => n.toNat | _ => 0, ?_, IdxMid.mk [] r8 k8 m8 (by simp) ((fun _ => (few hr8).1) e7f) (by simp) hs8 ?_, ?_⟩; kernel_rfl; kernel_rfl; rintro _ ⟨is, n9, k9, m9, g0, g1, hi, hs9, rfl⟩; have hN := few hr8) | (refine ⟨[0, 2, 3, 5], [0, 10002, 10035, 10003, 10045, .cell 10076 2 true 10003 3], IdxMid _ z t1 cs 10045 [.i .i64 1, .i .i64 0] r8, fun st => match look 5 st.env with | some (.d (.i _ n)) => n.toNat | _ => 0, ?_, IdxMid.mk [] r8 k8 m8 (by simp) ((fun _ => (few hr8).1) e7t) (by simp) hs8 ?_, ?_⟩; kernel_rfl; kernel_rfl; rintro _ ⟨is, n9, k9, m9, g0, g1, hi, hs9, rfl⟩; have hN := few hr8) | (refine ⟨[0, 2, 3, 4], [0, 10002, .cell 10035 3 false 10003 1, 10003, 10010], ColsMid _ z t1, fun st => match look 4 st.env with | some (.d (.i _ n)) => (5 - n).toNat | _ => 0, ?_, ColsMid.mk [] 0 k1 m1 rfl (by decide) (by simp) hs1 ?_, ?_⟩; kernel_rfl; kernel_rfl; rintro _ ⟨cs, n, k3, m3, h0, h1, hc, hs3, rfl⟩) | (refine ⟨in5 h0 (by assumption) hr4, ?_⟩) | (obtain ⟨t5, ht5, hl5⟩ := five_get h0 (by assumption) hr4; refine ⟨_, ht5, ?_⟩) | (refine ⟨⟨(by decide), rfl, rfl, room_add (cols_room h0 h1) (by decide)⟩, ?_⟩) | (refine ⟨ColsMid.mk (cs ++ [⟨t5, IntKind.i64.wrap (1 + r5), b6⟩]) (IntKind.i64.wrap (n + 1)) k6 m6 (cols_next h0 (by assumption) hr4 _).1 (cols_next h0 (by assumption) hr4 ⟨[], 0, false⟩).2 (cols_all hc hl5) hs6 ?_, cast ?_ (cols_mu h0 (by assumption) hr4)⟩; rw [cols_push]; kernel_rfl; kernel_rfl) | (refine ⟨ColsMid.mk (cs ++ [⟨t5, IntKind.i64.wrap (1 + r5), false⟩]) (IntKind.i64.wrap (n + 1)) k5 m5 (cols_next h0 (by assumption) hr4 _).1 (cols_next h0 (by assumption) hr4 ⟨[], 0, false⟩).2 (cols_all hc hl5) hs5 ?_, cast ?_ (cols_mu h0 (by assumption) hr4)⟩; rw [cols_push]; kernel_rfl; kernel_rfl) | (refine ⟨⟨(by decide), rfl, rfl, room_add (idx_room g0 g1 hN.2) (by decide)⟩, ?_⟩) | (refine ⟨cols_some h0 (by assumption) hr4, ?_⟩) | (obtain ⟨c0, hc0, hd0⟩ := firstC h0 (by assumption) hr4; refine ⟨_, hd0, ?_⟩) | (refine ⟨IdxMid.mk (is ++ [⟨[0, 1], b11⟩]) (IntKind.i64.wrap (n9 - 1)) k12 m12 ((fun _ => (idx_next g0 (by assumption) hN.2 _).1) e12t) (idx_next g0 (by assumption) hN.2 ⟨[], false⟩).2 (idx_all hi (Nat.le_of_ble_eq_true rfl)) hs12 ?_, cast ?_ (idx_mu g0 (by assumption) hN.2)⟩; rw [idxs_push]; kernel_rfl; kernel_rfl) | (refine ⟨IdxMid.mk (is ++ [⟨[r10], b11⟩]) (IntKind.i64.wrap (n9 - 1)) k12 m12 ((fun _ => (idx_next g0 (by assumption) hN.2 _).1) e12f) (idx_next g0 (by assumption) hN.2 ⟨[], false⟩).2 (idx_all hi (Nat.le_of_ble_eq_true rfl)) hs12 ?_, cast ?_ (idx_mu g0 (by assumption) hN.2)⟩; rw [idxs_push]; kernel_rfl; kernel_rfl) | (refine ⟨IdxMid.mk (is ++ [⟨[r10], b11⟩]) (IntKind.i64.wrap (n9 - 1)) k11 m11 (idx_next g0 (by assumption) hN.2 _).1 (idx_next g0 (by assumption) hN.2 ⟨[], false⟩).2 (idx_all hi (Nat.le_of_ble_eq_true rfl)) hs11 ?_, cast ?_ (idx_mu g0 (by assumption) hN.2)⟩; rw [idxs_push]; kernel_rfl; kernel_rfl) | fail)) | ((with_reducible refine isCut ?_) <;> (first | refine ⟨⟨none⟩, ?_⟩)) | ((first | with_reducible refine isEx ?_ | with_reducible refine isAnd ?_ | with_reducible refine isOr ?_) <;> (first | (refine ⟨in5 h0 (by assumption) hr4, ?_⟩) | (obtain ⟨t5, ht5, hl5⟩ := five_get h0 (by assumption) hr4; refine ⟨_, ht5, ?_⟩) | (refine ⟨⟨(by decide), rfl, rfl, room_add (cols_room h0 h1) (by decide)⟩, ?_⟩) | (refine ⟨ColsMid.mk (cs ++ [⟨t5, IntKind.i64.wrap (1 + r5), b6⟩]) (IntKind.i64.wrap (n + 1)) k6 m6 (cols_next h0 (by assumption) hr4 _).1 (cols_next h0 (by assumption) hr4 ⟨[], 0, false⟩).2 (cols_all hc hl5) hs6 ?_, cast ?_ (cols_mu h0 (by assumption) hr4)⟩; rw [cols_push]; kernel_rfl; kernel_rfl) | (refine ⟨ColsMid.mk (cs ++ [⟨t5, IntKind.i64.wrap (1 + r5), false⟩]) (IntKind.i64.wrap (n + 1)) k5 m5 (cols_next h0 (by assumption) hr4 _).1 (cols_next h0 (by assumption) hr4 ⟨[], 0, false⟩).2 (cols_all hc hl5) hs5 ?_, cast ?_ (cols_mu h0 (by assumption) hr4)⟩; rw [cols_push]; kernel_rfl; kernel_rfl) | (refine ⟨⟨(by decide), rfl, rfl, room_add (idx_room g0 g1 hN.2) (by decide)⟩, ?_⟩) | (refine ⟨cols_some h0 (by assumption) hr4, ?_⟩) | (obtain ⟨c0, hc0, hd0⟩ := firstC h0 (by assumption) hr4; refine ⟨_, hd0, ?_⟩) | (refine ⟨IdxMid.mk (is ++ [⟨[0, 1], b11⟩]) (IntKind.i64.wrap (n9 - 1)) k12 m12 ((fun _ => (idx_next g0 (by assumption) hN.2 _).1) e12t) (idx_next g0 (by assumption) hN.2 ⟨[], false⟩).2 (idx_all hi (Nat.le_of_ble_eq_true rfl)) hs12 ?_, cast ?_ (idx_mu g0 (by assumption) hN.2)⟩; rw [idxs_push]; kernel_rfl; kernel_rfl) | (refine ⟨IdxMid.mk (is ++ [⟨[r10], b11⟩]) (IntKind.i64.wrap (n9 - 1)) k12 m12 ((fun _ => (idx_next g0 (by assumption) hN.2 _).1) e12f) (idx_next g0 (by assumption) hN.2 ⟨[], false⟩).2 (idx_all hi (Nat.le_of_ble_eq_true rfl)) hs12 ?_, cast ?_ (idx_mu g0 (by assumption) hN.2)⟩; rw [idxs_push]; kernel_rfl; kernel_rfl) | (refine ⟨IdxMid.mk (is ++ [⟨[r10], b11⟩]) (IntKind.i64.wrap (n9 - 1)) k11 m11 (idx_next g0 (by assumption) hN.2 _).1 (idx_next g0 (by assumption) hN.2 ⟨[], false⟩).2 (idx_all hi (Nat.le_of_ble_eq_true rfl)) hs11 ?_, cast ?_ (idx_mu g0 (by assumption) hN.2)⟩; rw [idxs_push]; kernel_rfl; kernel_rfl) | ((with_reducible refine isSmall ?_) <;> (refine ⟨?_, ?_⟩; kernel_rfl)) | refine ⟨rfl, ?_⟩ | refine ⟨Int.natCast_nonneg _, ?_⟩)) | with_reducible refine Both.mk ?_ ?_ | rintro _ rfl | exact rfl | (split <;> (rename_i h; first | (simp only [beq_self_eq_true, eq_self, decide_true, Bool.not_true, Bool.false_eq_true] at h; done) | (try rw [h])))))
    all_goals try (conv => whnf)
    all_goals first
      | exact sch_fin cs l16 is rfl rfl rfl rfl rfl hs16 hl1 (cols_five h0 h1) hc (Nat.le_trans hl16 (four15 (.inl rfl) hr15).2.2) (idxs_four g0 g1 hN.2) hi
      | exact sch_fin cs [0] is rfl rfl rfl rfl rfl hs13 hl1 (cols_five h0 h1) hc (by decide) (idxs_four g0 g1 hN.2) hi
      | exact sch_fin (cs.set 0 ⟨c0.name, IntKind.i64.wrap (r15 - 1), c0.uniq⟩) [0] is (set_cols _ _).symm rfl rfl rfl rfl hs15 hl1 (set_five h0 h1 _) (set_names hc (hc c0 (get_mem hc0))) (by decide) (idxs_four g0 g1 hN.2) hi
      | exact sch_fin (cs.set 0 ⟨t15, c0.kind, c0.uniq⟩) [0] is (set_cols _ _).symm rfl rfl rfl rfl hs15 hl1 (set_five h0 h1 _) (set_names hc hl15) (by decide) (idxs_four g0 g1 hN.2) hi
      | exact sch_fin (cs.set 0 ⟨c0.name, c0.kind, true⟩) [0] is (set_cols _ _).symm rfl rfl rfl rfl hs14 hl1 (set_five h0 h1 _) (set_names hc (hc c0 (get_mem hc0))) (by decide) (idxs_four g0 g1 hN.2) hi
      | exact sch_fin cs [0] (is ++ [⟨l16, false⟩]) rfl rfl (by rw [idxs_push]; rfl) rfl rfl hs16 hl1 (cols_five h0 h1) hc (by decide) (idxs_push4 g0 g1 hN.2 _) (idx_all hi (Nat.le_trans hl16 (four15 (.inr rfl) hr15).2.2))
      | exact sch_fin cs [1, 0] is rfl rfl rfl rfl rfl hs13 hl1 (cols_five h0 h1) hc (by decide) (idxs_four g0 g1 hN.2) hi
      | exact sch_fin (cs.set 0 ⟨c0.name, IntKind.i64.wrap (r15 - 1), c0.uniq⟩) [1, 0] is (set_cols _ _).symm rfl rfl rfl rfl hs15 hl1 (set_five h0 h1 _) (set_names hc (hc c0 (get_mem hc0))) (by decide) (idxs_four g0 g1 hN.2) hi
      | exact sch_fin (cs.set 0 ⟨t15, c0.kind, c0.uniq⟩) [1, 0] is (set_cols _ _).symm rfl rfl rfl rfl hs15 hl1 (set_five h0 h1 _) (set_names hc hl15) (by decide) (idxs_four g0 g1 hN.2) hi
      | exact sch_fin (cs.set 0 ⟨c0.name, c0.kind, true⟩) [1, 0] is (set_cols _ _).symm rfl rfl rfl rfl hs14 hl1 (set_five h0 h1 _) (set_names hc (hc c0 (get_mem hc0))) (by decide) (idxs_four g0 g1 hN.2) hi
      | exact sch_fin cs [1, 0] (is ++ [⟨l16, false⟩]) rfl rfl (by rw [idxs_push]; rfl) rfl rfl hs16 hl1 (cols_five h0 h1) hc (by decide) (idxs_push4 g0 g1 hN.2 _) (idx_all hi (Nat.le_trans hl16 (four15 (.inr rfl) hr15).2.2))
      | (with_reducible trace_state)
end Go.Pm.Try
