/-
Draws from bytes: values, rows.
-/
import Derived.Test.YtjjnmkhcdbmhoaaDe
import Derived.Test.YtjjnmkhcdbmhoaaCv
namespace Go.Pm.Try
open Go Go.Proofs
set_option linter.unusedVariables false
set_option linter.unusedSimpArgs false
set_option maxRecDepth 100000
theorem l02IntE (n : Int) : Ent Try.prog 74 [.d (.i .i64 n)] [] (.d (valD ⟨2, n, []⟩)) [] := by
  refine ent_of tok mixed (f := 74) Try.func74 (by kernel_rfl) (keep := false) ?_
  repeat' ((conv => whnf) <;> (first | ((with_reducible refine isCall ?_) <;> (first | fail)) | ((with_reducible refine isCut ?_) <;> (first | refine ⟨⟨none⟩, ?_⟩)) | ((first | with_reducible refine isEx ?_ | with_reducible refine isAnd ?_ | with_reducible refine isOr ?_) <;> (first | ((with_reducible refine isSmall ?_) <;> (refine ⟨?_, ?_⟩; kernel_rfl)) | refine ⟨rfl, ?_⟩ | refine ⟨Int.natCast_nonneg _, ?_⟩)) | with_reducible refine Both.mk ?_ ?_ | rintro _ rfl | exact rfl | (split <;> (rename_i h; first | (simp only [beq_self_eq_true, eq_self, decide_true, Bool.not_true, Bool.false_eq_true] at h; done) | (try rw [h])))))
  all_goals trace_state
theorem l02TextE (t : List UInt8) : Ent Try.prog 76 [.d (.s t)] [] (.d (valD ⟨3, 0, t⟩)) [] := by
  refine ent_of tok mixed (f := 76) Try.func76 (by kernel_rfl) (keep := false) ?_
  repeat' ((conv => whnf) <;> (first | ((with_reducible refine isCall ?_) <;> (first | fail)) | ((with_reducible refine isCut ?_) <;> (first | refine ⟨⟨none⟩, ?_⟩)) | ((first | with_reducible refine isEx ?_ | with_reducible refine isAnd ?_ | with_reducible refine isOr ?_) <;> (first | ((with_reducible refine isSmall ?_) <;> (refine ⟨?_, ?_⟩; kernel_rfl)) | refine ⟨rfl, ?_⟩ | refine ⟨Int.natCast_nonneg _, ?_⟩)) | with_reducible refine Both.mk ?_ ?_ | rintro _ rfl | exact rfl | (split <;> (rename_i h; first | (simp only [beq_self_eq_true, eq_self, decide_true, Bool.not_true, Bool.false_eq_true] at h; done) | (try rw [h])))))
  all_goals trace_state
def DrawV (b : List UInt8) (z : Int) (R : AV) (O : List Ob) : Prop := ∃ (v : Val) (k m : Int), R = .d (valD v) ∧ O = [.var (srcC b z k m)] ∧ SrcOk b z k ∧ v.text.length ≤ 300
theorem short20 {t : List UInt8} (h : t.length ≤ 20) : t.length ≤ 300 := by omega
set_option maxHeartbeats 4000000 in
theorem srcOf {b : List UInt8} {z k m : Int} (hs : SrcOk b z k) (c : Int) : EntQ Try.prog 50 [.ptr 0 0, .d (.i .i64 c)] [.var (srcC b z k m)] (DrawV b z) := by
  cases b
  all_goals
    refine ent_of tok mixed (f := 50) Try.func50 (by kernel_rfl) (keep := false) ?_
    repeat' ((conv => whnf) <;> (first | ((with_reducible refine isCall ?_) <;> (first | (refine ⟨_, srcN (m := m) hs 2 (by decide), ?_⟩; rintro _ _ ⟨r1, k1, m1, rfl, rfl, hs1, hr1⟩) | (refine ⟨_, srcOne (m := m) hs 8 (by decide), ?_⟩; rintro _ _ ⟨b1, k1, m1, rfl, rfl, hs1⟩) | (refine ⟨_, srcEdge (m := m1) hs1, ?_⟩; rintro _ _ ⟨n2, k2, m2, rfl, rfl, hs2, hn2⟩) | (refine ⟨_, srcN (m := m1) hs1 9 (by decide), ?_⟩; rintro _ _ ⟨n2, k2, m2, rfl, rfl, hs2, hr2⟩) | (refine ⟨_, l02IntE _, ?_⟩; rintro _ _ ⟨rfl, rfl⟩) | (refine ⟨_, l02TextE _, ?_⟩; rintro _ _ ⟨rfl, rfl⟩) | (refine ⟨_, names_pick (m := m) hs rfl rfl, ?_⟩; rintro _ _ ⟨t1, k1, m1, rfl, rfl, hs1, hl1⟩) | fail)) | ((with_reducible refine isCut ?_) <;> (first | refine ⟨⟨none⟩, ?_⟩)) | ((first | with_reducible refine isEx ?_ | with_reducible refine isAnd ?_ | with_reducible refine isOr ?_) <;> (first | ((with_reducible refine isSmall ?_) <;> (refine ⟨?_, ?_⟩; kernel_rfl)) | refine ⟨rfl, ?_⟩ | refine ⟨Int.natCast_nonneg _, ?_⟩)) | with_reducible refine Both.mk ?_ ?_ | rintro _ rfl | exact rfl | (split <;> (rename_i h; first | (simp only [beq_self_eq_true, eq_self, decide_true, Bool.not_true, Bool.false_eq_true] at h; done) | (try rw [h])))))
    all_goals (conv => whnf)
    all_goals first
      | exact ⟨⟨2, n2, []⟩, k2, m2, rfl, rfl, hs2, Nat.zero_le _⟩
      | exact ⟨⟨2, IntKind.i64.wrap (n2 - 2), []⟩, k2, m2, rfl, rfl, hs2, Nat.zero_le _⟩
      | exact ⟨⟨3, 0, t1⟩, k1, m1, rfl, rfl, hs1, short20 hl1⟩
      | exact ⟨⟨c, r1, []⟩, k1, m1, rfl, rfl, hs1, Nat.zero_le _⟩
      | exact ⟨⟨0, 0, []⟩, k, m, rfl, rfl, hs, Nat.zero_le _⟩
      | trace_state
theorem tk_ne {k : IntKind} {fs : List (Nat × Nat × Nat)} (h : TK.int k = TK.struct fs) : False := by cases h
theorem u8s_zeros (n : Nat) : List.replicate n (D.i .u8 (Int.ofNat 0)) = u8s (List.replicate n 0) := by
  unfold u8s; rw [List.map_replicate]; rfl
theorem zeros_in {r : Int} (h : 0 ≤ r ∧ (1 < (3 : Int) → r < 3) ∧ ((3 : Int) ≤ 1 → r = 0)) : IntKind.i64.wrap (199 + r) = 199 + r ∧ 0 ≤ r ∧ r ≤ 2 := by
  have := h.2.1 (by decide)
  rw [wrap_i64_id _ (by omega) (by omega)]; omega
theorem zeros_ok {r : Int} (h : 0 ≤ r ∧ (1 < (3 : Int) → r < 3) ∧ ((3 : Int) ≤ 1 → r = 0)) : IntKind.i64.wrap (199 + r) = IntKind.i64.wrap (199 + r) ∧ 0 ≤ IntKind.i64.wrap (199 + r) ∧ IntKind.i64.wrap (199 + r) * ((1 : Nat) : Int) ≤ 281474976710656 ∧ IntKind.i64.wrap (199 + r) ≤ (maxLen : Int) := by
  have hm : maxLen = 9223372036854775807 := rfl
  obtain ⟨e, h0, h1⟩ := zeros_in h
  rw [e]; omega
theorem zeros_len {r : Int} (h : 0 ≤ r ∧ (1 < (3 : Int) → r < 3) ∧ ((3 : Int) ≤ 1 → r = 0)) : (List.replicate (IntKind.i64.wrap (199 + r)).toNat (0 : UInt8)).length ≤ 300 := by
  obtain ⟨e, h0, h1⟩ := zeros_in h
  rw [e, List.length_replicate]; omega
set_option maxHeartbeats 4000000 in
theorem srcValue {b : List UInt8} {z k m : Int} (hs : SrcOk b z k) : EntQ Try.prog 51 [.ptr 0 0] [.var (srcC b z k m)] (DrawV b z) := by
  cases b
  all_goals
    refine ent_of tok mixed (f := 51) Try.func51 (by kernel_rfl) (keep := false) ?_
    repeat' ((conv => whnf) <;> (first | ((with_reducible refine isCall ?_) <;> (first | (refine ⟨_, srcN (m := m) hs 4 (by decide), ?_⟩; rintro _ _ ⟨r1, k1, m1, rfl, rfl, hs1, hr1⟩) | (refine ⟨_, srcOf (m := m1) hs1 r1, ?_⟩; rintro _ _ ⟨v, k2, m2, rfl, rfl, hs2, hv⟩) | (refine ⟨_, srcOneT (m := m2) hs2 25 (by decide), ?_⟩; rintro _ _ (⟨k3, m3, e3t, rfl, rfl, hs3⟩ | ⟨k3, m3, e3f, rfl, rfl, hs3⟩)) | (refine ⟨_, srcN (m := m3) hs3 4 (by decide), ?_⟩; rintro _ _ ⟨r4, k4, m4, rfl, rfl, hs4, hr4⟩) | (refine ⟨_, srcN (m := m4) hs4 6 (by decide), ?_⟩; rintro _ _ ⟨r5, k5, m5, rfl, rfl, hs5, hr5⟩) | (refine ⟨_, srcN (m := m4) hs4 3 (by decide), ?_⟩; rintro _ _ ⟨r5, k5, m5, rfl, rfl, hs5, hr5⟩) | (refine ⟨_, l02TextE _, ?_⟩; rintro _ _ ⟨rfl, rfl⟩) | (exact ⟨⟨v.kind, v.n, v.text⟩, k3, m3, rfl, rfl, hs3, hv⟩) | (exact ⟨⟨v.kind, 2, v.text⟩, k4, m4, rfl, rfl, hs4, hv⟩) | (exact ⟨⟨v.kind, v.n, [120]⟩, k4, m4, rfl, rfl, hs4, Nat.le_of_ble_eq_true rfl⟩) | (exact ⟨⟨IntKind.i64.wrap (r5 - 1), v.n, v.text⟩, k5, m5, rfl, rfl, hs5, hv⟩) | (exact ⟨⟨3, 0, List.replicate (IntKind.i64.wrap (199 + r5)).toNat 0⟩, k5, m5, rfl, rfl, hs5, zeros_len hr5⟩) | (refine ⟨zeros_ok hr5, ?_⟩) | (refine ⟨_, u8s_zeros _, ?_⟩) | fail)) | ((with_reducible refine isCut ?_) <;> (first | refine ⟨⟨none⟩, ?_⟩)) | ((first | with_reducible refine isEx ?_ | with_reducible refine isAnd ?_ | with_reducible refine isOr ?_) <;> (first | (exact ⟨⟨v.kind, v.n, v.text⟩, k3, m3, rfl, rfl, hs3, hv⟩) | (exact ⟨⟨v.kind, 2, v.text⟩, k4, m4, rfl, rfl, hs4, hv⟩) | (exact ⟨⟨v.kind, v.n, [120]⟩, k4, m4, rfl, rfl, hs4, Nat.le_of_ble_eq_true rfl⟩) | (exact ⟨⟨IntKind.i64.wrap (r5 - 1), v.n, v.text⟩, k5, m5, rfl, rfl, hs5, hv⟩) | (exact ⟨⟨3, 0, List.replicate (IntKind.i64.wrap (199 + r5)).toNat 0⟩, k5, m5, rfl, rfl, hs5, zeros_len hr5⟩) | (refine ⟨zeros_ok hr5, ?_⟩) | (refine ⟨_, u8s_zeros _, ?_⟩) | ((with_reducible refine isSmall ?_) <;> (refine ⟨?_, ?_⟩; kernel_rfl)) | refine ⟨rfl, ?_⟩ | refine ⟨Int.natCast_nonneg _, ?_⟩)) | with_reducible refine Both.mk ?_ ?_ | rintro _ rfl | exact rfl | (exact (tk_ne h).elim) | (split <;> (rename_i h; first | (simp only [beq_self_eq_true, eq_self, decide_true, Bool.not_true, Bool.false_eq_true] at h; done) | (try rw [h])))))
    all_goals try (conv => whnf)
    all_goals trace_state
/-- Rows. -/
def DrawRow (b : List UInt8) (z : Int) (n : Nat) (R : AV) (O : List Ob) : Prop := ∃ (vs : List Val) (k m : Int), R = .d (.sl false (vs.map valD)) ∧ O = [.var (srcC b z k m)] ∧ SrcOk b z k ∧ vs.length ≤ n + 1
inductive RowMid (b : List UInt8) (z : Int) (s : Schema) (st : St) : Prop
  | mk (vs : List Val) (n k m : Int) (h0 : n = (vs.length : Int)) (h1 : vs.length ≤ s.cols.length) (hs : SrcOk b z k)
      (e : st = ⟨[(0, .ptr 0 0), (3, .ptr 10003 0), (5, .own 10008), (6, .d (.i .i64 n))], [(0, .var (srcC b z k m)), (10003, .var (schC s)), (10008, .arr 3 false (vs.map valD))]⟩)
theorem row_push (vs : List Val) (v : Val) : (vs ++ [v]).map valD = vs.map valD ++ [valD v] := by simp
theorem row_lt {s : Schema} {vs : List Val} {n : Int} (h0 : n = (vs.length : Int)) (h : decide (n < ((s.cols.map colD).length : Int)) = true) : vs.length < s.cols.length := by
  have := of_decide_eq_true h
  rw [List.length_map] at this; omega
theorem row_next {s : Schema} {vs : List Val} {n : Int} (hc : s.cols.length ≤ 1000) (h0 : n = (vs.length : Int)) (h : decide (n < ((s.cols.map colD).length : Int)) = true) (v : Val) : IntKind.i64.wrap (n + 1) = (((vs ++ [v]).length : Nat) : Int) ∧ (vs ++ [v]).length ≤ s.cols.length := by
  have := row_lt h0 h
  rw [wrap_i64_id _ (by omega) (by omega), List.length_append, List.length_cons, List.length_nil]
  omega
theorem row_mu {s : Schema} {vs : List Val} {n : Int} (hc : s.cols.length ≤ 1000) (h0 : n = (vs.length : Int)) (h : decide (n < ((s.cols.map colD).length : Int)) = true) : s.cols.length - (IntKind.i64.wrap (n + 1)).toNat < s.cols.length - n.toNat := by
  have := row_lt h0 h
  rw [wrap_i64_id _ (by omega) (by omega)]
  omega
theorem row_get {s : Schema} {vs : List Val} {n : Int} (h0 : n = (vs.length : Int)) (h : decide (n < ((s.cols.map colD).length : Int)) = true) : (0 ≤ n ∧ n < ((s.cols.map colD).length : Int)) ∧ ∃ c, s.cols[n.toNat]? = some c ∧ (s.cols.map colD)[n.toNat]? = some (colD c) := by
  have h1 := row_lt h0 h
  obtain ⟨c, hc⟩ := get_ex (ss := s.cols) (k := n.toNat) (by omega)
  exact ⟨⟨by omega, of_decide_eq_true h⟩, c, hc, get_map' hc⟩
theorem row_room {s : Schema} {vs : List Val} (hc : s.cols.length ≤ 1000) (h1 : vs.length ≤ s.cols.length) : (vs.map valD).length ≤ 1000000 := by rw [List.length_map]; omega
theorem row_max {s : Schema} {vs : List Val} (hc : s.cols.length ≤ 1000) (h1 : vs.length ≤ s.cols.length) : ((vs.map valD).length : Int) ≤ 9223372036854775807 := by rw [List.length_map]; omega
theorem row_in {xs : List D} {r : Int} (h : 0 ≤ r ∧ (1 < (xs.length : Int) → r < (xs.length : Int)) ∧ ((xs.length : Int) ≤ 1 → r = 0)) (h1 : decide ((xs.length : Int) > 0) = true) : 0 ≤ r ∧ r < (xs.length : Int) := drawn_lt h (by have := of_decide_eq_true h1; omega)
theorem row_in2 {xs : List D} {r : Int} (h : 0 ≤ r ∧ (1 < (xs.length : Int) → r < (xs.length : Int)) ∧ ((xs.length : Int) ≤ 1 → r = 0)) (h1 : decide ((xs.length : Int) > 0) = true) : r.toNat < xs.length := by have := row_in h h1; omega
theorem row_set (vs : List Val) (k : Nat) (v : Val) : (vs.map valD).set k (valD v) = (vs.set k v).map valD := List.map_set.symm
theorem row_fin {b : List UInt8} {z k m : Int} {n : Nat} {R : AV} {O : List Ob} {xs : List D} (vs : List Val) (hx : xs = vs.map valD) (hR : R = .d (.sl false xs)) (hO : O = [.var (srcC b z k m)]) (hs : SrcOk b z k) (hl : vs.length ≤ n + 1) : DrawRow b z n R O :=
  ⟨vs, k, m, by rw [hR, hx], hO, hs, hl⟩
theorem row_len1 {vs : List Val} {n : Nat} (h : vs.length ≤ n) : vs.length ≤ n + 1 := by omega
theorem row_len2 {vs : List Val} {n : Nat} (h : vs.length ≤ n) (v : Val) : (vs ++ [v]).length ≤ n + 1 := by rw [List.length_append, List.length_cons, List.length_nil]; omega
theorem row_len3 {vs : List Val} {n : Nat} (h : vs.length ≤ n) (k : Nat) (v : Val) : (vs.set k v).length ≤ n := by rw [List.length_set]; exact h
theorem row_room2 {s : Schema} {vs : List Val} (hc : s.cols.length ≤ 1000) (h1 : vs.length ≤ s.cols.length) (k : Nat) (v : D) : ((vs.map valD).set k v).length ≤ 1000000 := by rw [List.length_set, List.length_map]; omega
set_option maxHeartbeats 8000000 in
theorem srcRow {b : List UInt8} {z k m : Int} (hs : SrcOk b z k) (s : Schema) (hc : s.cols.length ≤ 1000) : EntQ Try.prog 17 [.ptr 0 0, .d (schemaD s)] [.var (srcC b z k m)] (DrawRow b z s.cols.length) := by
  cases b
  all_goals
    refine ent_of tok mixed (f := 17) Try.func17 (by kernel_rfl) (keep := false) ?_
    repeat' ((conv => whnf) <;> (first | ((with_reducible refine isCall ?_) <;> (first | (refine ⟨_, srcOf (m := m1) hs1 c.kind, ?_⟩; rintro _ _ ⟨v, k2, m2, rfl, rfl, hs2, hv⟩) | (refine ⟨_, srcOneT (m := m2) hs2 3 (by decide), ?_⟩; rintro _ _ (⟨k3, m3, e3t, rfl, rfl, hs3⟩ | ⟨k3, m3, e3f, rfl, rfl, hs3⟩)) | (refine ⟨_, srcOneT (m := m1) hs1 20 (by decide), ?_⟩; rintro _ _ (⟨k4, m4, e4t, rfl, rfl, hs4⟩ | ⟨k4, m4, e4f, rfl, rfl, hs4⟩)) | (refine ⟨_, srcN (m := m4) hs4 ((vs.map valD).length : Int) (row_max hc h1), ?_⟩; rintro _ _ ⟨r5, k5, m5, rfl, rfl, hs5, hr5⟩) | (refine ⟨_, srcValue (m := m5) hs5, ?_⟩; rintro _ _ ⟨v6, k6, m6, rfl, rfl, hs6, hv6⟩) | (refine ⟨_, srcOneT (m := m6) hs6 30 (by decide), ?_⟩; rintro _ _ (⟨k7, m7, e7t, rfl, rfl, hs7⟩ | ⟨k7, m7, e7f, rfl, rfl, hs7⟩)) | (refine ⟨_, srcOneT (m := m4) hs4 30 (by decide), ?_⟩; rintro _ _ (⟨k7, m7, e7t, rfl, rfl, hs7⟩ | ⟨k7, m7, e7f, rfl, rfl, hs7⟩)) | (refine ⟨_, srcValue (m := m7) hs7, ?_⟩; rintro _ _ ⟨v8, k8, m8, rfl, rfl, hs8, hv8⟩) | (obtain ⟨_, c, hcc, hcd⟩ := row_get h0 (by assumption); refine ⟨_, hcd, ?_⟩) | (refine ⟨(row_get h0 (by assumption)).1.1, ?_⟩) | (refine ⟨⟨(by decide), rfl, rfl, room_add (row_room hc h1) (by decide)⟩, ?_⟩) | (refine ⟨row_in hr5 (by assumption), ?_⟩) | (refine ⟨⟨row_in2 hr5 (by assumption), rfl⟩, ?_⟩) | (refine ⟨⟨(by decide), rfl, rfl, room_add (row_room2 hc h1 _ _) (by decide)⟩, ?_⟩) | (refine ⟨RowMid.mk (vs ++ [⟨0, 0, []⟩]) (IntKind.i64.wrap (n + 1)) k3 m3 ((fun _ => (row_next hc h0 (by assumption) _).1) e3t) (row_next hc h0 (by assumption) _).2 hs3 ?_, cast ?_ (row_mu hc h0 (by assumption))⟩; rw [row_push]; kernel_rfl; kernel_rfl) | (refine ⟨RowMid.mk (vs ++ [v]) (IntKind.i64.wrap (n + 1)) k3 m3 ((fun _ => (row_next hc h0 (by assumption) _).1) e3f) (row_next hc h0 (by assumption) _).2 hs3 ?_, cast ?_ (row_mu hc h0 (by assumption))⟩; rw [row_push]; kernel_rfl; kernel_rfl) | (refine ⟨RowMid.mk (vs ++ [v]) (IntKind.i64.wrap (n + 1)) k2 m2 (row_next hc h0 (by assumption) _).1 (row_next hc h0 (by assumption) _).2 hs2 ?_, cast ?_ (row_mu hc h0 (by assumption))⟩; rw [row_push]; kernel_rfl; kernel_rfl) | fail)) | ((with_reducible refine isLoop ?_) <;> (first | (refine ⟨[0, 3, 5, 6], [0, 10003, 10008], RowMid _ z s, fun st => match look 6 st.env with | some (.d (.i _ n)) => s.cols.length - n.toNat | _ => 0, ?_, RowMid.mk [] 0 k m rfl (Nat.zero_le _) hs ?_, ?_⟩; kernel_rfl; kernel_rfl; rintro _ ⟨vs, n, k1, m1, h0, h1, hs1, rfl⟩) | (obtain ⟨_, c, hcc, hcd⟩ := row_get h0 (by assumption); refine ⟨_, hcd, ?_⟩) | (refine ⟨(row_get h0 (by assumption)).1.1, ?_⟩) | (refine ⟨⟨(by decide), rfl, rfl, room_add (row_room hc h1) (by decide)⟩, ?_⟩) | (refine ⟨row_in hr5 (by assumption), ?_⟩) | (refine ⟨⟨row_in2 hr5 (by assumption), rfl⟩, ?_⟩) | (refine ⟨⟨(by decide), rfl, rfl, room_add (row_room2 hc h1 _ _) (by decide)⟩, ?_⟩) | (refine ⟨RowMid.mk (vs ++ [⟨0, 0, []⟩]) (IntKind.i64.wrap (n + 1)) k3 m3 ((fun _ => (row_next hc h0 (by assumption) _).1) e3t) (row_next hc h0 (by assumption) _).2 hs3 ?_, cast ?_ (row_mu hc h0 (by assumption))⟩; rw [row_push]; kernel_rfl; kernel_rfl) | (refine ⟨RowMid.mk (vs ++ [v]) (IntKind.i64.wrap (n + 1)) k3 m3 ((fun _ => (row_next hc h0 (by assumption) _).1) e3f) (row_next hc h0 (by assumption) _).2 hs3 ?_, cast ?_ (row_mu hc h0 (by assumption))⟩; rw [row_push]; kernel_rfl; kernel_rfl) | (refine ⟨RowMid.mk (vs ++ [v]) (IntKind.i64.wrap (n + 1)) k2 m2 (row_next hc h0 (by assumption) _).1 (row_next hc h0 (by assumption) _).2 hs2 ?_, cast ?_ (row_mu hc h0 (by assumption))⟩; rw [row_push]; kernel_rfl; kernel_rfl) | fail)) | ((with_reducible refine isCut ?_) <;> (first | refine ⟨⟨none⟩, ?_⟩)) | ((first | with_reducible refine isEx ?_ | with_reducible refine isAnd ?_ | with_reducible refine isOr ?_) <;> (first | (obtain ⟨_, c, hcc, hcd⟩ := row_get h0 (by assumption); refine ⟨_, hcd, ?_⟩) | (refine ⟨(row_get h0 (by assumption)).1.1, ?_⟩) | (refine ⟨⟨(by decide), rfl, rfl, room_add (row_room hc h1) (by decide)⟩, ?_⟩) | (refine ⟨row_in hr5 (by assumption), ?_⟩) | (refine ⟨⟨row_in2 hr5 (by assumption), rfl⟩, ?_⟩) | (refine ⟨⟨(by decide), rfl, rfl, room_add (row_room2 hc h1 _ _) (by decide)⟩, ?_⟩) | (refine ⟨RowMid.mk (vs ++ [⟨0, 0, []⟩]) (IntKind.i64.wrap (n + 1)) k3 m3 ((fun _ => (row_next hc h0 (by assumption) _).1) e3t) (row_next hc h0 (by assumption) _).2 hs3 ?_, cast ?_ (row_mu hc h0 (by assumption))⟩; rw [row_push]; kernel_rfl; kernel_rfl) | (refine ⟨RowMid.mk (vs ++ [v]) (IntKind.i64.wrap (n + 1)) k3 m3 ((fun _ => (row_next hc h0 (by assumption) _).1) e3f) (row_next hc h0 (by assumption) _).2 hs3 ?_, cast ?_ (row_mu hc h0 (by assumption))⟩; rw [row_push]; kernel_rfl; kernel_rfl) | (refine ⟨RowMid.mk (vs ++ [v]) (IntKind.i64.wrap (n + 1)) k2 m2 (row_next hc h0 (by assumption) _).1 (row_next hc h0 (by assumption) _).2 hs2 ?_, cast ?_ (row_mu hc h0 (by assumption))⟩; rw [row_push]; kernel_rfl; kernel_rfl) | ((with_reducible refine isSmall ?_) <;> (refine ⟨?_, ?_⟩; kernel_rfl)) | refine ⟨rfl, ?_⟩ | refine ⟨Int.natCast_nonneg _, ?_⟩)) | with_reducible refine Both.mk ?_ ?_ | rintro _ rfl | exact rfl | (split <;> (rename_i h; first | (simp only [beq_self_eq_true, eq_self, decide_true, Bool.not_true, Bool.false_eq_true] at h; done) | (try rw [h])))))
    all_goals try (conv => whnf)
    all_goals first
      | exact row_fin vs rfl rfl rfl hs7 (row_len1 h1)
      | exact row_fin (vs ++ [v8]) (row_push _ _).symm rfl rfl hs8 (row_len2 h1 _)
      | exact row_fin (vs.set r5.toNat v6) (row_set _ _ _) rfl rfl hs7 (row_len1 (row_len3 h1 _ _))
      | exact row_fin (vs.set r5.toNat v6 ++ [v8]) (by rw [row_push, ← row_set]) rfl rfl hs8 (row_len2 (row_len3 h1 _ _) _)
      | trace_state
end Go.Pm.Try
