/-
Draws from bytes.
-/
import Derived.Test.YtjjnmkhcdbmhoaaCi
namespace Go.Pm.Try
open Go Go.Proofs
set_option linter.unusedVariables false
set_option linter.unusedSimpArgs false
set_option maxRecDepth 100000
/-- A source: its bytes, where it reads, what it mixes, its size. -/
def srcC (b : List UInt8) (z k m : Int) : List AV := [.d (.sl false (u8s b)), .d (.i .i64 k), .d (.i .u64 m), .d (.i .i64 z)]
structure SrcOk (b : List UInt8) (z k : Int) : Prop where
  k0 : 0 ≤ k
  k1 : k ≤ b.length
  len : b.length ≤ 1048576
  z0 : 0 ≤ z
  z1 : z ≤ 12
theorem u8_ex {b : List UInt8} {k : Int} (h0 : 0 ≤ k) (h : decide (k < ((u8s b).length : Int)) = true) : ∃ c : UInt8, (u8s b)[k.toNat]? = some (.i .u8 c.toNat) := by
  have h := of_decide_eq_true h
  unfold u8s at h ⊢
  rw [List.length_map] at h
  obtain ⟨c, hc⟩ := List.getElem?_eq_some_iff.2 ⟨(by omega : k.toNat < b.length), rfl⟩ |> fun h => (⟨_, h⟩ : ∃ c, b[k.toNat]? = some c)
  exact ⟨c, by rw [List.getElem?_map, hc]; rfl⟩
theorem u64_rem (x : Int) {m : Int} (h1 : 1 < m) (h2 : m ≤ 9223372036854775807) : 0 ≤ IntKind.i64.wrap ((IntKind.u64.wrap x).tmod (IntKind.u64.wrap m)) ∧ IntKind.i64.wrap ((IntKind.u64.wrap x).tmod (IntKind.u64.wrap m)) < m := by
  have hx : 0 ≤ IntKind.u64.wrap x := by rw [IntKind.wrap_u64]; omega
  have hm : IntKind.u64.wrap m = m := by rw [IntKind.wrap_u64]; omega
  rw [hm, Int.tmod_eq_emod_of_nonneg hx]
  have a1 := Int.emod_nonneg (IntKind.u64.wrap x) (b := m) (by omega)
  have a2 := Int.emod_lt_of_pos (IntKind.u64.wrap x) (b := m) (by omega)
  rw [wrap_i64_id _ (by omega) (by omega)]
  exact ⟨a1, a2⟩
theorem u64_rem3 (x : Int) {m : Int} (h1 : decide (m ≤ 1) = false) (h2 : m ≤ 9223372036854775807) : 0 ≤ IntKind.i64.wrap ((IntKind.u64.wrap x).tmod (IntKind.u64.wrap m)) ∧ (1 < m → IntKind.i64.wrap ((IntKind.u64.wrap x).tmod (IntKind.u64.wrap m)) < m) ∧ (m ≤ 1 → IntKind.i64.wrap ((IntKind.u64.wrap x).tmod (IntKind.u64.wrap m)) = 0) := by
  have h1 := of_decide_eq_false h1
  obtain ⟨a, b⟩ := u64_rem x (by omega : 1 < m) h2
  exact ⟨a, fun _ => b, fun h => absurd h h1⟩
theorem u64_ne {m : Int} (h1 : decide (m ≤ 1) = false) (h2 : m ≤ 9223372036854775807) : IntKind.u64.wrap m ≠ 0 := by
  have h1 := of_decide_eq_false h1
  rw [IntKind.wrap_u64]; omega
theorem k_up {b : List UInt8} {z k : Int} (hs : SrcOk b z k) (h : decide (k < ((u8s b).length : Int)) = true) : IntKind.i64.wrap (k + 1) = k + 1 ∧ k + 1 ≤ b.length := by
  have h := of_decide_eq_true h
  unfold u8s at h
  rw [List.length_map] at h
  have := hs.len; have := hs.k0
  exact ⟨wrap_i64_id _ (by omega) (by omega), by omega⟩
/-- What a draw leaves: a number below most. -/
def DrawN (b : List UInt8) (z : Int) (most : Int) (R : AV) (O : List Ob) : Prop := ∃ (r k m : Int), R = .d (.i .i64 r) ∧ O = [.var (srcC b z k m)] ∧ SrcOk b z k ∧ 0 ≤ r ∧ (1 < most → r < most) ∧ (most ≤ 1 → r = 0)
/-- The same, asked of the values as they come. -/
def DrawP (b : List UInt8) (z : Int) (most : Int) (R : AV) (O : List Ob) : Prop :=
  match R with
  | .d (.i .i64 r) => match O with
    | [.var [.d (.sl false bs), .d (.i .i64 k), .d (.i .u64 m), .d (.i .i64 z')]] => (bs = u8s b ∧ z' = z) ∧ (0 ≤ k ∧ k ≤ b.length) ∧ (0 ≤ r ∧ (1 < most → r < most) ∧ (most ≤ 1 → r = 0))
    | _ => False
  | _ => False
theorem drawP {b : List UInt8} {z k0 : Int} (hs : SrcOk b z k0) {most : Int} : ∀ {R : AV} {O : List Ob}, DrawP b z most R O → DrawN b z most R O := by
  intro R O h
  unfold DrawP at h
  split at h
  · split at h
    · obtain ⟨⟨rfl, rfl⟩, ⟨h1, h2⟩, h3⟩ := h
      exact ⟨_, _, _, rfl, rfl, ⟨h1, h2, hs.len, hs.z0, hs.z1⟩, h3⟩
    · exact h.elim
  · exact h.elim
theorem entQ_mono {P : Program} {f : FuncId} {args : List AV} {obs : List Ob} {Q Q' : AV → List Ob → Prop} (h : EntQ P f args obs Q) (hq : ∀ {R : AV} {O : List Ob}, Q R O → Q' R O) : EntQ P f args obs Q' :=
  ⟨h.enters, fun X0 J w vs hr hm => (h.calls X0 J w vs hr hm).mono fun e w' ⟨R, O, v, J', hQ, r⟩ => ⟨R, O, v, J', hq hQ, r⟩⟩
set_option maxHeartbeats 2000000 in
theorem srcN {b : List UInt8} {z k m : Int} (hs : SrcOk b z k) (most : Int) (hm : most ≤ 9223372036854775807) : EntQ Try.prog 37 [.ptr 0 0, .d (.i .i64 most)] [.var (srcC b z k m)] (DrawN b z most) := by
  refine entQ_mono (Q := DrawP b z most) ?_ (drawP hs)
  refine ent_of tok mixed (f := 37) Try.func37 (by kernel_rfl) (keep := false) ?_
  repeat' ((conv => whnf) <;> (first | ((with_reducible refine isCall ?_) <;> (first | (refine ⟨(by decide : (0 : Int) ≤ 13), ?_⟩) | (refine ⟨(by decide : (0 : Int) ≤ 7), ?_⟩) | (refine ⟨(by decide : (0 : Int) ≤ 17), ?_⟩) | (refine ⟨(by decide : (0 : Int) ≤ 20), ?_⟩) | (refine ⟨hs.k0, ?_⟩) | (obtain ⟨c, hc⟩ := u8_ex hs.k0 (by assumption); refine ⟨_, hc, ?_⟩) | (refine ⟨u64_ne (by assumption) hm, ?_⟩) | (refine ⟨⟨rfl, rfl⟩, ?_⟩) | (exact ⟨⟨hs.k0, hs.k1⟩, Int.le_refl _, fun h1 => absurd h1 (Int.not_lt.2 (of_decide_eq_true (by assumption))), fun _ => rfl⟩) | (refine ⟨⟨hs.k0, hs.k1⟩, ?_⟩) | (refine ⟨(by have hk := k_up hs (by assumption); have := hs.k0; rw [hk.1]; omega), ?_⟩) | fail)) | ((with_reducible refine isCut ?_) <;> (first | refine ⟨⟨none⟩, ?_⟩)) | ((first | with_reducible refine isEx ?_ | with_reducible refine isAnd ?_ | with_reducible refine isOr ?_) <;> (first | (refine ⟨(by decide : (0 : Int) ≤ 13), ?_⟩) | (refine ⟨(by decide : (0 : Int) ≤ 7), ?_⟩) | (refine ⟨(by decide : (0 : Int) ≤ 17), ?_⟩) | (refine ⟨(by decide : (0 : Int) ≤ 20), ?_⟩) | (refine ⟨hs.k0, ?_⟩) | (obtain ⟨c, hc⟩ := u8_ex hs.k0 (by assumption); refine ⟨_, hc, ?_⟩) | (refine ⟨u64_ne (by assumption) hm, ?_⟩) | (refine ⟨⟨rfl, rfl⟩, ?_⟩) | (exact ⟨⟨hs.k0, hs.k1⟩, Int.le_refl _, fun h1 => absurd h1 (Int.not_lt.2 (of_decide_eq_true (by assumption))), fun _ => rfl⟩) | (refine ⟨⟨hs.k0, hs.k1⟩, ?_⟩) | (refine ⟨(by have hk := k_up hs (by assumption); have := hs.k0; rw [hk.1]; omega), ?_⟩) | ((with_reducible refine isSmall ?_) <;> (refine ⟨?_, ?_⟩; kernel_rfl)) | refine ⟨rfl, ?_⟩ | refine ⟨Int.natCast_nonneg _, ?_⟩)) | with_reducible refine Both.mk ?_ ?_ | rintro _ rfl | exact rfl | (split <;> (rename_i h; first | (simp only [beq_self_eq_true, eq_self, decide_true, Bool.not_true, Bool.false_eq_true] at h; done) | (try rw [h])))))
  all_goals exact u64_rem3 _ (by assumption) hm
end Go.Pm.Try
/-
Draws from bytes: the source, texts and numbers that are picked, texts that are spoilt.
-/
namespace Go.Pm.Try
open Go Go.Proofs
set_option linter.unusedVariables false
set_option linter.unusedSimpArgs false
set_option maxRecDepth 100000
def DrawB (b : List UInt8) (z : Int) (R : AV) (O : List Ob) : Prop := ∃ (r : Bool) (k m : Int), R = .d (.b r) ∧ O = [.var (srcC b z k m)] ∧ SrcOk b z k
theorem srcOne {b : List UInt8} {z k m : Int} (hs : SrcOk b z k) (most : Int) (hm : most ≤ 9223372036854775807) : EntQ Try.prog 48 [.ptr 0 0, .d (.i .i64 most)] [.var (srcC b z k m)] (DrawB b z) := by
  refine ent_of tok mixed (f := 48) Try.func48 (by kernel_rfl) (keep := false) ?_
  repeat' ((conv => whnf) <;> (first | ((with_reducible refine isCall ?_) <;> (first | (refine ⟨_, srcN (m := m) hs most hm, ?_⟩; rintro _ _ ⟨r, k', m', rfl, rfl, hs', hr⟩) | exact ⟨_, k', m', rfl, rfl, hs'⟩ | fail)) | ((with_reducible refine isCut ?_) <;> (first | refine ⟨⟨none⟩, ?_⟩)) | ((first | with_reducible refine isEx ?_ | with_reducible refine isAnd ?_ | with_reducible refine isOr ?_) <;> (first | exact ⟨_, k', m', rfl, rfl, hs'⟩ | ((with_reducible refine isSmall ?_) <;> (refine ⟨?_, ?_⟩; kernel_rfl)) | refine ⟨rfl, ?_⟩ | refine ⟨Int.natCast_nonneg _, ?_⟩)) | with_reducible refine Both.mk ?_ ?_ | rintro _ rfl | exact rfl | (split <;> (rename_i h; first | (simp only [beq_self_eq_true, eq_self, decide_true, Bool.not_true, Bool.false_eq_true] at h; done) | (try rw [h])))))
  all_goals trace_state
/-- Whole numbers of 64 bits. -/
structure I64d (n : Int) : Prop where
  lo : -9223372036854775808 ≤ n
  hi : n ≤ 9223372036854775807
def intsB : List D → Bool
  | [] => true
  | .i .i64 v :: r => match decide (-9223372036854775808 ≤ v) && decide (v ≤ 9223372036854775807) with | true => intsB r | false => false
  | _ => false
theorem intsB_get : ∀ {xs : List D} {k : Nat}, intsB xs = true → k < xs.length → ∃ v, xs[k]? = some (.i .i64 v) ∧ I64d v
  | [], k, _, hk => by simp at hk
  | .i .i64 v :: r, k, h, hk => by
    simp only [intsB] at h
    split at h
    · rename_i hv
      rw [Bool.and_eq_true, decide_eq_true_eq, decide_eq_true_eq] at hv
      cases k with
      | zero => exact ⟨v, rfl, hv.1, hv.2⟩
      | succ k => exact intsB_get (xs := r) (k := k) h (by simpa using hk)
    · cases h
theorem drawn_lt {r most : Int} (h : 0 ≤ r ∧ (1 < most → r < most) ∧ (most ≤ 1 → r = 0)) (h1 : 1 ≤ most) : 0 ≤ r ∧ r < most := by
  obtain ⟨h0, h2, h3⟩ := h
  by_cases e : most ≤ 1
  · have := h3 e; omega
  · have := h2 (by omega); omega
def DrawI (b : List UInt8) (z : Int) (R : AV) (O : List Ob) : Prop := ∃ (r k m : Int), R = .d (.i .i64 r) ∧ O = [.var (srcC b z k m)] ∧ SrcOk b z k ∧ I64d r
def edges : List D := [.i .i64 0, .i .i64 1, .i .i64 (-1), .i .i64 2, .i .i64 1000, .i .i64 1001, .i .i64 2147483648, .i .i64 2147483647, .i .i64 (-2147483648), .i .i64 4611686018427387904, .i .i64 9223372036854775807, .i .i64 (-9223372036854775808), .i .i64 1000000, .i .i64 1000001]
theorem edge_get {r : Int} (h : 0 ≤ r ∧ (1 < (14 : Int) → r < 14) ∧ ((14 : Int) ≤ 1 → r = 0)) : ∃ v, edges[r.toNat]? = some (.i .i64 v) ∧ I64d v :=
  intsB_get (by decide) (by have := drawn_lt h (by decide); show r.toNat < 14; omega)
theorem srcEdge {b : List UInt8} {z k m : Int} (hs : SrcOk b z k) : EntQ Try.prog 75 [.ptr 0 0] [.var (srcC b z k m)] (DrawI b z) := by
  refine ent_of tok mixed (f := 75) Try.func75 (by kernel_rfl) (keep := false) ?_
  repeat' ((conv => whnf) <;> (first | ((with_reducible refine isCall ?_) <;> (first | (refine ⟨_, srcN (m := m) hs 14 (by decide), ?_⟩; rintro _ _ ⟨r, k', m', rfl, rfl, hs', hr⟩) | (refine ⟨⟨hr.1, (drawn_lt hr (by decide)).2⟩, ?_⟩) | (obtain ⟨v, hv, hv2⟩ := edge_get hr; refine ⟨_, hv, ?_⟩) | exact ⟨_, k', m', rfl, rfl, hs', hv2⟩ | fail)) | ((with_reducible refine isCut ?_) <;> (first | refine ⟨⟨none⟩, ?_⟩)) | ((first | with_reducible refine isEx ?_ | with_reducible refine isAnd ?_ | with_reducible refine isOr ?_) <;> (first | (refine ⟨⟨hr.1, (drawn_lt hr (by decide)).2⟩, ?_⟩) | (obtain ⟨v, hv, hv2⟩ := edge_get hr; refine ⟨_, hv, ?_⟩) | exact ⟨_, k', m', rfl, rfl, hs', hv2⟩ | ((with_reducible refine isSmall ?_) <;> (refine ⟨?_, ?_⟩; kernel_rfl)) | refine ⟨rfl, ?_⟩ | refine ⟨Int.natCast_nonneg _, ?_⟩)) | with_reducible refine Both.mk ?_ ?_ | rintro _ rfl | exact rfl | (split <;> (rename_i h; first | (simp only [beq_self_eq_true, eq_self, decide_true, Bool.not_true, Bool.false_eq_true] at h; done) | (try rw [h])))))
  all_goals trace_state
/-- Texts. -/
def textsB (n : Nat) : List D → Bool
  | [] => true
  | .s t :: r => match Nat.ble t.length n with | true => textsB n r | false => false
  | _ => false
theorem textsB_get {n : Nat} : ∀ {xs : List D} {k : Nat}, textsB n xs = true → k < xs.length → ∃ t, xs[k]? = some (.s t) ∧ t.length ≤ n
  | [], k, _, hk => by simp at hk
  | .s t :: r, k, h, hk => by
    simp only [textsB] at h
    split at h
    · rename_i hv
      cases k with
      | zero => exact ⟨t, rfl, Nat.le_of_ble_eq_true hv⟩
      | succ k => exact textsB_get (xs := r) (k := k) h (by simpa using hk)
    · cases h
def DrawS (b : List UInt8) (z : Int) (n : Nat) (R : AV) (O : List Ob) : Prop := ∃ (t : List UInt8) (k m : Int), R = .d (.s t) ∧ O = [.var (srcC b z k m)] ∧ SrcOk b z k ∧ t.length ≤ n
theorem srcPick {b : List UInt8} {z k m : Int} (hs : SrcOk b z k) (xs : List D) (n : Nat) (hx : textsB n xs = true) (h1 : 1 ≤ xs.length) (h2 : xs.length ≤ 1000) : EntQ Try.prog 47 [.ptr 0 0, .d (.sl false xs)] [.var (srcC b z k m)] (DrawS b z n) := by
  refine ent_of tok mixed (f := 47) Try.func47 (by kernel_rfl) (keep := false) ?_
  repeat' ((conv => whnf) <;> (first | ((with_reducible refine isCall ?_) <;> (first | (refine ⟨_, srcN (m := m) hs (xs.length : Int) (by omega), ?_⟩; rintro _ _ ⟨r, k', m', rfl, rfl, hs', hr⟩) | (refine ⟨hr.1, ?_⟩) | (obtain ⟨v, hv, hv2⟩ := textsB_get (xs := xs) (k := r.toNat) hx (by have := drawn_lt hr (by omega); omega); refine ⟨_, hv, ?_⟩) | exact ⟨_, k', m', rfl, rfl, hs', hv2⟩ | fail)) | ((with_reducible refine isCut ?_) <;> (first | refine ⟨⟨none⟩, ?_⟩)) | ((first | with_reducible refine isEx ?_ | with_reducible refine isAnd ?_ | with_reducible refine isOr ?_) <;> (first | (refine ⟨hr.1, ?_⟩) | (obtain ⟨v, hv, hv2⟩ := textsB_get (xs := xs) (k := r.toNat) hx (by have := drawn_lt hr (by omega); omega); refine ⟨_, hv, ?_⟩) | exact ⟨_, k', m', rfl, rfl, hs', hv2⟩ | ((with_reducible refine isSmall ?_) <;> (refine ⟨?_, ?_⟩; kernel_rfl)) | refine ⟨rfl, ?_⟩ | refine ⟨Int.natCast_nonneg _, ?_⟩)) | with_reducible refine Both.mk ?_ ?_ | rintro _ rfl | exact rfl | (split <;> (rename_i h; first | (simp only [beq_self_eq_true, eq_self, decide_true, Bool.not_true, Bool.false_eq_true] at h; done) | (try rw [h])))))
  all_goals trace_state
end Go.Pm.Try
/-
Draws from bytes: the source; texts that are spoilt.
-/
namespace Go.Pm.Try
open Go Go.Proofs
set_option linter.unusedVariables false
set_option linter.unusedSimpArgs false
set_option maxRecDepth 100000
/-- What a new source is. -/
def FreshS (code : List UInt8) (R : AV) (O : List Ob) : Prop := ∃ z m : Int, R = .ptr 0 0 ∧ O = [.var (srcC code z 0 m)] ∧ SrcOk code z 0
theorem code_step {k : Nat} (hk : (k : Int) < 64) : IntKind.i64.wrap ((k : Int) + 1) = ((k + 1 : Nat) : Int) := by
  rw [wrap_i64_id _ (by omega) (by omega)]; omega
theorem u8_nat {b : List UInt8} {k : Nat} (h : decide ((k : Int) < ((u8s b).length : Int)) = true) : ∃ c : UInt8, (u8s b)[((k : Int)).toNat]? = some (.i .u8 c.toNat) := u8_ex (Int.natCast_nonneg _) h
theorem size_fine {code : List UInt8} {n : Int} (hc : code.length ≤ 1048576) (hn : n = IntKind.i64.wrap ((((u8s code).length : Nat) : Int).tdiv 20)) (h : decide (n > 12) = false) : 0 ≤ n ∧ n ≤ 12 := by
  have h := of_decide_eq_false h
  unfold u8s at hn
  rw [List.length_map] at hn
  rw [Int.tdiv_eq_ediv_of_nonneg (by omega), wrap_i64_id _ (by omega) (by omega)] at hn
  omega
theorem code_mu {k : Nat} (h : decide ((k : Int) < 64) = true) : 64 - (IntKind.i64.wrap ((k : Int) + 1)).toNat < 64 - ((k : Int)).toNat := by
  have h := of_decide_eq_true h
  rw [code_step h]; omega
set_option maxHeartbeats 1000000 in
theorem srcSource (code : List UInt8) (hc : code.length ≤ 1048576) : EntQ Try.prog 15 [.d (.sl false (u8s code))] [] (FreshS code) := by
  refine ent_of (cx := ⟨tab, [], []⟩) tok mixed (f := 15) Try.func15 (by kernel_rfl) (keep := true) ?_
  repeat' ((conv => whnf) <;> (first | ((with_reducible refine isCall ?_) <;> (first | (obtain ⟨c, hcc⟩ := u8_nat (by assumption); refine ⟨_, hcc, ?_⟩) | (refine ⟨(by decide : (20 : Int) ≠ 0), ?_⟩) | fail)) | ((with_reducible refine isLoop ?_) <;> (first | (refine ⟨[0, 3, 4], [10007], fun st => ∃ (k : Nat) (n mix : Int), n = k ∧ k ≤ 64 ∧ st = ⟨[(0, .d (.sl false (u8s code))), (3, .ptr 10007 0), (4, .d (.i .i64 n))], [(10007, .var [.d (.sl false (u8s code)), .d (.i .i64 0), .d (.i .u64 mix), .d (.i .i64 0)])]⟩, fun st => match look 4 st.env with | some (.d (.i _ n)) => 64 - n.toNat | _ => 0, rfl, ⟨0, _, _, rfl, by decide, rfl⟩, ?_⟩; rintro st ⟨k, n, mix, rfl, hk, rfl⟩) | (obtain ⟨c, hcc⟩ := u8_nat (by assumption); refine ⟨_, hcc, ?_⟩) | (refine ⟨(by decide : (20 : Int) ≠ 0), ?_⟩) | fail)) | ((with_reducible refine isCut ?_) <;> (first | refine ⟨⟨none⟩, ?_⟩)) | ((first | with_reducible refine isEx ?_ | with_reducible refine isAnd ?_ | with_reducible refine isOr ?_) <;> (first | (obtain ⟨c, hcc⟩ := u8_nat (by assumption); refine ⟨_, hcc, ?_⟩) | (refine ⟨(by decide : (20 : Int) ≠ 0), ?_⟩) | ((with_reducible refine isSmall ?_) <;> (refine ⟨?_, ?_⟩; kernel_rfl)) | refine ⟨rfl, ?_⟩ | refine ⟨Int.natCast_nonneg _, ?_⟩)) | with_reducible refine Both.mk ?_ ?_ | rintro _ rfl | exact rfl | (split <;> (rename_i h; first | (simp only [beq_self_eq_true, eq_self, decide_true, Bool.not_true, Bool.false_eq_true] at h; done) | (try rw [h])))))
  all_goals (conv => whnf)
  all_goals first
    | exact ⟨⟨k + 1, _, _, code_step (of_decide_eq_true (by assumption)), by have := of_decide_eq_true (by assumption : decide ((k : Int) < 64) = true); omega, rfl⟩, code_mu (by assumption)⟩
    | (refine ⟨_, mix, rfl, rfl, ⟨Int.le_refl _, Int.natCast_nonneg _, hc, ?_, ?_⟩⟩ <;> first | exact (by decide : (0 : Int) ≤ 12) | exact (by decide : (12 : Int) ≤ 12) | exact (size_fine hc rfl (by assumption)).1 | exact (size_fine hc rfl (by assumption)).2)
    | trace_state
/-! A text is spoilt. -/
theorem wrap_le (x : Int) : IntKind.i64.wrap x ≤ 9223372036854775807 := by rw [IntKind.wrap_i64]; omega
theorem spoil_len {t : List UInt8} (c : UInt8) (a b n : Nat) : ((List.drop 0 (List.take a t) ++ [c]) ++ List.drop b (List.take n t)).length ≤ 2 * t.length + 1 := by
  simp only [List.length_append, List.length_take, List.length_drop, List.length_cons, List.length_nil]; omega
theorem spoil_len2 {t : List UInt8} (a b n : Nat) : (List.drop 0 (List.take a t) ++ List.drop b (List.take n t)).length ≤ 2 * t.length + 1 := by
  simp only [List.length_append, List.length_take, List.length_drop]; omega
theorem u8s_one (c : UInt8) : [D.i .u8 (c.toNat : Int)] = u8s [c] := rfl
theorem cut_le {t : List UInt8} (ht : t.length ≤ 1048576) {r : Int} (h : 0 ≤ r ∧ (1 < IntKind.i64.wrap ((t.length : Int) + 1) → r < IntKind.i64.wrap ((t.length : Int) + 1)) ∧ (IntKind.i64.wrap ((t.length : Int) + 1) ≤ 1 → r = 0)) : 0 ≤ r ∧ r ≤ t.length := by
  rw [wrap_i64_id _ (by omega) (by omega)] at h
  have := drawn_lt h (by omega)
  omega
theorem cut_up {t : List UInt8} (ht : t.length ≤ 1048576) {r : Int} (h : 0 ≤ r ∧ (1 < IntKind.i64.wrap ((t.length : Int) + 1) → r < IntKind.i64.wrap ((t.length : Int) + 1)) ∧ (IntKind.i64.wrap ((t.length : Int) + 1) ≤ 1 → r = 0)) (hne : decide (r = (t.length : Int)) = false) : 0 ≤ IntKind.i64.wrap (r + 1) ∧ IntKind.i64.wrap (r + 1) ≤ t.length := by
  have h2 := cut_le ht h
  have hne := of_decide_eq_false hne
  rw [wrap_i64_id _ (by omega) (by omega)]
  omega
set_option maxHeartbeats 1000000 in
theorem srcSpoil {b : List UInt8} {z k m : Int} (hs : SrcOk b z k) (t : List UInt8) (ht : t.length ≤ 1048576) : EntQ Try.prog 38 [.ptr 0 0, .d (.s t)] [.var (srcC b z k m)] (DrawS b z (2 * t.length + 1)) := by
  refine ent_of tok mixed (f := 38) Try.func38 (by kernel_rfl) (keep := false) ?_
  repeat' ((conv => whnf) <;> (first | ((with_reducible refine isCall ?_) <;> (first | (refine ⟨_, srcN (m := m) hs ((IntKind.i64.wrap ((t.length : Int) + 1))) (wrap_le _), ?_⟩; rintro _ _ ⟨r, k1, m1, rfl, rfl, hs1, hr⟩) | (refine ⟨_, srcN (m := m1) hs1 17 (by decide), ?_⟩; rintro _ _ ⟨r2, k2, m2, rfl, rfl, hs2, hr2⟩) | (refine ⟨_, srcOne (m := m2) hs2 3 (by decide), ?_⟩; rintro _ _ ⟨b3, k3, m3, rfl, rfl, hs3⟩) | (refine ⟨_, srcOne (m := m3) hs3 2 (by decide), ?_⟩; rintro _ _ ⟨b4, k4, m4, rfl, rfl, hs4⟩) | (refine ⟨_, srcOne (m := m2) hs2 2 (by decide), ?_⟩; rintro _ _ ⟨b5, k5, m5, rfl, rfl, hs5⟩) | exact ⟨_, k2, m2, rfl, rfl, hs2, spoil_len _ _ _ _⟩ | exact ⟨_, k3, m3, rfl, rfl, hs3, spoil_len _ _ _ _⟩ | exact ⟨_, k4, m4, rfl, rfl, hs4, spoil_len2 _ _ _⟩ | exact ⟨_, k4, m4, rfl, rfl, hs4, spoil_len _ _ _ _⟩ | (refine ⟨⟨hr2.1, (drawn_lt hr2 (by decide)).2⟩, ?_⟩) | (refine ⟨_, u8s_one _, ?_⟩) | (refine ⟨cut_le ht hr, ?_⟩) | (refine ⟨cut_up ht hr (by assumption), ?_⟩) | (refine ⟨(by (try simp only [List.length_append, List.length_take, List.length_drop, List.length_cons, List.length_nil]); omega), ?_⟩) | fail)) | ((with_reducible refine isCut ?_) <;> (first | refine ⟨⟨none⟩, ?_⟩)) | ((first | with_reducible refine isEx ?_ | with_reducible refine isAnd ?_ | with_reducible refine isOr ?_) <;> (first | exact ⟨_, k2, m2, rfl, rfl, hs2, spoil_len _ _ _ _⟩ | exact ⟨_, k3, m3, rfl, rfl, hs3, spoil_len _ _ _ _⟩ | exact ⟨_, k4, m4, rfl, rfl, hs4, spoil_len2 _ _ _⟩ | exact ⟨_, k4, m4, rfl, rfl, hs4, spoil_len _ _ _ _⟩ | (refine ⟨⟨hr2.1, (drawn_lt hr2 (by decide)).2⟩, ?_⟩) | (refine ⟨_, u8s_one _, ?_⟩) | (refine ⟨cut_le ht hr, ?_⟩) | (refine ⟨cut_up ht hr (by assumption), ?_⟩) | (refine ⟨(by (try simp only [List.length_append, List.length_take, List.length_drop, List.length_cons, List.length_nil]); omega), ?_⟩) | ((with_reducible refine isSmall ?_) <;> (refine ⟨?_, ?_⟩; kernel_rfl)) | refine ⟨rfl, ?_⟩ | refine ⟨Int.natCast_nonneg _, ?_⟩)) | with_reducible refine Both.mk ?_ ?_ | rintro _ rfl | exact rfl | (split <;> (rename_i h; first | (simp only [beq_self_eq_true, eq_self, decide_true, Bool.not_true, Bool.false_eq_true] at h; done) | (try rw [h])))))
  all_goals (conv => whnf)
  all_goals (with_reducible trace_state)
theorem take_len {t : List UInt8} (a : Nat) : (List.drop 0 (List.take a t)).length ≤ 2 * t.length + 1 := by
  simp only [List.length_take, List.length_drop]; omega
end Go.Pm.Try
/-
Bytes that are handed in.
-/
namespace Go.Pm.Try
open Go Go.Proofs
theorem byte_of {y : D} (h : ∃ n, y = D.i IntKind.u8 n ∧ IntKind.u8.min ≤ n ∧ n ≤ IntKind.u8.max) : ∃ c : UInt8, y = .i .u8 c.toNat := by
  obtain ⟨n, rfl, h1, h2⟩ := h
  have h1 : 0 ≤ n := h1
  have h2 : n ≤ 255 := h2
  refine ⟨UInt8.ofNat n.toNat, ?_⟩
  rw [UInt8.toNat_ofNat', Nat.mod_eq_of_lt (by omega : n.toNat < 2 ^ 8), Int.toNat_of_nonneg h1]
theorem bytes_all : ∀ {xs : List D}, (∀ y, y ∈ xs → ∃ n, y = D.i IntKind.u8 n ∧ IntKind.u8.min ≤ n ∧ n ≤ IntKind.u8.max) → ∃ l : List UInt8, xs = u8s l
  | [], _ => ⟨[], rfl⟩
  | x :: xs, h => by
    obtain ⟨c, rfl⟩ := byte_of (h x (List.mem_cons_self ..))
    obtain ⟨l, rfl⟩ := bytes_all (xs := xs) (fun y hy => h y (List.mem_cons_of_mem _ hy))
    exact ⟨c :: l, rfl⟩
theorem bytes_of {y : D} (h : (Sh.sl (.int .u8)).of y) : ∃ l : List UInt8, y = .sl false (u8s l) := by
  simp only [Sh.of] at h
  obtain ⟨xs, rfl, h1, _⟩ := h
  obtain ⟨l, rfl⟩ := bytes_all h1
  exact ⟨l, rfl⟩
end Go.Pm.Try
