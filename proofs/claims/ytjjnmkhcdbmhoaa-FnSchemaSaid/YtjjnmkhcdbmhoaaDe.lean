/-
Draws from bytes: lists of numbers, schemas.
-/
import Derived.Test.YtjjnmkhcdbmhoaaDq
import Derived.Test.YtjjnmkhcdbmhoaaCl
namespace Go.Pm.Try
open Go Go.Proofs
set_option linter.unusedVariables false
set_option linter.unusedSimpArgs false
set_option maxRecDepth 100000
theorem wrap_in (x : Int) : I64d (IntKind.i64.wrap x) := by
  constructor <;> (rw [IntKind.wrap_i64]; omega)
theorem srcBetween {b : List UInt8} {z k m : Int} (hs : SrcOk b z k) (lo hi : Int) : EntQ Try.prog 73 [.ptr 0 0, .d (.i .i64 lo), .d (.i .i64 hi)] [.var (srcC b z k m)] (DrawI b z) := by
  refine ent_of tok mixed (f := 73) Try.func73 (by kernel_rfl) (keep := false) ?_
  repeat' ((conv => whnf) <;> (first | ((with_reducible refine isCall ?_) <;> (first | (refine ⟨_, srcN (m := m) hs (IntKind.i64.wrap (IntKind.i64.wrap (hi - lo) + 1)) (wrap_le _), ?_⟩; rintro _ _ ⟨r, k', m', rfl, rfl, hs', hr⟩) | exact ⟨_, k', m', rfl, rfl, hs', wrap_in _⟩ | fail)) | ((with_reducible refine isCut ?_) <;> (first | refine ⟨⟨none⟩, ?_⟩)) | ((first | with_reducible refine isEx ?_ | with_reducible refine isAnd ?_ | with_reducible refine isOr ?_) <;> (first | exact ⟨_, k', m', rfl, rfl, hs', wrap_in _⟩ | ((with_reducible refine isSmall ?_) <;> (refine ⟨?_, ?_⟩; kernel_rfl)) | refine ⟨rfl, ?_⟩ | refine ⟨Int.natCast_nonneg _, ?_⟩)) | with_reducible refine Both.mk ?_ ?_ | rintro _ rfl | exact rfl | (split <;> (rename_i h; first | (simp only [beq_self_eq_true, eq_self, decide_true, Bool.not_true, Bool.false_eq_true] at h; done) | (try rw [h])))))
  all_goals trace_state
/-- The two answers told apart. -/
def DrawT (b : List UInt8) (z : Int) (R : AV) (O : List Ob) : Prop := (∃ k m : Int, True ∧ R = .d (.b true) ∧ O = [.var (srcC b z k m)] ∧ SrcOk b z k) ∨ ∃ k m : Int, True ∧ R = .d (.b false) ∧ O = [.var (srcC b z k m)] ∧ SrcOk b z k
theorem srcOneT {b : List UInt8} {z k m : Int} (hs : SrcOk b z k) (most : Int) (hm : most ≤ 9223372036854775807) : EntQ Try.prog 48 [.ptr 0 0, .d (.i .i64 most)] [.var (srcC b z k m)] (DrawT b z) :=
  entQ_mono (srcOne hs most hm) fun ⟨r, k, m, h1, h2, h3⟩ => by
    cases r
    · exact .inr ⟨k, m, trivial, h1, h2, h3⟩
    · exact .inl ⟨k, m, trivial, h1, h2, h3⟩
/-- Lists of numbers. -/
def DrawL (b : List UInt8) (z : Int) (n : Nat) (R : AV) (O : List Ob) : Prop := ∃ (l : List Int) (k m : Int), R = .own 1 ∧ O = [.var (srcC b z k m), .arr 1 false (l.map i64D)] ∧ SrcOk b z k ∧ l.length ≤ n ∧ ∀ x, x ∈ l → I64d x
theorem ints_push (l : List Int) (v : Int) : l.map i64D ++ [D.i .i64 v] = (l ++ [v]).map i64D := by rw [List.map_append]; rfl
theorem list_all {l : List Int} {v : Int} (h : ∀ x, x ∈ l → I64d x) (hv : I64d v) : ∀ x, x ∈ l ++ [v] → I64d x := by
  intro x hx
  rcases List.mem_append.1 hx with hx | hx
  · exact h x hx
  · rw [List.mem_singleton.1 hx]; exact hv
inductive ListMid (b : List UInt8) (z n lo hi : Int) (st : St) : Prop
  | mk (l : List Int) (j k m : Int) (h0 : j = n - (l.length : Int)) (h1 : 0 ≤ j) (hl : ∀ x, x ∈ l → I64d x) (hs : SrcOk b z k)
      (e : st = ⟨[(0, .ptr 0 0), (1, .d (.i .i64 j)), (2, .d (.i .i64 lo)), (3, .d (.i .i64 hi)), (9, .own 10010)], [(0, .var (srcC b z k m)), (10010, .arr 1 false (l.map i64D))]⟩)
theorem list_next {l : List Int} {j n : Int} (h : decide (j > 0) = true) (h0 : j = n - (l.length : Int)) (hn : n ≤ 1000) (v : Int) : IntKind.i64.wrap (j - 1) = n - (((l ++ [v]).length : Nat) : Int) ∧ 0 ≤ IntKind.i64.wrap (j - 1) := by
  have h := of_decide_eq_true h
  rw [wrap_i64_id _ (by omega) (by omega), List.length_append, List.length_cons, List.length_nil]
  omega
theorem list_mu {l : List Int} {j n : Int} (h : decide (j > 0) = true) (h0 : j = n - (l.length : Int)) (hn : n ≤ 1000) : (IntKind.i64.wrap (j - 1)).toNat < j.toNat := by
  have h := of_decide_eq_true h
  rw [wrap_i64_id _ (by omega) (by omega)]; omega
theorem list_roomD {l : List Int} {j n : Int} (h : decide (j > 0) = true) (h0 : j = n - (l.length : Int)) (hn : n ≤ 1000) : (l.map i64D).length ≤ 1000000 := by
  have h := of_decide_eq_true h
  rw [List.length_map]; omega
theorem list_done {l : List Int} {j n : Int} (h : decide (j > 0) = false) (h0 : j = n - (l.length : Int)) (h1 : 0 ≤ j) : l.length ≤ n.toNat := by
  have h := of_decide_eq_false h; omega
set_option maxHeartbeats 4000000 in
theorem srcList {b : List UInt8} {z k m : Int} (hs : SrcOk b z k) (n lo hi : Int) (hn : n ≤ 1000) (h0 : 0 ≤ n) : EntQ Try.prog 49 [.ptr 0 0, .d (.i .i64 n), .d (.i .i64 lo), .d (.i .i64 hi)] [.var (srcC b z k m)] (DrawL b z n.toNat) := by
  refine ent_of (cx := ⟨tab, [], []⟩) tok mixed (f := 49) Try.func49 (by kernel_rfl) (keep := true) ?_
  repeat' ((conv => whnf) <;> (first | ((with_reducible refine isCall ?_) <;> (first | (refine ⟨_, srcBetween (m := m3) hs3 lo hi, ?_⟩; rintro _ _ ⟨v, k4, m4, rfl, rfl, hs4, hv⟩) | (refine ⟨⟨(by decide), rfl, rfl, room_add (list_roomD (by assumption) e0 hn) (by decide)⟩, ?_⟩) | (refine ⟨ListMid.mk (l ++ [v]) (IntKind.i64.wrap (j - 1)) k4 m4 (list_next (by assumption) e0 hn v).1 (list_next (by assumption) e0 hn v).2 (list_all hl hv) hs4 ?_, cast ?_ (list_mu (by assumption) e0 hn)⟩; rw [← ints_push]; kernel_rfl; kernel_rfl) | fail)) | ((with_reducible refine isLoop ?_) <;> (first | (refine ⟨[0, 1, 2, 3, 9], [0, 10010], ListMid b z n lo hi, fun st => match look 1 st.env with | some (.d (.i _ n)) => n.toNat | _ => 0, ?_, ListMid.mk [] n k m (by simp) h0 (by simp) hs ?_, ?_⟩; kernel_rfl; kernel_rfl; rintro _ ⟨l, j, k3, m3, e0, e1, hl, hs3, rfl⟩) | (refine ⟨⟨(by decide), rfl, rfl, room_add (list_roomD (by assumption) e0 hn) (by decide)⟩, ?_⟩) | (refine ⟨ListMid.mk (l ++ [v]) (IntKind.i64.wrap (j - 1)) k4 m4 (list_next (by assumption) e0 hn v).1 (list_next (by assumption) e0 hn v).2 (list_all hl hv) hs4 ?_, cast ?_ (list_mu (by assumption) e0 hn)⟩; rw [← ints_push]; kernel_rfl; kernel_rfl) | fail)) | ((with_reducible refine isCut ?_) <;> (first | refine ⟨⟨none⟩, ?_⟩)) | ((first | with_reducible refine isEx ?_ | with_reducible refine isAnd ?_ | with_reducible refine isOr ?_) <;> (first | (refine ⟨⟨(by decide), rfl, rfl, room_add (list_roomD (by assumption) e0 hn) (by decide)⟩, ?_⟩) | (refine ⟨ListMid.mk (l ++ [v]) (IntKind.i64.wrap (j - 1)) k4 m4 (list_next (by assumption) e0 hn v).1 (list_next (by assumption) e0 hn v).2 (list_all hl hv) hs4 ?_, cast ?_ (list_mu (by assumption) e0 hn)⟩; rw [← ints_push]; kernel_rfl; kernel_rfl) | ((with_reducible refine isSmall ?_) <;> (refine ⟨?_, ?_⟩; kernel_rfl)) | refine ⟨rfl, ?_⟩ | refine ⟨Int.natCast_nonneg _, ?_⟩)) | with_reducible refine Both.mk ?_ ?_ | rintro _ rfl | exact rfl | (split <;> (rename_i h; first | (simp only [beq_self_eq_true, eq_self, decide_true, Bool.not_true, Bool.false_eq_true] at h; done) | (try rw [h])))))
  all_goals (conv => whnf)
  all_goals first
    | exact ⟨l, k3, m3, rfl, rfl, hs3, list_done (by assumption) e0 e1, hl⟩
    | trace_state
end Go.Pm.Try
