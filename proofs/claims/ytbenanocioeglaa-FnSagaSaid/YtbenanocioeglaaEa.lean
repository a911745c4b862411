/-
Draws from bytes: sagas.
-/
import Derived.Test.YtbenanocioeglaaDv
import Derived.Test.YtbenanocioeglaaSh
namespace Go.Pm.Try
open Go Go.Proofs
set_option linter.unusedVariables false
set_option linter.unusedSimpArgs false
set_option maxRecDepth 100000
def DrawSaga (b : List UInt8) (z : Int) (R : AV) (O : List Ob) : Prop := ∃ (s : Saga) (n k m : Int), R = .tup [.d (sagaD s), .d (.i .i64 n)] ∧ O = [.var (srcC b z k m)] ∧ SrcOk b z k
/-- The saga so far. -/
inductive SagaMid (d : Def) (b : List UInt8) (z : Int) (st : St) : Prop
  | mk (s : Saga) (n j k m : Int) (hj : 0 ≤ j) (hj2 : j < 8) (hs : SrcOk b z k)
      (e : st = ⟨[(0, .ptr 0 0), (3, .ptr 10003 0), (4, .ptr 10004 0), (6, .d (.i .i64 n)), (7, .ptr 10007 0), (8, .d (.i .i64 j))],
        [(0, .var (srcC b z k m)), (10003, .var (AV.d (defD d)).cells), (10004, .var [.d (.i .i64 0), .d (.i .i64 0), .d (.i .i64 0), .d (.i .i64 0), .d (.b false), .d (.i .i64 0)]), (10007, .var (AV.d (sagaD s)).cells)]⟩)
theorem j_down {j : Int} (hj : 0 ≤ j) (hj2 : j < 8) (h : decide (j > 0) = true) : 0 ≤ IntKind.i64.wrap (j - 1) ∧ IntKind.i64.wrap (j - 1) < 8 ∧ (IntKind.i64.wrap (j - 1)).toNat < j.toNat := by
  have := of_decide_eq_true h
  rw [wrap_i64_id _ (by omega) (by omega)]
  omega
set_option maxHeartbeats 16000000 in
theorem srcSaga {b : List UInt8} {z k m : Int} (hs : SrcOk b z k) (d : Def) (hd : d.fits) : EntQ Try.prog 106 [.ptr 0 0, .d (defD d)] [.var (srcC b z k m)] (DrawSaga b z) := by
  refine ent_of tok mixed (f := 106) Try.func106 (by kernel_rfl) (keep := false) ?_
  repeat' ((conv => whnf) <;> (first | ((with_reducible refine isCall ?_) <;> (first | (refine ⟨_, srcN (m := m) hs 20 (by decide), ?_⟩; rintro _ _ ⟨now, k1, m1, rfl, rfl, hs1, hr1⟩) | (refine ⟨_, specStart d hd now, ?_⟩; rintro _ _ ⟨rfl, rfl⟩) | (refine ⟨_, srcN (m := m1) hs1 8 (by decide), ?_⟩; rintro _ _ ⟨j0, k2, m2, rfl, rfl, hs2, hr2⟩) | (refine ⟨_, srcN (m := m3) hs3 12 (by decide), ?_⟩; rintro _ _ ⟨r4, k4, m4, rfl, rfl, hs4, hr4⟩) | (refine ⟨_, srcN (m := m4) hs4 6 (by decide), ?_⟩; rintro _ _ ⟨r5, k5, m5, rfl, rfl, hs5, hr5⟩) | (refine ⟨_, specCommand s, ?_⟩; rintro _ _ ⟨rfl, rfl⟩) | (refine ⟨_, srcOne (m := m5) hs5 3 (by decide), ?_⟩; rintro _ _ ⟨b6, k6, m6, rfl, rfl, hs6⟩) | (refine ⟨_, specReply d hd s (cmdOf s) _ _, ?_⟩; rintro _ _ ⟨rfl, rfl⟩) | (refine ⟨_, specTick d hd s _, ?_⟩; rintro _ _ ⟨rfl, rfl⟩) | (refine ⟨_, srcOne (m := m5) hs5 2 (by decide), ?_⟩; rintro _ _ ⟨b6, k6, m6, rfl, rfl, hs6⟩) | (refine ⟨_, specCancel d hd s _, ?_⟩; rintro _ _ ⟨rfl, rfl⟩) | (refine ⟨_, srcOne (m := m3) hs3 15 (by decide), ?_⟩; rintro _ _ ⟨b4, k4, m4, rfl, rfl, hs4⟩) | (refine ⟨_, srcN (m := m5) hs5 7 (by decide), ?_⟩; rintro _ _ ⟨r6, k6, m6, rfl, rfl, hs6, hr6⟩) | (refine ⟨_, srcN (m := m5) hs5 6 (by decide), ?_⟩; rintro _ _ ⟨r6, k6, m6, rfl, rfl, hs6, hr6⟩) | (refine ⟨_, srcN (m := m5) hs5 5 (by decide), ?_⟩; rintro _ _ ⟨r6, k6, m6, rfl, rfl, hs6, hr6⟩) | (refine ⟨_, srcN (m := m5) hs5 3 (by decide), ?_⟩; rintro _ _ ⟨r6, k6, m6, rfl, rfl, hs6, hr6⟩) | (refine ⟨⟨hr6.1, (drawn_lt hr6 (by decide)).2⟩, ?_⟩) | (refine ⟨_, three_some hr6, ?_⟩) | fail)) | ((with_reducible refine isLoop ?_) <;> (first | (refine ⟨[0, 3, 4, 6, 7, 8], [0, 10003, 10004, 10007], SagaMid d b z, fun st => match look 8 st.env with | some (.d (.i _ n)) => n.toNat | _ => 0, ?_, SagaMid.mk (start d now).saga now j0 k2 m2 (drawn_lt hr2 (by decide)).1 (drawn_lt hr2 (by decide)).2 hs2 ?_, ?_⟩; kernel_rfl; kernel_rfl; rintro _ ⟨s, n, j, k3, m3, hj, hj2, hs3, rfl⟩) | (refine ⟨⟨hr6.1, (drawn_lt hr6 (by decide)).2⟩, ?_⟩) | (refine ⟨_, three_some hr6, ?_⟩) | fail)) | ((with_reducible refine isCut ?_) <;> (first | refine ⟨⟨none⟩, ?_⟩)) | ((first | with_reducible refine isEx ?_ | with_reducible refine isAnd ?_ | with_reducible refine isOr ?_) <;> (first | (refine ⟨⟨hr6.1, (drawn_lt hr6 (by decide)).2⟩, ?_⟩) | (refine ⟨_, three_some hr6, ?_⟩) | ((with_reducible refine isSmall ?_) <;> (refine ⟨?_, ?_⟩; kernel_rfl)) | refine ⟨rfl, ?_⟩ | refine ⟨Int.natCast_nonneg _, ?_⟩)) | with_reducible refine Both.mk ?_ ?_ | rintro _ rfl | exact rfl | (split <;> (rename_i h; first | (simp only [beq_self_eq_true, eq_self, decide_true, Bool.not_true, Bool.false_eq_true] at h; done) | (try rw [h])))))
  all_goals try (conv => whnf)
  all_goals first
    | (have _h : decide (r5 = 0) = true := by assumption
       exact ⟨⟨r6, s.done, s.pos, s.tries, s.waits, s.clock⟩, n, k6, m6, rfl, rfl, hs6⟩)
    | (have _h : decide (r5 = 1) = true := by assumption
       exact ⟨⟨s.ph, IntKind.i64.wrap (r6 - 1), s.pos, s.tries, s.waits, s.clock⟩, n, k6, m6, rfl, rfl, hs6⟩)
    | (have _h : decide (r5 = 2) = true := by assumption
       exact ⟨⟨s.ph, s.done, IntKind.i64.wrap (r6 - 1), s.tries, s.waits, s.clock⟩, n, k6, m6, rfl, rfl, hs6⟩)
    | (have _h : decide (r5 = 3) = true := by assumption
       exact ⟨⟨s.ph, s.done, s.pos, r6, s.waits, s.clock⟩, n, k6, m6, rfl, rfl, hs6⟩)
    | (have _h : decide (r5 = 4) = true := by assumption
       exact ⟨⟨s.ph, s.done, s.pos, s.tries, s.waits, pick3 r6 (-1) 2000000000 2000000001⟩, n, k6, m6, rfl, rfl, hs6⟩)
    | exact ⟨⟨s.ph, s.done, s.pos, s.tries, !s.waits, s.clock⟩, n, k5, m5, rfl, rfl, hs5⟩
    | exact ⟨⟨s.ph, s.done, s.pos, s.tries, s.waits, s.clock⟩, n, k4, m4, rfl, rfl, hs4⟩
    | (have _h : decide ((replyM d s (cmdOf s) (!b6) (IntKind.i64.wrap (n + r4))).code = 0) = true := by assumption
       refine ⟨SagaMid.mk (replyM d s (cmdOf s) (!b6) (IntKind.i64.wrap (n + r4))).saga (IntKind.i64.wrap (n + r4)) (IntKind.i64.wrap (j - 1)) k6 m6 (j_down hj hj2 (by assumption)).1 (j_down hj hj2 (by assumption)).2.1 hs6 ?_, cast ?_ (j_down hj hj2 (by assumption)).2.2⟩ <;> kernel_rfl)
    | (have _h : decide ((replyM d s (cmdOf s) (!b6) (IntKind.i64.wrap (n + r4))).code = 0) = false := by assumption
       refine ⟨SagaMid.mk s (IntKind.i64.wrap (n + r4)) (IntKind.i64.wrap (j - 1)) k6 m6 (j_down hj hj2 (by assumption)).1 (j_down hj hj2 (by assumption)).2.1 hs6 ?_, cast ?_ (j_down hj hj2 (by assumption)).2.2⟩ <;> kernel_rfl)
    | (have _h : decide ((tickM d s (IntKind.i64.wrap (n + r4))).code = 0) = true := by assumption
       refine ⟨SagaMid.mk (tickM d s (IntKind.i64.wrap (n + r4))).saga (IntKind.i64.wrap (n + r4)) (IntKind.i64.wrap (j - 1)) k5 m5 (j_down hj hj2 (by assumption)).1 (j_down hj hj2 (by assumption)).2.1 hs5 ?_, cast ?_ (j_down hj hj2 (by assumption)).2.2⟩ <;> kernel_rfl)
    | (have _h : decide ((tickM d s (IntKind.i64.wrap (n + r4))).code = 0) = false := by assumption
       refine ⟨SagaMid.mk s (IntKind.i64.wrap (n + r4)) (IntKind.i64.wrap (j - 1)) k5 m5 (j_down hj hj2 (by assumption)).1 (j_down hj hj2 (by assumption)).2.1 hs5 ?_, cast ?_ (j_down hj hj2 (by assumption)).2.2⟩ <;> kernel_rfl)
    | (have _h : decide ((cancelM d s (IntKind.i64.wrap (n + r4))).code = 0) = true := by assumption
       refine ⟨SagaMid.mk (cancelM d s (IntKind.i64.wrap (n + r4))).saga (IntKind.i64.wrap (n + r4)) (IntKind.i64.wrap (j - 1)) k6 m6 (j_down hj hj2 (by assumption)).1 (j_down hj hj2 (by assumption)).2.1 hs6 ?_, cast ?_ (j_down hj hj2 (by assumption)).2.2⟩ <;> kernel_rfl)
    | (have _h : decide ((cancelM d s (IntKind.i64.wrap (n + r4))).code = 0) = false := by assumption
       refine ⟨SagaMid.mk s (IntKind.i64.wrap (n + r4)) (IntKind.i64.wrap (j - 1)) k6 m6 (j_down hj hj2 (by assumption)).1 (j_down hj hj2 (by assumption)).2.1 hs6 ?_, cast ?_ (j_down hj hj2 (by assumption)).2.2⟩ <;> kernel_rfl)
    | (refine ⟨SagaMid.mk s (IntKind.i64.wrap (n + r4)) (IntKind.i64.wrap (j - 1)) k6 m6 (j_down hj hj2 (by assumption)).1 (j_down hj hj2 (by assumption)).2.1 hs6 ?_, cast ?_ (j_down hj hj2 (by assumption)).2.2⟩ <;> kernel_rfl)
    | (with_reducible trace_state)
end Go.Pm.Try
