/-
The program's SagaStart, SagaCancel, SagaTick and SagaReply return what the reference's return, for all arguments.
-/
import Derived.Test.YtbenanocioeglaaSh
namespace Go.Pm.Try
open Go Go.Proofs
set_option linter.unusedVariables false
set_option linter.unusedSimpArgs false
set_option maxRecDepth 100000
theorem startLaw (d : Def) (hd : d.fits) (now : Int) : Ent Try.prog 3 [.d (defD d), .d (.i .i64 now)] [] (.d (.b true)) [] := by
  obtain ⟨o, ho⟩ : ∃ o, o = start d now := ⟨_, rfl⟩
  have c1 := specStart d hd now
  have c2 := implStart d hd now
  rw [← ho] at c1 c2
  refine ent_of tok mixed (f := 3) Try.func3 (by kernel_rfl) (keep := false) ?_
  repeat' ((conv => whnf) <;> (first
    | (refine ⟨_, szDef d hd, ?_⟩; rintro _ _ ⟨r, rfl, rfl, hr⟩)
    | (refine ⟨_, toDef d (hr (Int.not_lt.1 (of_decide_eq_false (by assumption)))), ?_⟩; rintro _ _ ⟨rfl, rfl⟩)
    | (refine ⟨_, c1, ?_⟩; rintro _ _ ⟨rfl, rfl⟩)
    | (refine ⟨_, c2, ?_⟩; rintro _ _ ⟨rfl, rfl⟩)
    | (refine ⟨_, eqSagaOut o, ?_⟩; rintro _ _ ⟨rfl, rfl⟩)
    | (refine ⟨_, eqDef d hd, ?_⟩; rintro _ _ ⟨rfl, rfl⟩)
    | refine ⟨⟨none⟩, ?_⟩
    | refine Both.mk ?_ ?_
    | rintro _ rfl
    | refine ⟨rfl, ?_⟩
    | exact rfl
    | refine ⟨Int.natCast_nonneg _, ?_⟩
    | (split <;> (rename_i h; first | (simp only [beq_self_eq_true, Bool.not_true, Bool.false_eq_true] at h; done) | (try rw [h])))))
set_option maxHeartbeats 4000000 in
theorem cancelLaw (d : Def) (hd : d.fits) (s : Saga) (now : Int) : Ent Try.prog 7 [.d (defD d), .d (sagaD s), .d (.i .i64 now)] [] (.d (.b true)) [] := by
  obtain ⟨o, ho⟩ : ∃ o, o = cancelM d s now := ⟨_, rfl⟩
  have c1 := specCancel d hd s now
  have c2 := implCancel d hd s now
  rw [← ho] at c1 c2
  refine ent_of tok mixed (f := 7) Try.func7 (by kernel_rfl) (keep := false) ?_
  repeat' ((conv => whnf) <;> (first
    | refine ⟨(⟨some ([2, 3, 4, 8], [10003, 10004, 10008], fun s => s = ?S5)⟩ : Cut 5), ?_, ?_⟩
    | refine ⟨(⟨some ([3, 8, 9, 10], [10003, 10008, 10009, 10010], fun s => s = ?S7)⟩ : Cut 7), ?_, ?_⟩
    | (refine ⟨_, szDef d hd, ?_⟩; rintro _ _ ⟨r, rfl, rfl, hr⟩)
    | (refine ⟨_, toDef d (hr (Int.not_lt.1 (of_decide_eq_false (by assumption)))), ?_⟩; rintro _ _ ⟨rfl, rfl⟩)
    | (refine ⟨_, toSaga s, ?_⟩; rintro _ _ ⟨rfl, rfl⟩)
    | (refine ⟨_, c1, ?_⟩; rintro _ _ ⟨rfl, rfl⟩)
    | (refine ⟨_, c2, ?_⟩; rintro _ _ ⟨rfl, rfl⟩)
    | (refine ⟨_, eqSagaOut o, ?_⟩; rintro _ _ ⟨rfl, rfl⟩)
    | (refine ⟨_, eqDef d hd, ?_⟩; rintro _ _ ⟨rfl, rfl⟩)
    | refine ⟨⟨none⟩, ?_⟩
    | refine Both.mk ?_ ?_
    | rintro _ rfl
    | refine ⟨rfl, ?_⟩
    | exact rfl
    | refine ⟨Int.natCast_nonneg _, ?_⟩
    | (split <;> (rename_i h; first | (simp only [beq_self_eq_true, Bool.not_true, Bool.false_eq_true] at h; done) | (try rw [h])))))
set_option maxHeartbeats 4000000 in
theorem tickLaw (d : Def) (hd : d.fits) (s : Saga) (now : Int) : Ent Try.prog 9 [.d (defD d), .d (sagaD s), .d (.i .i64 now)] [] (.d (.b true)) [] := by
  obtain ⟨o, ho⟩ : ∃ o, o = tickM d s now := ⟨_, rfl⟩
  have c1 := specTick d hd s now
  have c2 := implTick d hd s now
  rw [← ho] at c1 c2
  refine ent_of tok mixed (f := 9) Try.func9 (by kernel_rfl) (keep := false) ?_
  repeat' ((conv => whnf) <;> (first
    | refine ⟨(⟨some ([2, 3, 4, 8], [10003, 10004, 10008], fun s => s = ?S5)⟩ : Cut 5), ?_, ?_⟩
    | refine ⟨(⟨some ([3, 8, 9, 10], [10003, 10008, 10009, 10010], fun s => s = ?S7)⟩ : Cut 7), ?_, ?_⟩
    | (refine ⟨_, szDef d hd, ?_⟩; rintro _ _ ⟨r, rfl, rfl, hr⟩)
    | (refine ⟨_, toDef d (hr (Int.not_lt.1 (of_decide_eq_false (by assumption)))), ?_⟩; rintro _ _ ⟨rfl, rfl⟩)
    | (refine ⟨_, toSaga s, ?_⟩; rintro _ _ ⟨rfl, rfl⟩)
    | (refine ⟨_, c1, ?_⟩; rintro _ _ ⟨rfl, rfl⟩)
    | (refine ⟨_, c2, ?_⟩; rintro _ _ ⟨rfl, rfl⟩)
    | (refine ⟨_, eqSagaOut o, ?_⟩; rintro _ _ ⟨rfl, rfl⟩)
    | (refine ⟨_, eqDef d hd, ?_⟩; rintro _ _ ⟨rfl, rfl⟩)
    | refine ⟨⟨none⟩, ?_⟩
    | refine Both.mk ?_ ?_
    | rintro _ rfl
    | refine ⟨rfl, ?_⟩
    | exact rfl
    | refine ⟨Int.natCast_nonneg _, ?_⟩
    | (split <;> (rename_i h; first | (simp only [beq_self_eq_true, Bool.not_true, Bool.false_eq_true] at h; done) | (try rw [h])))))
set_option maxHeartbeats 4000000 in
theorem replyLaw (d : Def) (hd : d.fits) (s : Saga) (c : Cmd) (good : Bool) (now : Int) : Ent Try.prog 10 [.d (defD d), .d (sagaD s), .d (cmdD c), .d (.b good), .d (.i .i64 now)] [] (.d (.b true)) [] := by
  obtain ⟨o, ho⟩ : ∃ o, o = replyM d s c good now := ⟨_, rfl⟩
  have c1 := specReply d hd s c good now
  have c2 := implReply d hd s c good now
  rw [← ho] at c1 c2
  refine ent_of tok mixed (f := 10) Try.func10 (by kernel_rfl) (keep := false) ?_
  repeat' ((conv => whnf) <;> (first
    | refine ⟨(⟨some ([3, 4, 5, 6, 7, 12], [10005, 10006, 10007, 10012], fun s => s = ?S5)⟩ : Cut 5), ?_, ?_⟩
    | refine ⟨(⟨some ([5, 12, 13, 14], [10005, 10012, 10013, 10014], fun s => s = ?S7)⟩ : Cut 7), ?_, ?_⟩
    | (refine ⟨_, szDef d hd, ?_⟩; rintro _ _ ⟨r, rfl, rfl, hr⟩)
    | (refine ⟨_, toDef d (hr (Int.not_lt.1 (of_decide_eq_false (by assumption)))), ?_⟩; rintro _ _ ⟨rfl, rfl⟩)
    | (refine ⟨_, toSaga s, ?_⟩; rintro _ _ ⟨rfl, rfl⟩)
    | (refine ⟨_, toCommand c, ?_⟩; rintro _ _ ⟨rfl, rfl⟩)
    | (refine ⟨_, c1, ?_⟩; rintro _ _ ⟨rfl, rfl⟩)
    | (refine ⟨_, c2, ?_⟩; rintro _ _ ⟨rfl, rfl⟩)
    | (refine ⟨_, eqSagaOut o, ?_⟩; rintro _ _ ⟨rfl, rfl⟩)
    | (refine ⟨_, eqDef d hd, ?_⟩; rintro _ _ ⟨rfl, rfl⟩)
    | refine ⟨⟨none⟩, ?_⟩
    | refine Both.mk ?_ ?_
    | rintro _ rfl
    | refine ⟨rfl, ?_⟩
    | exact rfl
    | refine ⟨Int.natCast_nonneg _, ?_⟩
    | (split <;> (rename_i h; first | (simp only [beq_self_eq_true, Bool.not_true, Bool.false_eq_true] at h; done) | (try rw [h])))))
theorem int_of {k : IntKind} {y : D} (h : (Sh.int k).of y) : ∃ n : Int, y = .i k n := by
  simp only [Sh.of] at h
  obtain ⟨n, rfl, _⟩ := h
  exact ⟨n, rfl⟩
theorem bool_of {y : D} (h : Sh.bool.of y) : ∃ b : Bool, y = .b b := by
  simp only [Sh.of] at h
  exact h
end Go.Pm.Try
namespace Go.Pm
open Go Go.ChangeShapes
theorem trodAll_five {H : Type} {enc : TypeId × Value → H} {P : Program} {w : World} {base : Nat} {spare : Nat → Bool} {held : Bool} {t t' t'' t3 t4 : TypeId} {args : Array Value} {ds : List (DataW H)} {ps : List MemPlace} (h : DataW.TrodAll enc P w base spare held [t, t', t'', t3, t4] args.toList ds ps) :
    ∃ v v' v'' v3 v4 d d' d'' d3 d4 p p' p'' p3 p4, args = #[v, v', v'', v3, v4] ∧ ds = [d, d', d'', d3, d4] ∧ ps = p ++ p' ++ p'' ++ p3 ++ p4 ∧ DataW.Trod enc P w base spare held t v d p ∧ DataW.Trod enc P w base spare held t' v' d' p' ∧ DataW.Trod enc P w base spare held t'' v'' d'' p'' ∧ DataW.Trod enc P w base spare held t3 v3 d3 p3 ∧ DataW.Trod enc P w base spare held t4 v4 d4 p4 := by
  obtain ⟨v, vs, d, ds', p, q, hargs, rfl, rfl, hd, hrest⟩ := trodAll_cons h
  obtain ⟨v', vs', d', ds'', p', q', rfl, rfl, rfl, hd', hrest'⟩ := trodAll_cons hrest
  obtain ⟨v'', vs'', d'', ds''', p'', q'', rfl, rfl, rfl, hd'', hrest''⟩ := trodAll_cons hrest'
  obtain ⟨v3, vs3, d3, ds3, p3, q3, rfl, rfl, rfl, hd3, hrest3⟩ := trodAll_cons hrest''
  obtain ⟨v4, vs4, d4, ds4, p4, q4, rfl, rfl, rfl, hd4, hrest4⟩ := trodAll_cons hrest3
  obtain ⟨rfl, rfl, rfl⟩ := trodAll_nil hrest4
  exact ⟨v, v', v'', v3, v4, d, d', d'', d3, d4, p, p', p'', p3, p4, by cases args; simp_all, rfl, by simp, hd, hd', hd'', hd3, hd4⟩
end Go.Pm
