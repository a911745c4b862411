import Derived.Test.YtbenanocioeglaaSg
namespace Go.Pm.Try
open Go Go.Proofs
set_option linter.unusedVariables false
set_option linter.unusedSimpArgs false
set_option maxRecDepth 100000
theorem asked_ok {d : Def} {s : Saga} {now : Int} (h : asked d s now = true) : sagaOk d s = true := by
  rw [asked, Bool.and_eq_true] at h; exact h.1
theorem specTick (d : Def) (hd : d.fits) (s : Saga) (now : Int) : Ent Try.prog 41 [.d (defD d), .d (sagaD s), .d (.i .i64 now)] [] (.d (outD (tickM d s now))) [] := by
  obtain ⟨u, hu⟩ : ∃ u, u = sagaOk d s := ⟨_, rfl⟩
  have c1 := specSagaRight d hd s
  rw [← hu] at c1
  obtain ⟨v, hv⟩ : ∃ v, v = timeOk now := ⟨_, rfl⟩
  have c2 := specTime now
  rw [← hv] at c2
  obtain ⟨o, ho⟩ : ∃ o, o = tick1 d s now := ⟨_, rfl⟩
  have c3 : u = true → Ent Try.prog 94 [.d (defD d), .d (sagaD s), .d (.i .i64 now)] [] (.d (outD o)) [] := fun h => by rw [ho]; exact specTick1 d s now (hu.symm.trans h)
  rw [tickM, asked, ← ho, ← hu, ← hv]
  clear ho hu hv
  refine ent_of tok mixed (f := 41) Try.func41 (by kernel_rfl) (keep := false) ?_
  cases u <;> cases v
  all_goals
    repeat' ((conv => whnf) <;> (first | ((with_reducible refine isCall ?_) <;> (first | (refine ⟨_, c1, ?_⟩; rintro _ _ ⟨rfl, rfl⟩) | (refine ⟨_, c2, ?_⟩; rintro _ _ ⟨rfl, rfl⟩) | (refine ⟨_, c3 rfl, ?_⟩; rintro _ _ ⟨rfl, rfl⟩) | fail)) | ((with_reducible refine isCut ?_) <;> (first | refine ⟨⟨none⟩, ?_⟩)) | ((first | with_reducible refine isEx ?_ | with_reducible refine isAnd ?_ | with_reducible refine isOr ?_) <;> (first | ((with_reducible refine isSmall ?_) <;> (refine ⟨?_, ?_⟩; kernel_rfl)) | refine ⟨rfl, ?_⟩ | refine ⟨Int.natCast_nonneg _, ?_⟩)) | with_reducible refine Both.mk ?_ ?_ | rintro _ rfl | exact rfl | (split <;> (rename_i h; first | (simp only [beq_self_eq_true, eq_self, decide_true, Bool.not_true, Bool.false_eq_true] at h; done) | (try rw [h])))))
theorem implTick (d : Def) (hd : d.fits) (s : Saga) (now : Int) : Ent Try.prog 23 [.d (defD d), .d (sagaD s), .d (.i .i64 now)] [] (.d (outD (tickM d s now))) [] := by
  obtain ⟨w, hw⟩ : ∃ u, u = asked d s now := ⟨_, rfl⟩
  have c0 := implAsked d hd s now
  rw [← hw] at c0
  obtain ⟨u, hu⟩ : ∃ u, u = over s := ⟨_, rfl⟩
  have c1 := implOver s
  rw [← hu] at c1
  obtain ⟨o, ho⟩ : ∃ o, o = failAt d s now := ⟨_, rfl⟩
  have c2 : w = true → u = false → Ent Try.prog 76 [.d (defD d), .d (sagaD s), .d (.i .i64 now)] [] (.d (outD o)) [] := fun h0 h => by
    have hs := asked_ok (hw.symm.trans h0)
    have hp := over_live hs (hu.symm.trans h)
    obtain ⟨t, L⟩ := live hs hp
    rw [ho, failAt_get L.at_]; exact implFailed d s t now L hp
  obtain ⟨o2, ho2⟩ : ∃ o, o = sendAt d (bump s) now := ⟨_, rfl⟩
  have c3 : w = true → u = false → Ent Try.prog 59 [.d (defD d), .d (sagaD (bump s)), .d (.i .i64 now)] [] (.d (outD o2)) [] := fun h0 h => by
    have hs := asked_ok (hw.symm.trans h0)
    obtain ⟨t, L⟩ := live hs (over_live hs (hu.symm.trans h))
    rw [ho2]; exact implSend' now L.p0 (show s.pos < _ by have := L.pd; have := L.dn; omega)
  rw [tickM, tick1, ← ho, ← hu, ← ho2, ← hw]
  clear ho hu ho2 hw
  refine ent_of tok mixed (f := 23) Try.func23 (by kernel_rfl) (keep := false) ?_
  rcases s with ⟨ph, done, pos, tries, waits, clock⟩
  cases w
  ·
    repeat' ((conv => whnf) <;> (first | ((with_reducible refine isCall ?_) <;> (first | (refine ⟨_, c0, ?_⟩; rintro _ _ ⟨rfl, rfl⟩) | fail)) | ((with_reducible refine isCut ?_) <;> (first | refine ⟨⟨none⟩, ?_⟩)) | ((first | with_reducible refine isEx ?_ | with_reducible refine isAnd ?_ | with_reducible refine isOr ?_) <;> (first | ((with_reducible refine isSmall ?_) <;> (refine ⟨?_, ?_⟩; kernel_rfl)) | refine ⟨rfl, ?_⟩ | refine ⟨Int.natCast_nonneg _, ?_⟩)) | with_reducible refine Both.mk ?_ ?_ | rintro _ rfl | exact rfl | (split <;> (rename_i h; first | (simp only [beq_self_eq_true, eq_self, decide_true, Bool.not_true, Bool.false_eq_true] at h; done) | (try rw [h])))))
  cases u <;> cases waits
  all_goals
    repeat' ((conv => whnf) <;> (first | ((with_reducible refine isCall ?_) <;> (first | (refine ⟨_, c0, ?_⟩; rintro _ _ ⟨rfl, rfl⟩) | (refine ⟨_, c1, ?_⟩; rintro _ _ ⟨rfl, rfl⟩) | (refine ⟨_, c2 rfl rfl, ?_⟩; rintro _ _ ⟨rfl, rfl⟩) | (refine ⟨_, c3 rfl rfl, ?_⟩; rintro _ _ ⟨rfl, rfl⟩) | fail)) | ((with_reducible refine isCut ?_) <;> (first | refine ⟨⟨none⟩, ?_⟩)) | ((first | with_reducible refine isEx ?_ | with_reducible refine isAnd ?_ | with_reducible refine isOr ?_) <;> (first | ((with_reducible refine isSmall ?_) <;> (refine ⟨?_, ?_⟩; kernel_rfl)) | refine ⟨rfl, ?_⟩ | refine ⟨Int.natCast_nonneg _, ?_⟩)) | with_reducible refine Both.mk ?_ ?_ | rintro _ rfl | exact rfl | (split <;> (rename_i h; first | (simp only [beq_self_eq_true, eq_self, decide_true, Bool.not_true, Bool.false_eq_true] at h; done) | (try rw [h])))))
/-! Answers. -/
def cmdEq (a b : Cmd) : Bool := decide (a.step = b.step) && ((a.undo == b.undo) && (decide (a.tr = b.tr) && true))
def doneM (s : Saga) : SagaOut := ⟨⟨3, IntKind.i64.wrap (s.done + 1), 0, 0, false, 0⟩, noCmd, false, 0⟩
def nextS (s : Saga) : Saga := ⟨1, IntKind.i64.wrap (s.done + 1), IntKind.i64.wrap (s.done + 1), 1, false, 0⟩
def goodM (d : Def) (s : Saga) (now : Int) : SagaOut := sel (decide (s.ph = 2)) (belowM d s s.pos.toNat now) (sel (decide (IntKind.i64.wrap (s.done + 1) = ((d.steps.map stepD).length : Int))) (doneM s) (sendAt d (nextS s) now))
def reply1 (d : Def) (s : Saga) (c : Cmd) (good : Bool) (now : Int) : SagaOut :=
  sel (!s.waits || !(cmdEq c (cmdOf s))) (refused 12) (sel good (goodM d s now) (failAt d s now))
def replyM (d : Def) (s : Saga) (c : Cmd) (good : Bool) (now : Int) : SagaOut := sel (asked d s now) (reply1 d s c good now) (refused 1)
theorem done_up {d : Def} {s : Saga} {t : Step} (L : Live d s t) : IntKind.i64.wrap (s.done + 1) = s.done + 1 := by
  have := L.dn; have := L.d0; have := L.n8
  exact wrap_i64_id _ (by omega) (by omega)
theorem specReply1 (d : Def) (s : Saga) (c : Cmd) (good : Bool) (now : Int) (hs : sagaOk d s = true) :
    Ent Try.prog 95 [.d (defD d), .d (sagaD s), .d (cmdD c), .d (.b good), .d (.i .i64 now)] [] (.d (outD (reply1 d s c good now))) [] := by
  have c1 := specCommand s
  obtain ⟨o, ho⟩ : ∃ o, o = failAt d s now := ⟨_, rfl⟩
  have c2 : s.waits = true → Ent Try.prog 127 [.d (defD d), .d (sagaD s), .d (.i .i64 now)] [] (.d (outD o)) [] := fun h => by
    obtain ⟨t, L⟩ := live hs (waits_live hs h)
    rw [ho, failAt_get L.at_]; exact specFailed d s t now L
  obtain ⟨o2, ho2⟩ : ∃ o, o = belowM d s s.pos.toNat now := ⟨_, rfl⟩
  have c3 : s.waits = true → Ent Try.prog 121 [.d (defD d), .d (sagaD s), .d (.i .i64 s.pos), .d (.i .i64 now)] [] (.d (outD o2)) [] := fun h => by
    obtain ⟨t, L⟩ := live hs (waits_live hs h)
    have c2 := specBelow d s s.pos.toNat now (by have := L.dn; have := L.pd; have := L.p0; omega) (Nat.le_trans L.n8 (Nat.le_of_ble_eq_true rfl))
    rw [Int.toNat_of_nonneg L.p0] at c2
    rw [ho2]; exact c2
  obtain ⟨o3, ho3⟩ : ∃ o, o = sendAt d (nextS s) now := ⟨_, rfl⟩
  have c4 : s.waits = true → decide (IntKind.i64.wrap (s.done + 1) = ((d.steps.map stepD).length : Int)) = false → Ent Try.prog 56 [.d (defD d), .d (sagaD (nextS s)), .d (.i .i64 now)] [] (.d (outD o3)) [] := fun h hh => by
    have hh := of_decide_eq_false hh
    obtain ⟨t, L⟩ := live hs (waits_live hs h)
    rw [done_up L, List.length_map] at hh
    rw [ho3]; exact specSend' now (show 0 ≤ IntKind.i64.wrap (s.done + 1) by rw [done_up L]; have := L.d0; omega) (show IntKind.i64.wrap (s.done + 1) < _ by rw [done_up L]; have := L.dn; omega)
  rw [reply1, goodM, ← ho, ← ho2, ← ho3]
  unfold cmdEq
  clear ho ho2 ho3 hs
  refine ent_of tok mixed (f := 95) Try.func95 (by kernel_rfl) (keep := false) ?_
  rcases s with ⟨ph, done, pos, tries, waits, clock⟩
  cases waits
  ·
    repeat' ((conv => whnf) <;> (first | ((with_reducible refine isCall ?_) <;> (first | (refine ⟨_, c1, ?_⟩; rintro _ _ ⟨rfl, rfl⟩) | fail)) | ((with_reducible refine isCut ?_) <;> (first | refine ⟨⟨none⟩, ?_⟩)) | ((first | with_reducible refine isEx ?_ | with_reducible refine isAnd ?_ | with_reducible refine isOr ?_) <;> (first | ((with_reducible refine isSmall ?_) <;> (refine ⟨?_, ?_⟩; kernel_rfl)) | refine ⟨rfl, ?_⟩ | refine ⟨Int.natCast_nonneg _, ?_⟩)) | with_reducible refine Both.mk ?_ ?_ | rintro _ rfl | exact rfl | (split <;> (rename_i h; first | (simp only [beq_self_eq_true, eq_self, decide_true, Bool.not_true, Bool.false_eq_true] at h; done) | (try rw [h])))))
  cases good
  ·
    repeat' ((conv => whnf) <;> (first | ((with_reducible refine isCall ?_) <;> (first | (refine ⟨_, c1, ?_⟩; rintro _ _ ⟨rfl, rfl⟩) | (refine ⟨_, c2 rfl, ?_⟩; rintro _ _ ⟨rfl, rfl⟩) | fail)) | ((with_reducible refine isCut ?_) <;> (first | refine ⟨⟨none⟩, ?_⟩)) | ((first | with_reducible refine isEx ?_ | with_reducible refine isAnd ?_ | with_reducible refine isOr ?_) <;> (first | ((with_reducible refine isSmall ?_) <;> (refine ⟨?_, ?_⟩; kernel_rfl)) | refine ⟨rfl, ?_⟩ | refine ⟨Int.natCast_nonneg _, ?_⟩)) | with_reducible refine Both.mk ?_ ?_ | rintro _ rfl | exact rfl | (split <;> (rename_i h; first | (simp only [beq_self_eq_true, eq_self, decide_true, Bool.not_true, Bool.false_eq_true] at h; done) | (try rw [h])))))

  ·
    repeat' ((conv => whnf) <;> (first | ((with_reducible refine isCall ?_) <;> (first | (refine ⟨_, c1, ?_⟩; rintro _ _ ⟨rfl, rfl⟩) | (refine ⟨_, c3 rfl, ?_⟩; rintro _ _ ⟨rfl, rfl⟩) | (refine ⟨_, c4 rfl (by assumption), ?_⟩; rintro _ _ ⟨rfl, rfl⟩) | fail)) | ((with_reducible refine isCut ?_) <;> (first | refine ⟨⟨none⟩, ?_⟩)) | ((first | with_reducible refine isEx ?_ | with_reducible refine isAnd ?_ | with_reducible refine isOr ?_) <;> (first | ((with_reducible refine isSmall ?_) <;> (refine ⟨?_, ?_⟩; kernel_rfl)) | refine ⟨rfl, ?_⟩ | refine ⟨Int.natCast_nonneg _, ?_⟩)) | with_reducible refine Both.mk ?_ ?_ | rintro _ rfl | exact rfl | (split <;> (rename_i h; first | (simp only [beq_self_eq_true, eq_self, decide_true, Bool.not_true, Bool.false_eq_true] at h; done) | (try rw [h])))))

theorem specReply (d : Def) (hd : d.fits) (s : Saga) (c : Cmd) (good : Bool) (now : Int) : Ent Try.prog 42 [.d (defD d), .d (sagaD s), .d (cmdD c), .d (.b good), .d (.i .i64 now)] [] (.d (outD (replyM d s c good now))) [] := by
  obtain ⟨u, hu⟩ : ∃ u, u = sagaOk d s := ⟨_, rfl⟩
  have c1 := specSagaRight d hd s
  rw [← hu] at c1
  obtain ⟨v, hv⟩ : ∃ v, v = timeOk now := ⟨_, rfl⟩
  have c2 := specTime now
  rw [← hv] at c2
  obtain ⟨o, ho⟩ : ∃ o, o = reply1 d s c good now := ⟨_, rfl⟩
  have c3 : u = true → Ent Try.prog 95 [.d (defD d), .d (sagaD s), .d (cmdD c), .d (.b good), .d (.i .i64 now)] [] (.d (outD o)) [] := fun h => by rw [ho]; exact specReply1 d s c good now (hu.symm.trans h)
  rw [replyM, asked, ← ho, ← hu, ← hv]
  clear ho hu hv
  refine ent_of tok mixed (f := 42) Try.func42 (by kernel_rfl) (keep := false) ?_
  cases u <;> cases v
  all_goals
    repeat' ((conv => whnf) <;> (first | ((with_reducible refine isCall ?_) <;> (first | (refine ⟨_, c1, ?_⟩; rintro _ _ ⟨rfl, rfl⟩) | (refine ⟨_, c2, ?_⟩; rintro _ _ ⟨rfl, rfl⟩) | (refine ⟨_, c3 rfl, ?_⟩; rintro _ _ ⟨rfl, rfl⟩) | fail)) | ((with_reducible refine isCut ?_) <;> (first | refine ⟨⟨none⟩, ?_⟩)) | ((first | with_reducible refine isEx ?_ | with_reducible refine isAnd ?_ | with_reducible refine isOr ?_) <;> (first | ((with_reducible refine isSmall ?_) <;> (refine ⟨?_, ?_⟩; kernel_rfl)) | refine ⟨rfl, ?_⟩ | refine ⟨Int.natCast_nonneg _, ?_⟩)) | with_reducible refine Both.mk ?_ ?_ | rintro _ rfl | exact rfl | (split <;> (rename_i h; first | (simp only [beq_self_eq_true, eq_self, decide_true, Bool.not_true, Bool.false_eq_true] at h; done) | (try rw [h])))))
theorem implReply (d : Def) (hd : d.fits) (s : Saga) (c : Cmd) (good : Bool) (now : Int) :
    Ent Try.prog 25 [.d (defD d), .d (sagaD s), .d (cmdD c), .d (.b good), .d (.i .i64 now)] [] (.d (outD (replyM d s c good now))) [] := by
  obtain ⟨w, hw⟩ : ∃ u, u = asked d s now := ⟨_, rfl⟩
  have c0 := implAsked d hd s now
  rw [← hw] at c0
  have hs : w = true → sagaOk d s = true := fun h => asked_ok (hw.symm.trans h)
  have c1 := implCommand s
  obtain ⟨o, ho⟩ : ∃ o, o = failAt d s now := ⟨_, rfl⟩
  have c2 : w = true → s.waits = true → Ent Try.prog 76 [.d (defD d), .d (sagaD s), .d (.i .i64 now)] [] (.d (outD o)) [] := fun h0 h => by
    have hp := waits_live (hs h0) h
    obtain ⟨t, L⟩ := live (hs h0) hp
    rw [ho, failAt_get L.at_]; exact implFailed d s t now L hp
  obtain ⟨o2, ho2⟩ : ∃ o, o = belowM d s s.pos.toNat now := ⟨_, rfl⟩
  have c3 : w = true → s.waits = true → Ent Try.prog 78 [.d (defD d), .d (sagaD s), .d (.i .i64 s.pos), .d (.i .i64 now)] [] (.d (outD o2)) [] := fun h0 h => by
    obtain ⟨t, L⟩ := live (hs h0) (waits_live (hs h0) h)
    have c2 := implBackTo d s s.pos.toNat now (by have := L.dn; have := L.pd; have := L.p0; omega) (Nat.le_trans L.n8 (Nat.le_of_ble_eq_true rfl))
    rw [Int.toNat_of_nonneg L.p0] at c2
    rw [ho2]; exact c2
  obtain ⟨o3, ho3⟩ : ∃ o, o = sendAt d (nextS s) now := ⟨_, rfl⟩
  have c4 : w = true → s.waits = true → decide (IntKind.i64.wrap (s.done + 1) = ((d.steps.map stepD).length : Int)) = false → Ent Try.prog 59 [.d (defD d), .d (sagaD (nextS s)), .d (.i .i64 now)] [] (.d (outD o3)) [] := fun h0 h hh => by
    have hh := of_decide_eq_false hh
    obtain ⟨t, L⟩ := live (hs h0) (waits_live (hs h0) h)
    rw [done_up L, List.length_map] at hh
    rw [ho3]; exact implSend' now (show 0 ≤ IntKind.i64.wrap (s.done + 1) by rw [done_up L]; have := L.d0; omega) (show IntKind.i64.wrap (s.done + 1) < _ by rw [done_up L]; have := L.dn; omega)
  rw [replyM, reply1, goodM, ← ho, ← ho2, ← ho3, ← hw]
  unfold cmdEq
  clear ho ho2 ho3 hs hw
  refine ent_of tok mixed (f := 25) Try.func25 (by kernel_rfl) (keep := false) ?_
  rcases s with ⟨ph, done, pos, tries, waits, clock⟩
  cases w
  ·
    repeat' ((conv => whnf) <;> (first | ((with_reducible refine isCall ?_) <;> (first | (refine ⟨_, c0, ?_⟩; rintro _ _ ⟨rfl, rfl⟩) | fail)) | ((with_reducible refine isCut ?_) <;> (first | refine ⟨⟨none⟩, ?_⟩)) | ((first | with_reducible refine isEx ?_ | with_reducible refine isAnd ?_ | with_reducible refine isOr ?_) <;> (first | ((with_reducible refine isSmall ?_) <;> (refine ⟨?_, ?_⟩; kernel_rfl)) | refine ⟨rfl, ?_⟩ | refine ⟨Int.natCast_nonneg _, ?_⟩)) | with_reducible refine Both.mk ?_ ?_ | rintro _ rfl | exact rfl | (split <;> (rename_i h; first | (simp only [beq_self_eq_true, eq_self, decide_true, Bool.not_true, Bool.false_eq_true] at h; done) | (try rw [h])))))
  cases waits
  ·
    repeat' ((conv => whnf) <;> (first | ((with_reducible refine isCall ?_) <;> (first | (refine ⟨_, c0, ?_⟩; rintro _ _ ⟨rfl, rfl⟩) | (refine ⟨_, c1, ?_⟩; rintro _ _ ⟨rfl, rfl⟩) | fail)) | ((with_reducible refine isCut ?_) <;> (first | refine ⟨⟨none⟩, ?_⟩)) | ((first | with_reducible refine isEx ?_ | with_reducible refine isAnd ?_ | with_reducible refine isOr ?_) <;> (first | ((with_reducible refine isSmall ?_) <;> (refine ⟨?_, ?_⟩; kernel_rfl)) | refine ⟨rfl, ?_⟩ | refine ⟨Int.natCast_nonneg _, ?_⟩)) | with_reducible refine Both.mk ?_ ?_ | rintro _ rfl | exact rfl | (split <;> (rename_i h; first | (simp only [beq_self_eq_true, eq_self, decide_true, Bool.not_true, Bool.false_eq_true] at h; done) | (try rw [h])))))
  cases good
  ·
    repeat' ((conv => whnf) <;> (first | ((with_reducible refine isCall ?_) <;> (first | (refine ⟨_, c0, ?_⟩; rintro _ _ ⟨rfl, rfl⟩) | (refine ⟨_, c1, ?_⟩; rintro _ _ ⟨rfl, rfl⟩) | (refine ⟨_, c2 rfl rfl, ?_⟩; rintro _ _ ⟨rfl, rfl⟩) | fail)) | ((with_reducible refine isCut ?_) <;> (first | refine ⟨⟨none⟩, ?_⟩)) | ((first | with_reducible refine isEx ?_ | with_reducible refine isAnd ?_ | with_reducible refine isOr ?_) <;> (first | ((with_reducible refine isSmall ?_) <;> (refine ⟨?_, ?_⟩; kernel_rfl)) | refine ⟨rfl, ?_⟩ | refine ⟨Int.natCast_nonneg _, ?_⟩)) | with_reducible refine Both.mk ?_ ?_ | rintro _ rfl | exact rfl | (split <;> (rename_i h; first | (simp only [beq_self_eq_true, eq_self, decide_true, Bool.not_true, Bool.false_eq_true] at h; done) | (try rw [h])))))
  ·
    repeat' ((conv => whnf) <;> (first | ((with_reducible refine isCall ?_) <;> (first | (refine ⟨_, c0, ?_⟩; rintro _ _ ⟨rfl, rfl⟩) | (refine ⟨_, c1, ?_⟩; rintro _ _ ⟨rfl, rfl⟩) | (refine ⟨_, c3 rfl rfl, ?_⟩; rintro _ _ ⟨rfl, rfl⟩) | (refine ⟨_, c4 rfl rfl (by assumption), ?_⟩; rintro _ _ ⟨rfl, rfl⟩) | fail)) | ((with_reducible refine isCut ?_) <;> (first | refine ⟨⟨none⟩, ?_⟩)) | ((first | with_reducible refine isEx ?_ | with_reducible refine isAnd ?_ | with_reducible refine isOr ?_) <;> (first | ((with_reducible refine isSmall ?_) <;> (refine ⟨?_, ?_⟩; kernel_rfl)) | refine ⟨rfl, ?_⟩ | refine ⟨Int.natCast_nonneg _, ?_⟩)) | with_reducible refine Both.mk ?_ ?_ | rintro _ rfl | exact rfl | (split <;> (rename_i h; first | (simp only [beq_self_eq_true, eq_self, decide_true, Bool.not_true, Bool.false_eq_true] at h; done) | (try rw [h])))))
theorem toCommand (c : Cmd) : Ent Try.prog 43 [.d (cmdD c)] [] (.d (cmdD c)) [] := by
  refine ent_of tok mixed (f := 43) Try.func43 (by kernel_rfl) (keep := false) ?_
  repeat' ((conv => whnf) <;> (first | ((with_reducible refine isCall ?_) <;> (first | fail)) | ((with_reducible refine isCut ?_) <;> (first | refine ⟨⟨none⟩, ?_⟩)) | ((first | with_reducible refine isEx ?_ | with_reducible refine isAnd ?_ | with_reducible refine isOr ?_) <;> (first | ((with_reducible refine isSmall ?_) <;> (refine ⟨?_, ?_⟩; kernel_rfl)) | refine ⟨rfl, ?_⟩ | refine ⟨Int.natCast_nonneg _, ?_⟩)) | with_reducible refine Both.mk ?_ ?_ | rintro _ rfl | exact rfl | (split <;> (rename_i h; first | (simp only [beq_self_eq_true, eq_self, decide_true, Bool.not_true, Bool.false_eq_true] at h; done) | (try rw [h])))))
theorem cmd_of {y : D} (h : (Sh.agg [.int .i64, .bool, .int .i64]).of y) : ∃ c : Cmd, y = cmdD c := by
  simp only [Sh.of, ofL] at h
  obtain ⟨cs, rfl, x0, r0, rfl, ⟨a, rfl, _⟩, x1, r1, rfl, ⟨b, rfl⟩, x2, r2, rfl, ⟨c, rfl, _⟩, rfl⟩ := h
  exact ⟨⟨a, b, c⟩, rfl⟩
end Go.Pm.Try
