/-
A drawn right saga that is told something goes on as it may: steps are done one by one, made undone the last one first, and never behind the pivot; what it owes is the command that it awaits.
-/
import Derived.Test.YtbenanocioeglaaEb
namespace Go.Pm.Try
open Go Go.Proofs
set_option linter.unusedVariables false
set_option linter.unusedSimpArgs false
set_option maxRecDepth 100000
theorem len_okS {l : List UInt8} (h : decide (((u8s l).length : Int) > 1048576) = false) : l.length ≤ 1048576 := by
  have h := of_decide_eq_false h
  unfold u8s at h
  rw [List.length_map] at h
  omega
theorem implReplyQ (d : Def) (hd : d.fits) (s : Saga) (c : Cmd) (g : Bool) (now : Int) : EntQ Try.prog 25 [.d (defD d), .d (sagaD s), .d (cmdD c), .d (.b g), .d (.i .i64 now)] [] (fun R O => ∃ x : SagaOut, x = replyM d s c g now ∧ R = .d (outD x) ∧ O = []) :=
  entQ_mono (implReply d hd s c g now) fun h => ⟨_, rfl, h.1, h.2⟩
theorem implTickQ (d : Def) (hd : d.fits) (s : Saga) (now : Int) : EntQ Try.prog 23 [.d (defD d), .d (sagaD s), .d (.i .i64 now)] [] (fun R O => ∃ x : SagaOut, x = tickM d s now ∧ R = .d (outD x) ∧ O = []) :=
  entQ_mono (implTick d hd s now) fun h => ⟨_, rfl, h.1, h.2⟩
theorem implCancelQ (d : Def) (hd : d.fits) (s : Saga) (now : Int) : EntQ Try.prog 35 [.d (defD d), .d (sagaD s), .d (.i .i64 now)] [] (fun R O => ∃ x : SagaOut, x = cancelM d s now ∧ R = .d (outD x) ∧ O = []) :=
  entQ_mono (implCancel d hd s now) fun h => ⟨_, rfl, h.1, h.2⟩
theorem specReplyX {d : Def} (hd : d.fits) {s : Saga} {c : Cmd} {g : Bool} {now : Int} {x : SagaOut} (hx : x = replyM d s c g now) : Ent Try.prog 42 [.d (defD d), .d (sagaD s), .d (cmdD c), .d (.b g), .d (.i .i64 now)] [] (.d (outD x)) [] := by
  rw [hx]; exact specReply d hd s c g now
theorem specTickX {d : Def} (hd : d.fits) {s : Saga} {now : Int} {x : SagaOut} (hx : x = tickM d s now) : Ent Try.prog 41 [.d (defD d), .d (sagaD s), .d (.i .i64 now)] [] (.d (outD x)) [] := by
  rw [hx]; exact specTick d hd s now
theorem specCancelX {d : Def} (hd : d.fits) {s : Saga} {now : Int} {x : SagaOut} (hx : x = cancelM d s now) : Ent Try.prog 34 [.d (defD d), .d (sagaD s), .d (.i .i64 now)] [] (.d (outD x)) [] := by
  rw [hx]; exact specCancel d hd s now
theorem code_0 {x : SagaOut} (h : (!decide (x.code = 0)) = false) : x.code = 0 := by simpa using h
theorem x_on {d : Def} {s : Saga} {c : Cmd} {g : Bool} {now : Int} {x : SagaOut} (hx : x = replyM d s c g now) (h : (!decide (x.code = 0)) = false) : Good d x ∧ On d s x.saga := by
  subst hx; exact reply_on (code_0 h)
theorem y_on {d : Def} {s : Saga} {now : Int} {x : SagaOut} (hx : x = tickM d s now) (h : (!decide (x.code = 0)) = false) : Good d x ∧ On d s x.saga := by
  subst hx; exact tick_on (code_0 h)
theorem z_on {d : Def} {s : Saga} {now : Int} {x : SagaOut} (hx : x = cancelM d s now) (h : (!decide (x.code = 0)) = false) : Good d x ∧ On d s x.saga := by
  subst hx; exact cancel_on (code_0 h)
theorem owes_bad {d : Def} {x : SagaOut} (g : Good d x) (h : (!(x.owes == x.saga.waits)) = true) : False := by
  rw [g.owes] at h; simp at h
theorem cmd_bad {d : Def} {x : SagaOut} (g : Good d x) (ho : x.owes = true) (h : (!(decide (x.cmd.step = x.saga.pos) && (x.cmd.undo == decide (x.saga.ph = 2) && (decide (x.cmd.tr = x.saga.tries) && true)))) = true) : False := by
  rw [g.cmd ho] at h; simp [cmdOf] at h
theorem in_three {a b c : D} {k : Nat} (h : Nat.ble (k + 1) 3 = true) : 0 ≤ ((k : Nat) : Int) ∧ ((k : Nat) : Int) < (([a, b, c].length : Nat) : Int) := by
  have := Nat.le_of_ble_eq_true h
  simp only [List.length_cons, List.length_nil]; omega
theorem three_up {k : Nat} (h : k < 3) : IntKind.i64.wrap ((k : Int) + 1) = ((k + 1 : Nat) : Int) := by
  rw [wrap_i64_id _ (by omega) (by omega)]; omega
theorem three_mu {k : Nat} (h : k < 3) : 3 - (IntKind.i64.wrap ((k : Int) + 1)).toNat < 3 - ((k : Int)).toNat := by
  rw [three_up h]; omega
inductive MidA (d : Def) (s : Saga) (e : Def) (r : Saga) (x y z : SagaOut) (n : Int) (D1 : Def) (S1 : Saga) (st : St) : Prop
  | mk (e : st = ⟨[(5, .ptr 10005 0), (6, .ptr 10006 0), (10, .ptr 10010 0), (11, .ptr 10011 0), (16, .own 10084), (17, .d (.i .i64 n)), (18, .ptr 10018 0), (19, .ptr 10019 0)],
      [(10005, .var (AV.d (defD d)).cells), (10006, .var (AV.d (sagaD s)).cells), (10010, .var (AV.d (defD e)).cells), (10011, .var (AV.d (sagaD r)).cells), (10018, .var (AV.d (defD D1)).cells), (10019, .var (AV.d (sagaD S1)).cells), (10084, .arr 11 false [outD x, outD y, outD z])]⟩)
inductive MidB (d : Def) (s : Saga) (e : Def) (r : Saga) (x y z : SagaOut) (n : Int) (st : St) : Prop
  | mk (v : Bool) (hv : v = false) (e : st = ⟨[(5, .ptr 10005 0), (6, .ptr 10006 0), (10, .ptr 10010 0), (11, .ptr 10011 0), (16, .own 10084), (17, .d (.i .i64 n)), (143, .d (.b v))],
      [(10005, .var (AV.d (defD d)).cells), (10006, .var (AV.d (sagaD s)).cells), (10010, .var (AV.d (defD e)).cells), (10011, .var (AV.d (sagaD r)).cells), (10084, .arr 11 false [outD x, outD y, outD z])]⟩)
theorem cmd_ok {d : Def} {x : SagaOut} (g : Good d x) (ho : x.owes = true) : (!(decide (x.cmd.step = x.saga.pos) && (x.cmd.undo == decide (x.saga.ph = 2) && (decide (x.cmd.tr = x.saga.tries) && true)))) = false := by
  rw [g.cmd ho]; simp [cmdOf]
set_option maxHeartbeats 16000000 in
theorem fnSagaLaw (code more : List UInt8) : Ent Try.prog 12 [.d (.sl false (u8s code)), .d (.sl false (u8s more))] [] (.d (.b true)) [] := by
  refine ent_of tok mixed (f := 12) Try.func12 (by kernel_rfl) (keep := false) ?_
  repeat' ((conv => whnf) <;> (first | ((with_reducible refine isCall ?_) <;> (first | (refine ⟨_, drawSagaReply code (len_okS (by assumption)), ?_⟩; rintro _ _ ⟨d, s, c, g, now, rfl, rfl, hd⟩) | (refine ⟨_, drawSagaTick more (len_okS (by assumption)), ?_⟩; rintro _ _ ⟨e, r, late, rfl, rfl, he⟩) | (refine ⟨_, implReplyQ d hd.fits s c g now, ?_⟩; rintro _ _ ⟨x, hx, rfl, rfl⟩) | (refine ⟨_, implTickQ e he.fits r late, ?_⟩; rintro _ _ ⟨y, hy, rfl, rfl⟩) | (refine ⟨_, implCancelQ e he.fits r late, ?_⟩; rintro _ _ ⟨z, hz, rfl, rfl⟩) | (refine ⟨_, specReplyX hd.fits hx, ?_⟩; rintro _ _ ⟨rfl, rfl⟩) | (refine ⟨_, specTickX he.fits hy, ?_⟩; rintro _ _ ⟨rfl, rfl⟩) | (refine ⟨_, specCancelX he.fits hz, ?_⟩; rintro _ _ ⟨rfl, rfl⟩) | (refine ⟨_, lwOn d hd.fits s x.saga (x_on hx (by assumption)).2, ?_⟩; rintro _ _ ⟨rfl, rfl⟩) | (refine ⟨_, lwOn e he.fits r y.saga (y_on hy (by assumption)).2, ?_⟩; rintro _ _ ⟨rfl, rfl⟩) | (refine ⟨_, lwOn e he.fits r z.saga (z_on hz (by assumption)).2, ?_⟩; rintro _ _ ⟨rfl, rfl⟩) | (refine ⟨in_three rfl, ?_⟩) | (refine ⟨_, rfl, ?_⟩) | fail)) | ((with_reducible refine isLoop ?_) <;> (first | (refine ⟨[5, 6, 10, 11, 16, 17], [10005, 10006, 10010, 10011, 10084], fun st => ∃ (k : Nat) (n : Int), n = k ∧ k ≤ 3 ∧ st = ⟨[(5, .ptr 10005 0), (6, .ptr 10006 0), (10, .ptr 10010 0), (11, .ptr 10011 0), (16, .own 10084), (17, .d (.i .i64 n))], [(10005, .var (AV.d (defD d)).cells), (10006, .var (AV.d (sagaD s)).cells), (10010, .var (AV.d (defD e)).cells), (10011, .var (AV.d (sagaD r)).cells), (10084, .arr 11 false [outD x, outD y, outD z])]⟩, fun st => match look 17 st.env with | some (.d (.i _ n)) => 3 - n.toNat | _ => 0, ?_, ⟨0, 0, rfl, by decide, ?_⟩, ?_⟩; kernel_rfl; kernel_rfl; rintro _ ⟨k, n, hn, hk, rfl⟩; obtain rfl | rfl | rfl | rfl : k = 0 ∨ k = 1 ∨ k = 2 ∨ k = 3 := (by omega); all_goals subst hn) | (refine ⟨in_three rfl, ?_⟩) | (refine ⟨_, rfl, ?_⟩) | fail)) | ((with_reducible refine isCut ?_) <;> (first | refine ⟨(⟨some ([5, 6, 10, 11, 13, 14, 15, 80], [10005, 10006, 10010, 10011, 10013, 10014, 10015], fun s => s = ?S8)⟩ : Cut 8), ?_, ?_⟩ | (have _g : (0 : Nat) ≤ 3 := hk; refine ⟨(⟨some ([5, 6, 10, 11, 16, 17, 18, 19], [10005, 10006, 10010, 10011, 10018, 10019, 10084], MidA d s e r x y z ((0 : Nat) : Int) e r)⟩ : Cut 14), ?_, ?_⟩) | (have _g : (0 : Nat) ≤ 3 := hk; refine ⟨(⟨some ([5, 6, 10, 11, 16, 17, 143], [10005, 10006, 10010, 10011, 10084], MidB d s e r x y z ((0 : Nat) : Int))⟩ : Cut 19), ?_, ?_⟩) | (have _g : (1 : Nat) ≤ 3 := hk; refine ⟨(⟨some ([5, 6, 10, 11, 16, 17, 18, 19], [10005, 10006, 10010, 10011, 10018, 10019, 10084], MidA d s e r x y z ((1 : Nat) : Int) e r)⟩ : Cut 14), ?_, ?_⟩) | (have _g : (1 : Nat) ≤ 3 := hk; refine ⟨(⟨some ([5, 6, 10, 11, 16, 17, 143], [10005, 10006, 10010, 10011, 10084], MidB d s e r x y z ((1 : Nat) : Int))⟩ : Cut 19), ?_, ?_⟩) | (have _g : (2 : Nat) ≤ 3 := hk; refine ⟨(⟨some ([5, 6, 10, 11, 16, 17, 18, 19], [10005, 10006, 10010, 10011, 10018, 10019, 10084], MidA d s e r x y z ((2 : Nat) : Int) e r)⟩ : Cut 14), ?_, ?_⟩) | (have _g : (2 : Nat) ≤ 3 := hk; refine ⟨(⟨some ([5, 6, 10, 11, 16, 17, 143], [10005, 10006, 10010, 10011, 10084], MidB d s e r x y z ((2 : Nat) : Int))⟩ : Cut 19), ?_, ?_⟩) | (refine ⟨(⟨some ([5, 6, 10, 11, 16, 17, 18, 19], [10005, 10006, 10010, 10011, 10018, 10019, 10084], MidA d s e r x y z ((0 : Nat) : Int) d s)⟩ : Cut 16), ?_, ?_⟩) | refine ⟨⟨none⟩, ?_⟩)) | ((first | with_reducible refine isEx ?_ | with_reducible refine isAnd ?_ | with_reducible refine isOr ?_) <;> (first | (refine ⟨in_three rfl, ?_⟩) | (refine ⟨_, rfl, ?_⟩) | ((with_reducible refine isSmall ?_) <;> (refine ⟨?_, ?_⟩; kernel_rfl)) | refine ⟨rfl, ?_⟩ | refine ⟨Int.natCast_nonneg _, ?_⟩)) | with_reducible refine Both.mk ?_ ?_ | (rintro _ ⟨rfl⟩) | (rintro _ ⟨v, rfl, rfl⟩) | exact MidA.mk (by kernel_rfl) | (skip; have _g : (0 : Nat) ≤ 3 := hk; have _h : x.owes = false := by assumption; exact MidB.mk false rfl (by kernel_rfl)) | (skip; have _g : (0 : Nat) ≤ 3 := hk; exact MidB.mk _ (cmd_ok (x_on hx (by assumption)).1 (by assumption)) (by kernel_rfl)) | (skip; have _g : (1 : Nat) ≤ 3 := hk; have _h : y.owes = false := by assumption; exact MidB.mk false rfl (by kernel_rfl)) | (skip; have _g : (1 : Nat) ≤ 3 := hk; exact MidB.mk _ (cmd_ok (y_on hy (by assumption)).1 (by assumption)) (by kernel_rfl)) | (skip; have _g : (2 : Nat) ≤ 3 := hk; have _h : z.owes = false := by assumption; exact MidB.mk false rfl (by kernel_rfl)) | (skip; have _g : (2 : Nat) ≤ 3 := hk; exact MidB.mk _ (cmd_ok (z_on hz (by assumption)).1 (by assumption)) (by kernel_rfl)) | rintro _ rfl | exact rfl | (split <;> (rename_i h; first | (simp only [beq_self_eq_true, eq_self, decide_true, Bool.not_true, Bool.false_eq_true, Bool.and_true, Bool.and_self] at h; done) | exact (owes_bad (x_on hx (by assumption)).1 h).elim | exact (cmd_bad (x_on hx (by assumption)).1 (by assumption) h).elim | exact (owes_bad (y_on hy (by assumption)).1 h).elim | exact (cmd_bad (y_on hy (by assumption)).1 (by assumption) h).elim | exact (owes_bad (z_on hz (by assumption)).1 h).elim | exact (cmd_bad (z_on hz (by assumption)).1 (by assumption) h).elim | (try rw [h]))) | (split <;> (rename_i h; first | (simp only [beq_self_eq_true, eq_self, decide_true, Bool.not_true, Bool.false_eq_true] at h; done) | (try rw [h])))))
  all_goals try (conv => whnf)
  all_goals first
    | exact ⟨rfl, rfl⟩
    | exact (cmd_bad (x_on hx (by assumption)).1 (by assumption) (by assumption)).elim
    | exact (owes_bad (x_on hx (by assumption)).1 (by assumption)).elim
    | exact (cmd_bad (y_on hy (by assumption)).1 (by assumption) (by assumption)).elim
    | exact (owes_bad (y_on hy (by assumption)).1 (by assumption)).elim
    | exact (cmd_bad (z_on hz (by assumption)).1 (by assumption) (by assumption)).elim
    | exact (owes_bad (z_on hz (by assumption)).1 (by assumption)).elim
    | (have _g : (0 : Nat) ≤ 3 := hk
       refine ⟨⟨1, IntKind.i64.wrap (((0 : Nat) : Int) + 1), three_up (by decide), by decide, ?_⟩, cast ?_ (three_mu (k := 0) (by decide))⟩ <;> kernel_rfl)
    | (have _g : (1 : Nat) ≤ 3 := hk
       refine ⟨⟨2, IntKind.i64.wrap (((1 : Nat) : Int) + 1), three_up (by decide), by decide, ?_⟩, cast ?_ (three_mu (k := 1) (by decide))⟩ <;> kernel_rfl)
    | (have _g : (2 : Nat) ≤ 3 := hk
       refine ⟨⟨3, IntKind.i64.wrap (((2 : Nat) : Int) + 1), three_up (by decide), by decide, ?_⟩, cast ?_ (three_mu (k := 2) (by decide))⟩ <;> kernel_rfl)
    | (have _g : (0 : Nat) ≤ 3 := hk; exact MidB.mk false rfl (by kernel_rfl))
    | (have _g : (1 : Nat) ≤ 3 := hk; exact MidB.mk false rfl (by kernel_rfl))
    | exact MidB.mk false rfl (by kernel_rfl)
    | (with_reducible trace_state)
end Go.Pm.Try
