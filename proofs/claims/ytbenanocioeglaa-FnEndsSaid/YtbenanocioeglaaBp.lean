/-
A saga that is begun, and each of whose commands is answered somehow, or let go by, is over behind at most 160 sends.
-/
import Derived.Test.YtbenanocioeglaaBn
import Derived.Test.YtbenanocioeglaaDr
namespace Go.Pm.Try
open Go Go.Proofs
set_option linter.unusedVariables false
set_option linter.unusedSimpArgs false
set_option maxRecDepth 100000
/-- The state ahead of each round. -/
inductive EndMid (d : Def) (now : Int) (more : List UInt8) (st : St) : Prop
  | mk (o : SagaOut) (sends i : Int) (h : Round d o sends i)
      (e : st = ⟨[(1, .d (.sl false (u8s more))), (5, .ptr 10005 0), (6, .d (.i .i64 now)), (7, .ptr 10007 0), (8, .d (.i .i64 sends)), (9, .d (.i .i64 i))],
        [(10005, .var (AV.d (defD d)).cells), (10007, .var (AV.d (outD o)).cells)]⟩)
theorem len_okE {l : List UInt8} (h : decide (((u8s l).length : Int) > 1048576) = false) : l.length ≤ 1048576 := by
  have h := of_decide_eq_false h
  unfold u8s at h
  rw [List.length_map] at h
  omega
theorem start_round {d : Def} {now : Int} (h : (!decide ((start d now).code = 0)) = false) : Round d (start d now) 0 0 := by
  obtain ⟨g, _, hw, hs⟩ := start_good (d := d) (now := now) (by simpa using h)
  have e : wait1 (start d now).saga = 1 := by unfold wait1; rw [hw]; rfl
  exact ⟨g, by omega, by omega, by omega, by omega⟩
theorem live_of {s : Saga} (h : (!over s) = true) : over s = false := by simpa using h
theorem over_no {s : Saga} (h : (!over s) = false) (h2 : over s = false) : False := by rw [h2] at h; cases h
theorem ret_tick {d : Def} {o : SagaOut} {sends i : Int} (hR : Round d o sends i) (hl : (!over o.saga) = true) (h : (!decide ((tickM d o.saga o.saga.clock).code = 0)) = true ∨ (!sagaOk d (tickM d o.saga o.saga.clock).saga) = true) : decide (o.saga.clock > 1000000000) = true := by
  by_cases hc : o.saga.clock ≤ 1000000000
  · have g := (tick_step hR.good (live_of hl) hc).1
    rcases h with h | h
    · rw [g.code] at h; cases h
    · rw [g.ok] at h; cases h
  · exact decide_eq_true (by omega)
theorem now_ok {d : Def} {now : Int} (h : (!decide ((start d now).code = 0)) = false) : timeOk now = true := (start_good (d := d) (now := now) (by simpa using h)).2.1
theorem ret_reply {d : Def} {o : SagaOut} {sends i now : Int} {b : Bool} (hR : Round d o sends i) (hl : (!over o.saga) = true) (hw : (!o.saga.waits) = false) (hn : timeOk now = true)
    (h : (!decide ((replyM d o.saga o.cmd b now).code = 0)) = true ∨ (!sagaOk d (replyM d o.saga o.cmd b now).saga) = true) : False := by
  have g := (reply_step (good := b) hR.good (live_of hl) (by simpa using hw) hn).toGood
  rcases h with h | h
  · rw [g.code] at h; cases h
  · rw [g.ok] at h; cases h
theorem owes_no {d : Def} {o : SagaOut} {sends i : Int} (hR : Round d o sends i) (h1 : o.owes = true) (h2 : (!o.saga.waits) = true) : False := by
  rw [hR.good.owes] at h1; rw [h1] at h2; cases h2
theorem owes_yes {d : Def} {o : SagaOut} {sends i : Int} (hR : Round d o sends i) (h1 : o.owes = false) (h2 : (!o.saga.waits) = false) : False := by
  rw [hR.good.owes] at h1; rw [h1] at h2; cases h2
theorem send_one {d : Def} {o : SagaOut} {sends i : Int} (hR : Round d o sends i) (h1 : o.owes = true) : IntKind.i64.wrap (sends + 1) = sends + wait1 o.saga := by
  have := hR.lt; have := hR.s0
  rw [hR.good.owes] at h1
  rw [wrap_i64_id _ (by omega) (by omega)]
  unfold wait1; rw [h1]; rfl
theorem send_no {d : Def} {o : SagaOut} {sends i : Int} (hR : Round d o sends i) (h1 : o.owes = false) : sends = sends + wait1 o.saga := by
  rw [hR.good.owes] at h1
  unfold wait1; rw [h1]; simp
theorem tick_late {d : Def} {s : Saga} (h : 1000000000 < s.clock) : (tickM d s s.clock).code = 1 := by
  have e : asked d s s.clock = false := by
    have : timeOk s.clock = false := by simp [timeOk, inside]; omega
    rw [asked, this, Bool.and_false]
  rw [tickM, e]; rfl
theorem round_tick {d : Def} {o : SagaOut} {sends i n : Int} (hR : Round d o sends i) (hl : (!over o.saga) = true) (hc : (!decide ((tickM d o.saga o.saga.clock).code = 0)) = false) (hn : n = sends + wait1 o.saga) : Round d (tickM d o.saga o.saga.clock) n (IntKind.i64.wrap (i + 1)) := by
  by_cases hk : o.saga.clock ≤ 1000000000
  · obtain ⟨g, h1, h2⟩ := tick_step hR.good (live_of hl) hk
    exact round_up hR g h1 h2 n hn
  · rw [tick_late (by omega)] at hc; cases hc
theorem round_reply {d : Def} {o : SagaOut} {sends i n now : Int} {b : Bool} (hR : Round d o sends i) (hl : (!over o.saga) = true) (hw : (!o.saga.waits) = false) (hnow : timeOk now = true) (hn : n = sends + wait1 o.saga) : Round d (replyM d o.saga o.cmd b now) n (IntKind.i64.wrap (i + 1)) := by
  have hw : o.saga.waits = true := by simpa using hw
  have h := reply_step (good := b) hR.good (live_of hl) hw hnow
  exact round_up hR h.toGood (fun _ => h.less) (fun h0 => by rw [hw] at h0; cases h0) n hn
theorem round_mu {d : Def} {o : SagaOut} {sends i : Int} (hR : Round d o sends i) : (400 - IntKind.i64.wrap (i + 1)).toNat < (400 - i).toNat := by
  have := hR.lt; have := hR.i0
  rw [wrap_i64_id _ (by omega) (by omega)]; omega
theorem round_few {d : Def} {o : SagaOut} {sends i : Int} (hR : Round d o sends i) : decide (sends ≤ 160) = true := decide_eq_true hR.lt.2
theorem round_in {d : Def} {o : SagaOut} {sends i : Int} (hR : Round d o sends i) (h : decide (i < 400) = false) : False := by
  have := hR.lt; have := of_decide_eq_false h; omega
set_option maxHeartbeats 8000000 in
theorem fnEndsLaw (code more : List UInt8) : Ent Try.prog 5 [.d (.sl false (u8s code)), .d (.sl false (u8s more))] [] (.d (.b true)) [] := by
  refine ent_of tok mixed (f := 5) Try.func5 (by kernel_rfl) (keep := false) ?_
  repeat' ((conv => whnf) <;> (first | ((with_reducible refine isCall ?_) <;> (first | (refine ⟨_, drawSagaStart code (len_okE (by assumption)), ?_⟩; rintro _ _ ⟨d, now, rfl, rfl, hd⟩) | (refine ⟨_, implStart d hd.fits now, ?_⟩; rintro _ _ ⟨rfl, rfl⟩) | (refine ⟨_, specStart d hd.fits now, ?_⟩; rintro _ _ ⟨rfl, rfl⟩) | (refine ⟨_, implOver o.saga, ?_⟩; rintro _ _ ⟨rfl, rfl⟩) | (refine ⟨_, implTick d hd.fits o.saga o.saga.clock, ?_⟩; rintro _ _ ⟨rfl, rfl⟩) | (refine ⟨_, lwAt more i 3 hR.i0, ?_⟩; rintro _ _ ⟨r, rfl, rfl⟩) | (refine ⟨_, implReply d hd.fits o.saga o.cmd _ now, ?_⟩; rintro _ _ ⟨rfl, rfl⟩) | (refine ⟨_, specSagaRight d hd.fits (tickM d o.saga o.saga.clock).saga, ?_⟩; rintro _ _ ⟨rfl, rfl⟩) | (refine ⟨_, specSagaRight d hd.fits (replyM d o.saga o.cmd _ now).saga, ?_⟩; rintro _ _ ⟨rfl, rfl⟩) | fail)) | ((with_reducible refine isLoop ?_) <;> (first | (refine ⟨[1, 5, 6, 7, 8, 9], [10005, 10007], EndMid d now more, fun st => match look 9 st.env with | some (.d (.i _ n)) => (400 - n).toNat | _ => 0, ?_, EndMid.mk (start d now) 0 0 (start_round (by assumption)) ?_, ?_⟩; kernel_rfl; kernel_rfl; rintro _ ⟨o, sends, i, hR, rfl⟩) | fail)) | ((with_reducible refine isCut ?_) <;> (first | refine ⟨⟨none⟩, ?_⟩)) | ((first | with_reducible refine isEx ?_ | with_reducible refine isAnd ?_ | with_reducible refine isOr ?_) <;> (first | ((with_reducible refine isSmall ?_) <;> (refine ⟨?_, ?_⟩; kernel_rfl)) | refine ⟨rfl, ?_⟩ | refine ⟨Int.natCast_nonneg _, ?_⟩)) | with_reducible refine Both.mk ?_ ?_ | rintro _ rfl | exact rfl | (split <;> (rename_i h; first | (simp only [beq_self_eq_true, eq_self, decide_true, Bool.not_true, Bool.false_eq_true] at h; done) | (try rw [h])))))
  all_goals try (conv => whnf)
  all_goals first
    | exact ⟨congrArg (fun b => AV.d (D.b b)) (decide_eq_true rfl), rfl⟩
    | exact ⟨congrArg (fun b => AV.d (D.b b)) (ret_tick hR (by assumption) (.inl h)), rfl⟩
    | exact ⟨congrArg (fun b => AV.d (D.b b)) (ret_tick hR (by assumption) (.inr h)), rfl⟩
    | exact (ret_reply hR (by assumption) (by assumption) (now_ok (by assumption)) (.inl h)).elim
    | exact (ret_reply hR (by assumption) (by assumption) (now_ok (by assumption)) (.inr h)).elim
    | exact (owes_no hR (by assumption) (by assumption)).elim
    | exact (owes_yes hR (by assumption) (by assumption)).elim
    | exact (round_in hR (by assumption)).elim
    | exact (over_no (by assumption) (by assumption)).elim
    | exact ⟨congrArg (fun b => AV.d (D.b b)) (round_few hR), rfl⟩
    | (refine ⟨EndMid.mk (tickM d o.saga o.saga.clock) (IntKind.i64.wrap (sends + 1)) (IntKind.i64.wrap (i + 1)) (round_tick hR (by assumption) (by assumption) (send_one hR (by assumption))) ?_, cast ?_ (round_mu hR)⟩ <;> kernel_rfl)
    | (refine ⟨EndMid.mk (tickM d o.saga o.saga.clock) sends (IntKind.i64.wrap (i + 1)) (round_tick hR (by assumption) (by assumption) (send_no hR (by assumption))) ?_, cast ?_ (round_mu hR)⟩ <;> kernel_rfl)
    | (refine ⟨EndMid.mk (replyM d o.saga o.cmd (decide (r = 1)) now) (IntKind.i64.wrap (sends + 1)) (IntKind.i64.wrap (i + 1)) (round_reply hR (by assumption) (by assumption) (now_ok (by assumption)) (send_one hR (by assumption))) ?_, cast ?_ (round_mu hR)⟩ <;> kernel_rfl)
    | (with_reducible trace_state)
end Go.Pm.Try
