/-
A saga that is begun, and each of whose commands is answered somehow, or let go by, is over behind at most 160 sends.
-/
import Derived.Test.YtbenanocioeglaaBl
import Derived.Test.YtbenanocioeglaaDv
namespace Go.Pm.Try
open Go Go.Proofs
set_option linter.unusedVariables false
set_option linter.unusedSimpArgs false
set_option maxRecDepth 100000
theorem start_good {d : Def} {now : Int} (h : (start d now).code = 0) : Good d (start d now) ∧ timeOk now = true ∧ (start d now).saga.waits = true ∧ sendsOf (start d now).saga = 160 := by
  unfold start at h ⊢
  cases e : defOk d && timeOk now with
  | false => rw [e] at h; cases h
  | true =>
    obtain ⟨hdef, hn⟩ := Bool.and_eq_true_iff.1 e
    have hl := defOk_len hdef
    obtain ⟨t, hat⟩ := get_ex (ss := d.steps) (k := begun.pos.toNat) (by show 0 < d.steps.length; omega)
    have hnum := stepOk_num (stepOk_of hdef hat)
    obtain ⟨g, e2⟩ := send_good (s := begun) hdef hat hn (by show (1 : Int) ≤ 1; omega) (by show (1 : Int) ≤ t.tries; omega) (.inl ⟨rfl, rfl, by show (0 : Int) ≤ 0; omega, by show (0 : Int) < d.steps.length; omega⟩)
    dsimp only
    exact ⟨g, hn, by rw [e2], by rw [e2]; rfl⟩
theorem tick_step {d : Def} {o : SagaOut} (g : Good d o) (hl : over o.saga = false) (hc : o.saga.clock ≤ 1000000000) :
    Good d (tickM d o.saga o.saga.clock) ∧ (o.saga.waits = true → sendsOf (tickM d o.saga o.saga.clock).saga + 1 ≤ sendsOf o.saga) ∧
      (o.saga.waits = false → (tickM d o.saga o.saga.clock).saga.waits = true ∧ sendsOf (tickM d o.saga o.saga.clock).saga = sendsOf o.saga) := by
  have hp := over_live g.ok hl
  obtain ⟨t, L⟩ := live g.ok hp
  have hO := owing_in L.ow
  have hn : timeOk o.saga.clock = true := by simp [timeOk, inside]; omega
  have e1 : asked d o.saga o.saga.clock = true := by rw [asked, g.ok, hn]; rfl
  have e2 : tickM d o.saga o.saga.clock = sel o.saga.waits (failAt d o.saga o.saga.clock) (sendAt d (bump o.saga) o.saga.clock) := by
    rw [tickM, e1, tick1, hl, show decide (o.saga.clock < o.saga.clock) = false from decide_eq_false (by omega)]; rfl
  rw [e2]
  cases hw : o.saga.waits with
  | true =>
    rw [failAt_get L.at_]
    have h := fail_less (now := o.saga.clock) g.ok L hp hn hw
    exact ⟨h.toGood, fun _ => h.less, fun h => by cases h⟩
  | false =>
    have h := again_good g.ok L hp hn hw
    exact ⟨h.1, (fun h => by cases h), fun _ => h.2⟩
theorem cmdEq_self (c : Cmd) : cmdEq c c = true := by simp [cmdEq]
theorem reply_step {d : Def} {o : SagaOut} {good : Bool} {now : Int} (g : Good d o) (hl : over o.saga = false) (hw : o.saga.waits = true) (hn : timeOk now = true) : Less d o.saga (replyM d o.saga o.cmd good now) := by
  have hp := over_live g.ok hl
  obtain ⟨t, L⟩ := live g.ok hp
  have e1 : asked d o.saga now = true := by rw [asked, g.ok, hn]; rfl
  have ec : o.cmd = cmdOf o.saga := g.cmd (by rw [g.owes]; exact hw)
  have e2 : replyM d o.saga o.cmd good now = sel good (goodM d o.saga now) (failAt d o.saga now) := by
    rw [replyM, e1, reply1, hw, ec, cmdEq_self]; rfl
  rw [e2]
  cases good with
  | true => exact good_less g.ok L hp hn hw
  | false =>
    show Less d o.saga (failAt d o.saga now)
    rw [failAt_get L.at_]
    exact fail_less g.ok L hp hn hw
theorem sends_nonneg {d : Def} {o : SagaOut} (g : Good d o) : 0 ≤ sendsOf o.saga := by
  unfold sendsOf
  split
  · rename_i p
    obtain ⟨t, L⟩ := live g.ok (.inl p)
    have := owing_in L.ow; have := stepOk_num L.ok; have := L.dn; have := L.n8
    split <;> omega
  · split
    · rename_i p
      obtain ⟨t, L⟩ := live g.ok (.inr p)
      have := owing_in L.ow; have := stepOk_num L.ok; have := L.p0
      split <;> omega
    · omega
/-- Twice the sends, less one where one is on its way. -/
def wait1 (s : Saga) : Int := if s.waits = true then 1 else 0
theorem wait_in (s : Saga) : 0 ≤ wait1 s ∧ wait1 s ≤ 1 := by unfold wait1; split <;> omega
/-- What holds ahead of each round. -/
structure Round (d : Def) (o : SagaOut) (sends i : Int) : Prop where
  good : Good d o
  s0 : 0 ≤ sends
  s1 : sends + sendsOf o.saga ≤ 160
  i0 : 0 ≤ i
  i1 : i + 2 * sendsOf o.saga - wait1 o.saga ≤ 319
theorem Round.lt {d : Def} {o : SagaOut} {sends i : Int} (h : Round d o sends i) : i ≤ 320 ∧ sends ≤ 160 := by
  have := sends_nonneg h.good; have := wait_in o.saga; have := h.i1; have := h.s1
  omega
theorem round_up {d : Def} {o o' : SagaOut} {sends i : Int} (h : Round d o sends i) (hg : Good d o') (h1 : o.saga.waits = true → sendsOf o'.saga + 1 ≤ sendsOf o.saga) (h2 : o.saga.waits = false → o'.saga.waits = true ∧ sendsOf o'.saga = sendsOf o.saga)
    (n : Int) (hn : n = sends + wait1 o.saga) : Round d o' n (IntKind.i64.wrap (i + 1)) := by
  have hlt := h.lt
  have h0 := h.i0; have hs0 := h.s0; have hs1 := h.s1; have hi1 := h.i1
  have hw := wait_in o.saga; have hw' := wait_in o'.saga
  rw [wrap_i64_id (i + 1) (by omega) (by omega)]
  cases hc : o.saga.waits with
  | true =>
    have h1 := h1 hc
    have e : wait1 o.saga = 1 := by unfold wait1; rw [hc]; rfl
    exact ⟨hg, by omega, by omega, by omega, by omega⟩
  | false =>
    obtain ⟨h3, h4⟩ := h2 hc
    have e : wait1 o.saga = 0 := by unfold wait1; rw [hc]; rfl
    have e' : wait1 o'.saga = 1 := by unfold wait1; rw [h3]; rfl
    exact ⟨hg, by omega, by omega, by omega, by omega⟩
set_option maxHeartbeats 1000000 in
theorem drawSagaStart (code : List UInt8) (hc : code.length ≤ 1048576) : EntQ Try.prog 21 [.d (.sl false (u8s code))] [] (fun R O => ∃ (d : Def) (n : Int), R = .tup [.d (defD d), .d (.i .i64 n)] ∧ O = [] ∧ DefIn d) := by
  refine ent_of tok mixed (f := 21) Try.func21 (by kernel_rfl) (keep := false) ?_
  repeat' ((conv => whnf) <;> (first | ((with_reducible refine isCall ?_) <;> (first | (refine ⟨_, srcSource code hc, ?_⟩; rintro _ _ ⟨z, m, rfl, rfl, hs⟩) | (refine ⟨_, srcDef (m := m) hs, ?_⟩; rintro _ _ ⟨d, k2, m2, rfl, rfl, hs2, hd⟩) | (refine ⟨_, srcOne (m := m2) hs2 8 (by decide), ?_⟩; rintro _ _ ⟨b3, k3, m3, rfl, rfl, hs3⟩) | (refine ⟨_, srcEdge (m := m3) hs3, ?_⟩; rintro _ _ ⟨n, k4, m4, rfl, rfl, hs4, hn⟩) | (refine ⟨_, srcN (m := m3) hs3 99 (by decide), ?_⟩; rintro _ _ ⟨n, k4, m4, rfl, rfl, hs4, hn⟩) | fail)) | ((with_reducible refine isCut ?_) <;> (first | refine ⟨⟨none⟩, ?_⟩)) | ((first | with_reducible refine isEx ?_ | with_reducible refine isAnd ?_ | with_reducible refine isOr ?_) <;> (first | ((with_reducible refine isSmall ?_) <;> (refine ⟨?_, ?_⟩; kernel_rfl)) | refine ⟨rfl, ?_⟩ | refine ⟨Int.natCast_nonneg _, ?_⟩)) | with_reducible refine Both.mk ?_ ?_ | rintro _ rfl | exact rfl | (split <;> (rename_i h; first | (simp only [beq_self_eq_true, eq_self, decide_true, Bool.not_true, Bool.false_eq_true] at h; done) | (try rw [h])))))
  all_goals (conv => whnf)
  all_goals exact ⟨d, n, rfl, rfl, hd⟩
theorem at_need {l : List UInt8} {i : Int} (h0 : 0 ≤ i) (h : decide (((u8s l).length : Int) = 0) = false) : 0 ≤ i.tmod ((u8s l).length : Int) ∧ ∃ c : UInt8, (u8s l)[(i.tmod ((u8s l).length : Int)).toNat]? = some (.i .u8 c.toNat) := by
  have h := of_decide_eq_false h
  have a1 := Int.tmod_nonneg ((u8s l).length : Int) h0
  have a2 := Int.tmod_lt_of_pos i (b := ((u8s l).length : Int)) (by omega)
  exact ⟨a1, u8_ex a1 (decide_eq_true a2)⟩
theorem lwAt (l : List UInt8) (i m : Int) (h0 : 0 ≤ i) : EntQ Try.prog 24 [.d (.sl false (u8s l)), .d (.i .i64 i), .d (.i .i64 m)] [] (fun R O => ∃ r : Int, R = .d (.i .i64 r) ∧ O = []) := by
  refine ent_of tok mixed (f := 24) Try.func24 (by kernel_rfl) (keep := false) ?_
  repeat' ((conv => whnf) <;> (first | ((with_reducible refine isCall ?_) <;> (first | exact ⟨_, rfl, rfl⟩ | (refine ⟨of_decide_eq_false (by assumption), ?_⟩) | (refine ⟨(at_need h0 (by assumption)).1, ?_⟩) | (obtain ⟨c, hc⟩ := (at_need h0 (by assumption)).2; refine ⟨_, hc, ?_⟩) | (refine ⟨(by have := of_decide_eq_false (by assumption : decide (m ≤ 1) = false); omega), ?_⟩) | fail)) | ((with_reducible refine isCut ?_) <;> (first | refine ⟨⟨none⟩, ?_⟩)) | ((first | with_reducible refine isEx ?_ | with_reducible refine isAnd ?_ | with_reducible refine isOr ?_) <;> (first | exact ⟨_, rfl, rfl⟩ | (refine ⟨of_decide_eq_false (by assumption), ?_⟩) | (refine ⟨(at_need h0 (by assumption)).1, ?_⟩) | (obtain ⟨c, hc⟩ := (at_need h0 (by assumption)).2; refine ⟨_, hc, ?_⟩) | (refine ⟨(by have := of_decide_eq_false (by assumption : decide (m ≤ 1) = false); omega), ?_⟩) | ((with_reducible refine isSmall ?_) <;> (refine ⟨?_, ?_⟩; kernel_rfl)) | refine ⟨rfl, ?_⟩ | refine ⟨Int.natCast_nonneg _, ?_⟩)) | with_reducible refine Both.mk ?_ ?_ | rintro _ rfl | exact rfl | (split <;> (rename_i h; first | (simp only [beq_self_eq_true, eq_self, decide_true, Bool.not_true, Bool.false_eq_true] at h; done) | (try rw [h])))))
  all_goals (conv => whnf)
  all_goals (with_reducible trace_state)
end Go.Pm.Try
