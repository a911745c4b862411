/-
How a saga goes on: plain laws.
-/
import Derived.Test.YtbenanocioeglaaSh
namespace Go.Pm.Try
open Go Go.Proofs
set_option linter.unusedVariables false
set_option linter.unusedSimpArgs false
/-- A right answer: the saga is right; what it owes is the command that it awaits. -/
structure Good (d : Def) (o : SagaOut) : Prop where
  ok : sagaOk d o.saga = true
  code : o.code = 0
  owes : o.owes = o.saga.waits
  cmd : o.owes = true → o.cmd = cmdOf o.saga
/-- How many sends a saga has before it, at most. -/
def sendsOf (s : Saga) : Int :=
  if s.ph = 1 then 80 + 10 * (7 - s.done) + (10 - s.tries) + (if s.waits = true then 1 else 0)
  else if s.ph = 2 then 10 * s.pos + (10 - s.tries) + (if s.waits = true then 1 else 0) else 0
theorem stepOk_num {t : Step} (h : stepOk t = true) : 1 ≤ t.tries ∧ t.tries ≤ 10 ∧ 0 ≤ t.back ∧ t.back ≤ 1000 ∧ 1 ≤ t.out ∧ t.out ≤ 1000 := by
  simp only [stepOk, nums, inside, Bool.and_eq_true, decide_eq_true_eq] at h
  omega
theorem time_in {n : Int} (h : timeOk n = true) : 0 ≤ n ∧ n ≤ 1000000000 := by
  simpa [timeOk, inside] using h
theorem ok_live {d : Def} {s : Saga} (hdef : defOk d = true) (hoa : owingAt d s = true) (hs : (s.ph = 1 ∧ s.pos = s.done ∧ 0 ≤ s.pos ∧ s.pos < d.steps.length) ∨ (s.ph = 2 ∧ back d s = true)) : sagaOk d s = true := by
  simp only [sagaOk, hdef, Bool.true_and]
  rcases hs with ⟨p1, p2, p3, p4⟩ | ⟨p1, p2⟩
  · have e1 : decide (s.pos = s.done) = true := decide_eq_true p2
    have e2 : inside s.pos 0 ((d.steps.length : Int) - 1) = true := by simp [inside]; omega
    simp only [sagaOk1, p1, if_true, e1, e2, hoa, Bool.and_true]
  · rw [sagaOk1, if_neg (by omega), if_pos p1, p2, hoa]; rfl
theorem send_good {d : Def} {s : Saga} {now : Int} {t : Step} (hdef : defOk d = true) (hat : d.steps[s.pos.toNat]? = some t) (hn : timeOk now = true) (h1 : 1 ≤ s.tries) (h2 : s.tries ≤ t.tries)
    (hs : (s.ph = 1 ∧ s.pos = s.done ∧ 0 ≤ s.pos ∧ s.pos < d.steps.length) ∨ (s.ph = 2 ∧ back d s = true)) :
    Good d (sendAt d s now) ∧ (sendAt d s now).saga = { s with waits := true, clock := IntKind.i64.wrap (now + t.out) } := by
  have hn := time_in hn
  have ht := stepOk_num (stepOk_of hdef hat)
  have hw : IntKind.i64.wrap (now + t.out) = now + t.out := wrap_i64_id _ (by omega) (by omega)
  rw [sendAt_get hat]
  refine ⟨⟨?_, rfl, rfl, fun _ => rfl⟩, rfl⟩
  have ho : owing t { s with waits := true, clock := IntKind.i64.wrap (now + t.out) } = true := by
    rw [hw]
    simp only [owing, inside, Bool.true_or, Bool.and_true, Bool.and_eq_true, decide_eq_true_eq]
    omega
  have hoa : owingAt d { s with waits := true, clock := IntKind.i64.wrap (now + t.out) } = true := by
    rw [owingAt_get (s := { s with waits := true, clock := IntKind.i64.wrap (now + t.out) }) hat]; exact ho
  exact ok_live hdef hoa hs
theorem lowest_undo (d : Def) : ∀ (k : Nat), 0 ≤ lowest d k → undoAt d (lowest d k) = true
  | 0, h => by simp [lowest] at h
  | k + 1, h => by
    cases hu : undoAt d (k : Nat) with
    | true => rw [lowest_yes hu]; exact hu
    | false => rw [lowest_no hu] at h ⊢; exact lowest_undo d k h
theorem turned_in {d : Def} {s : Saga} (h : turned d s = true) : 0 ≤ s.done ∧ s.done < d.steps.length ∧ (d.pivot < 0 ∨ s.done ≤ d.pivot) := by
  simp only [turned, inside, Bool.and_eq_true, Bool.or_eq_true, decide_eq_true_eq] at h
  omega
theorem ended4_good {d : Def} {s : Saga} (hdef : defOk d = true) (ht : turned d s = true) : Good d (ended s 4) := by
  refine ⟨?_, rfl, rfl, fun h => by cases h⟩
  show sagaOk d ⟨4, s.done, 0, 0, false, 0⟩ = true
  have : turned d ⟨4, s.done, 0, 0, false, 0⟩ = true := ht
  simp [sagaOk, hdef, sagaOk1, this, quiet]
theorem ended5_good {d : Def} {s : Saga} (hdef : defOk d = true) (h : (s.pos = s.done ∧ 0 ≤ d.pivot ∧ d.pivot < s.pos ∧ s.pos < d.steps.length) ∨ back d s = true) : Good d (ended s 5) := by
  refine ⟨?_, rfl, rfl, fun h => by cases h⟩
  show sagaOk d ⟨5, s.done, s.pos, 0, false, 0⟩ = true
  rcases h with ⟨h1, h2, h3, h4⟩ | h
  · have e1 : decide (s.pos = s.done) = true := decide_eq_true h1
    have e2 : decide (d.pivot ≥ 0) = true := decide_eq_true h2
    have e3 : inside s.pos (d.pivot + 1) ((d.steps.length : Int) - 1) = true := by simp [inside]; omega
    simp [sagaOk, hdef, sagaOk1, quiet, e1, e2, e3]
  · have hb : back d ⟨5, s.done, s.pos, 0, false, 0⟩ = true := h
    simp [sagaOk, hdef, sagaOk1, quiet, hb]
/-- Back, below step k. -/
theorem below_good {d : Def} {s : Saga} {k : Nat} {now : Int} (hdef : defOk d = true) (hn : timeOk now = true) (ht : turned d s = true) (hk : (k : Int) ≤ s.done) :
    Good d (belowM d s k now) ∧ (belowM d s k now).saga.done = s.done ∧
      ((lowest d k < 0 ∧ (belowM d s k now).saga.ph = 4) ∨ (0 ≤ lowest d k ∧ (belowM d s k now).saga.ph = 2 ∧ (belowM d s k now).saga.pos = lowest d k ∧ (belowM d s k now).saga.tries = 1 ∧ (belowM d s k now).saga.waits = true)) := by
  have hT := turned_in ht
  have hl := lowest_lt d k
  unfold belowM
  by_cases h : lowest d k < 0
  · rw [decide_eq_true h]
    exact ⟨ended4_good hdef ht, rfl, .inl ⟨h, rfl⟩⟩
  · rw [decide_eq_false h]
    have hu := lowest_undo d k (by omega)
    have hb : back d (wayBack s (lowest d k)) = true := by
      have e1 : turned d (wayBack s (lowest d k)) = true := ht
      have e2 : inside (lowest d k) 0 (s.done - 1) = true := by simp [inside]; omega
      show ((turned d (wayBack s (lowest d k)) && inside (lowest d k) 0 (s.done - 1)) && undoAt d (lowest d k)) = true
      rw [e1, e2, hu]; rfl
    obtain ⟨t, hat⟩ := get_ex (ss := d.steps) (k := (lowest d k).toNat) (by omega)
    have hnum := stepOk_num (stepOk_of hdef hat)
    obtain ⟨g, e⟩ := send_good (s := wayBack s (lowest d k)) hdef hat hn (by show (1 : Int) ≤ 1; omega) (by show (1 : Int) ≤ t.tries; omega) (.inr ⟨rfl, hb⟩)
    dsimp only
    refine ⟨g, by rw [e]; rfl, .inr ⟨by omega, by rw [e]; rfl, by rw [e]; rfl, by rw [e]; rfl, by rw [e]⟩⟩
theorem owing_in {t : Step} {s : Saga} (h : owing t s = true) : 0 ≤ s.clock ∧ s.clock ≤ 2000000000 ∧ 1 ≤ s.tries ∧ s.tries ≤ t.tries ∧ (s.waits = true ∨ s.tries < t.tries) := by
  simp only [owing, inside, Bool.and_eq_true, Bool.or_eq_true, decide_eq_true_eq] at h
  obtain ⟨⟨⟨a, b⟩, c, e⟩, f⟩ := h
  exact ⟨a, b, c, e, f⟩
theorem waitT_in {t : Step} {n : Int} (ht : stepOk t = true) (h1 : 1 ≤ n) (h2 : n ≤ 10) : 0 ≤ waitT t n ∧ waitT t n ≤ 512000 := by
  have hnum := stepOk_num ht
  obtain ⟨k, rfl⟩ : ∃ k : Nat, n = (k : Int) + 1 := ⟨(n - 1).toNat, by omega⟩
  have e3 : min ((k : Int) + 1 - 1).toNat 64 = k := by omega
  unfold waitT
  rw [e3]
  have hp : 1 ≤ (2 : Int) ^ k ∧ (2 : Int) ^ k ≤ 512 := by
    have h8 : k = 0 ∨ k = 1 ∨ k = 2 ∨ k = 3 ∨ k = 4 ∨ k = 5 ∨ k = 6 ∨ k = 7 ∨ k = 8 ∨ k = 9 := by omega
    rcases h8 with rfl | rfl | rfl | rfl | rfl | rfl | rfl | rfl | rfl | rfl <;> decide
  generalize (2 : Int) ^ k = p at *
  have w0 : 0 ≤ t.back * p := Int.mul_nonneg (by omega) (by omega)
  have w1 : t.back * p ≤ 1000 * 512 := Int.mul_le_mul (by omega) hp.2 (by omega) (by decide)
  rw [wrap_i64_id _ (by omega) (by omega)]
  omega
theorem ok_shape {d : Def} {s : Saga} (h : sagaOk d s = true) (hp : s.ph = 1 ∨ s.ph = 2) : (s.ph = 1 ∧ s.pos = s.done ∧ 0 ≤ s.pos ∧ s.pos < d.steps.length) ∨ (s.ph = 2 ∧ back d s = true) := by
  simp only [sagaOk, Bool.and_eq_true] at h
  have h := h.2
  rcases hp with e | e
  · simp only [sagaOk1, e, inside] at h
    simp at h
    exact .inl ⟨e, by omega, by omega, by omega⟩
  · simp only [sagaOk1, e] at h
    simp at h
    exact .inr ⟨e, h.1⟩
theorem retry_good {d : Def} {s : Saga} {now : Int} {t : Step} (hok : sagaOk d s = true) (L : Live d s t) (hp : s.ph = 1 ∨ s.ph = 2) (hn : timeOk now = true) (hlt : s.tries < t.tries) :
    Good d (retry t s now) ∧ (retry t s now).saga = { s with waits := false, clock := IntKind.i64.wrap (now + waitT t s.tries) } := by
  have hn := time_in hn
  have hnum := stepOk_num L.ok
  have hO := owing_in L.ow
  have hW := waitT_in L.ok hO.2.2.1 (by omega)
  have hw : IntKind.i64.wrap (now + waitT t s.tries) = now + waitT t s.tries := wrap_i64_id _ (by omega) (by omega)
  refine ⟨⟨?_, rfl, rfl, fun h => by cases h⟩, rfl⟩
  have ho : owing t { s with waits := false, clock := IntKind.i64.wrap (now + waitT t s.tries) } = true := by
    rw [hw]
    simp only [owing, inside, Bool.false_or, Bool.and_eq_true, decide_eq_true_eq]
    omega
  have hoa : owingAt d { s with waits := false, clock := IntKind.i64.wrap (now + waitT t s.tries) } = true := by
    rw [owingAt_get (s := { s with waits := false, clock := IntKind.i64.wrap (now + waitT t s.tries) }) L.at_]; exact ho
  have hsh := ok_shape hok hp
  exact ok_live (sagaOk_def hok) hoa hsh
theorem back_in {d : Def} {s : Saga} (h : back d s = true) : turned d s = true ∧ 0 ≤ s.pos ∧ s.pos < s.done ∧ undoAt d s.pos = true := by
  simp only [back, inside, Bool.and_eq_true, decide_eq_true_eq] at h
  exact ⟨h.1.1, by omega, by omega, h.2⟩
theorem turns_turned {d : Def} {s : Saga} (hs : s.ph = 1 ∧ s.pos = s.done ∧ 0 ≤ s.pos ∧ s.pos < d.steps.length) (h : turns d s = true) : turned d s = true := by
  simp only [turns, Bool.and_eq_true, Bool.or_eq_true, decide_eq_true_eq] at h
  simp only [turned, inside, Bool.and_eq_true, Bool.or_eq_true, decide_eq_true_eq]
  omega
/-- One answer or one tick: right, with fewer sends before it. -/
structure Less (d : Def) (s : Saga) (o : SagaOut) : Prop extends Good d o where
  less : sendsOf o.saga + 1 ≤ sendsOf s
theorem sends_back {s : Saga} (h : s.ph = 2) (hw : s.waits = true) : sendsOf s = 10 * s.pos + (10 - s.tries) + 1 := by
  unfold sendsOf
  rw [if_neg (by omega), if_pos h, if_pos hw]
theorem sends_fore {s : Saga} (h : s.ph = 1) (hw : s.waits = true) : sendsOf s = 80 + 10 * (7 - s.done) + (10 - s.tries) + 1 := by
  unfold sendsOf
  rw [if_pos h, if_pos hw]
theorem sends_over {s : Saga} (h : s.ph = 3 ∨ s.ph = 4 ∨ s.ph = 5) : sendsOf s = 0 := by
  unfold sendsOf
  rw [if_neg (by omega), if_neg (by omega)]
/-- Sends from below step k, of a saga that had a step at or above k awaited. -/
theorem below_less {d : Def} {s : Saga} {k : Nat} {now : Int} {t : Step} (hdef : defOk d = true) (hn : timeOk now = true) (ht : turned d s = true) (hk : (k : Int) ≤ s.done) (hw : s.waits = true) (h1 : s.tries ≤ 10)
    (hs : (s.ph = 1 ∧ s.done ≤ 7) ∨ (s.ph = 2 ∧ (k : Int) ≤ s.pos)) : Less d s (belowM d s k now) := by
  obtain ⟨g, _, h⟩ := below_good hdef hn ht hk
  refine ⟨g, ?_⟩
  have hl := lowest_lt d k
  have hT := turned_in ht
  rcases hs with ⟨p, hd7⟩ | ⟨p, hp⟩
  · rw [sends_fore p hw]
    rcases h with ⟨_, h4⟩ | ⟨h0, h2, hp2, ht2, hw2⟩
    · rw [sends_over (.inr (.inl h4))]; omega
    · rw [sends_back h2 hw2, hp2, ht2]; omega
  · rw [sends_back p hw]
    rcases h with ⟨_, h4⟩ | ⟨h0, h2, hp2, ht2, hw2⟩
    · rw [sends_over (.inr (.inl h4))]; omega
    · rw [sends_back h2 hw2, hp2, ht2]; omega
theorem fail_less {d : Def} {s : Saga} {now : Int} {t : Step} (hok : sagaOk d s = true) (L : Live d s t) (hp : s.ph = 1 ∨ s.ph = 2) (hn : timeOk now = true) (hw : s.waits = true) : Less d s (failT d s t now) := by
  have hdef := sagaOk_def hok
  have hO := owing_in L.ow
  have hnum := stepOk_num L.ok
  have hl := defOk_len hdef
  have hd := L.d0; have hdn := L.dn
  unfold failT
  cases hlt : decide (s.tries < t.tries) with
  | true =>
    have hlt := of_decide_eq_true hlt
    obtain ⟨g, e⟩ := retry_good hok L hp hn hlt
    refine ⟨g, ?_⟩
    show sendsOf (retry t s now).saga + 1 ≤ _
    rw [e]
    unfold sendsOf
    rw [hw]
    rcases hp with p | p
    · simp [p]
    · simp [p]
  | false =>
    have hlt := of_decide_eq_false hlt
    rcases ok_shape hok hp with hs | ⟨p, hb⟩
    · cases htn : turns d s with
      | true =>
        show Less d s (belowM d s s.done.toNat now)
        exact below_less (t := t) hdef hn (turns_turned hs htn) (by omega) hw (by omega) (.inl ⟨hs.1, by omega⟩)
      | false =>
        show Less d s (ended s 5)
        have h5 : Good d (ended s 5) := by
          refine ended5_good hdef (.inl ⟨hs.2.1, ?_, ?_, hs.2.2.2⟩)
          all_goals
            simp only [turns, hs.1, decide_true, Bool.true_and, Bool.or_eq_false_iff, decide_eq_false_iff_not] at htn
            omega
        refine ⟨h5, ?_⟩
        rw [sends_over (s := (ended s 5).saga) (.inr (.inr rfl)), sends_fore hs.1 hw]
        omega
    · have htn : turns d s = false := by simp [turns, p]
      rw [htn]
      show Less d s (ended s 5)
      refine ⟨ended5_good hdef (.inr hb), ?_⟩
      have := back_in hb
      rw [sends_over (s := (ended s 5).saga) (.inr (.inr rfl)), sends_back p hw]
      omega
theorem good_less {d : Def} {s : Saga} {now : Int} {t : Step} (hok : sagaOk d s = true) (L : Live d s t) (hp : s.ph = 1 ∨ s.ph = 2) (hn : timeOk now = true) (hw : s.waits = true) : Less d s (goodM d s now) := by
  have hdef := sagaOk_def hok
  have hO := owing_in L.ow
  have hnum := stepOk_num L.ok
  have hl := defOk_len hdef
  have hd := L.d0; have hdn := L.dn; have hup := done_up L
  unfold goodM
  rcases ok_shape hok hp with hs | ⟨p, hb⟩
  · rw [show decide (s.ph = 2) = false from decide_eq_false (by omega)]
    show Less d s (sel _ (doneM s) (sendAt d (nextS s) now))
    rw [List.length_map]
    cases he : decide (IntKind.i64.wrap (s.done + 1) = (d.steps.length : Int)) with
    | true =>
      have he := of_decide_eq_true he
      show Less d s (doneM s)
      refine ⟨⟨?_, rfl, rfl, fun h => by cases h⟩, ?_⟩
      · show sagaOk d ⟨3, IntKind.i64.wrap (s.done + 1), 0, 0, false, 0⟩ = true
        simp [sagaOk, hdef, sagaOk1, he, quiet]
      · rw [sends_over (s := (doneM s).saga) (.inl rfl), sends_fore hs.1 hw]; omega
    | false =>
      have he := of_decide_eq_false he
      rw [hup] at he
      show Less d s (sendAt d (nextS s) now)
      have e1 : (nextS s).pos = s.done + 1 := hup
      have e2 : (nextS s).done = s.done + 1 := hup
      obtain ⟨t2, hat⟩ := get_ex (ss := d.steps) (k := (nextS s).pos.toNat) (by rw [e1]; omega)
      have hnum2 := stepOk_num (stepOk_of hdef hat)
      obtain ⟨g, e⟩ := send_good (s := nextS s) hdef hat hn (by show (1 : Int) ≤ 1; omega) (by show (1 : Int) ≤ t2.tries; omega) (.inl ⟨rfl, rfl, by rw [e1]; omega, by rw [e1]; omega⟩)
      refine ⟨g, ?_⟩
      rw [e, sends_fore (s := { nextS s with waits := true, clock := IntKind.i64.wrap (now + t2.out) }) rfl rfl, sends_fore hs.1 hw]
      show 80 + 10 * (7 - (nextS s).done) + (10 - 1) + 1 + 1 ≤ _
      rw [e2]; omega
  · rw [show decide (s.ph = 2) = true from decide_eq_true p]
    show Less d s (belowM d s s.pos.toNat now)
    have hB := back_in hb
    exact below_less (t := t) hdef hn hB.1 (by omega) hw (by omega) (.inr ⟨p, by omega⟩)
/-- A tick of a saga whose time has come and that awaits nothing: it sends again. -/
theorem again_good {d : Def} {s : Saga} {now : Int} {t : Step} (hok : sagaOk d s = true) (L : Live d s t) (hp : s.ph = 1 ∨ s.ph = 2) (hn : timeOk now = true) (hw : s.waits = false) :
    Good d (sendAt d (bump s) now) ∧ (sendAt d (bump s) now).saga.waits = true ∧ sendsOf (sendAt d (bump s) now).saga = sendsOf s := by
  have hdef := sagaOk_def hok
  have hO := owing_in L.ow
  have hnum := stepOk_num L.ok
  have hup : IntKind.i64.wrap (s.tries + 1) = s.tries + 1 := wrap_i64_id _ (by omega) (by omega)
  have hlt : s.tries < t.tries := by rcases hO.2.2.2.2 with h | h; · rw [hw] at h; cases h
                                     · exact h
  have hsh := ok_shape hok hp
  obtain ⟨g, e⟩ := send_good (s := bump s) hdef L.at_ hn (by show 1 ≤ IntKind.i64.wrap (s.tries + 1); omega) (by show IntKind.i64.wrap (s.tries + 1) ≤ t.tries; omega) hsh
  refine ⟨g, by rw [e], ?_⟩
  rw [e]
  unfold sendsOf bump
  dsimp only
  rw [hw, hup]
  rcases hp with p | p <;> simp [p] <;> omega
end Go.Pm.Try
