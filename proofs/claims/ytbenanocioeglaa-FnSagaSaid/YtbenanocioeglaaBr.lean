/-
How a saga follows another one: plain laws.
-/
import Derived.Test.YtbenanocioeglaaBl
import Derived.Test.YtbenanocioeglaaSi
namespace Go.Pm.Try
open Go Go.Proofs
set_option linter.unusedVariables false
set_option linter.unusedSimpArgs false
/-- One saga goes on as another. -/
structure On (d : Def) (a b : Saga) : Prop where
  ok : sagaOk d b = true
  aok : sagaOk d a = true
  live : over a = false
  d0 : a.done ≤ b.done
  d1 : b.done ≤ a.done + 1
  bk : a.ph = 2 → b.ph ≠ 1 ∧ b.ph ≠ 3 ∧ b.done = a.done
  piv : 0 ≤ d.pivot → d.pivot < a.done → b.ph ≠ 2 ∧ b.ph ≠ 4
  und : ∃ more, undid d b = undid d a ++ more ∧ more.length ≤ 1
theorem downs_lt (d : Def) (low : Int) : ∀ (k : Nat) (x : Int), x ∈ downs d low k → x < k
  | 0, x, h => by simp [downs] at h
  | k + 1, x, h => by
    by_cases hl : (k : Int) > low
    · cases hu : undoAt d (k : Nat) with
      | true =>
        rw [downs_yes hl hu] at h
        rcases List.mem_cons.1 h with rfl | h
        · omega
        · have := downs_lt d low k x h; omega
      | false =>
        rw [downs_no hu] at h
        have := downs_lt d low k x h; omega
    · rw [downs_low (by omega)] at h; cases h
theorem downs_desc (d : Def) (low : Int) : ∀ (k : Nat), List.Pairwise (fun x y : Int => y < x) (downs d low k)
  | 0 => by simp [downs]
  | k + 1 => by
    by_cases hl : (k : Int) > low
    · cases hu : undoAt d (k : Nat) with
      | true =>
        rw [downs_yes hl hu]
        exact List.Pairwise.cons (fun x hx => downs_lt d low k x hx) (downs_desc d low k)
      | false =>
        rw [downs_no hu]
        exact downs_desc d low k
    · rw [downs_low (by omega)]; exact List.Pairwise.nil
theorem undid_desc (d : Def) (s : Saga) : List.Pairwise (fun x y : Int => y < x) (undid d s) := by
  unfold undid
  cases sagaOk d s with
  | false => exact List.Pairwise.nil
  | true =>
    show List.Pairwise _ (sel _ [] _)
    cases (decide (s.ph = 1) || decide (s.ph = 3)) with
    | true => exact List.Pairwise.nil
    | false => exact downs_desc d _ _
theorem downs_split (d : Def) {low p : Int} (h : low ≤ p) (hp : 0 ≤ p) : ∀ (k : Nat), p < (k : Int) → downs d low k = downs d p k ++ downs d low (p.toNat + 1)
  | 0, hk => by omega
  | k + 1, hk => by
    by_cases e : (k : Int) = p
    · have e2 : p.toNat = k := by omega
      rw [e2, downs_low (low := p) (k := k + 1) (by omega)]; rfl
    · have hk2 : p < (k : Int) := by omega
      have ih := downs_split d h hp k hk2
      cases hu : undoAt d (k : Nat) with
      | true => rw [downs_yes (by omega) hu, downs_yes (low := p) (by omega) hu, ih]; rfl
      | false => rw [downs_no hu, downs_no hu, ih]
theorem downs_empty (d : Def) {low : Int} (h0 : -1 ≤ low) {k : Nat} (h : lowest d k ≤ low) : downs d low k = [] := by
  rw [downs_lowest d low h0 k, show decide (lowest d k > low) = false from decide_eq_false (by omega)]; rfl
/-- One step more is undone. -/
theorem downs_one (d : Def) {low p : Int} {k : Nat} (h0 : -1 ≤ low) (h : low < p) (hp : 0 ≤ p) (hk : p < (k : Int)) (hu : undoAt d p = true) (hl : lowest d p.toNat ≤ low) : downs d low k = downs d p k ++ [p] := by
  have e : ((p.toNat : Nat) : Int) = p := Int.toNat_of_nonneg hp
  rw [downs_split d (by omega) hp k hk, downs_yes (low := low) (k := p.toNat) (by omega) (by rw [e]; exact hu), downs_empty d h0 hl, e]
theorem undid_13 {d : Def} {s : Saga} (h : s.ph = 1 ∨ s.ph = 3) : undid d s = [] := by
  unfold undid
  cases sagaOk d s with
  | false => rfl
  | true =>
    have : (decide (s.ph = 1) || decide (s.ph = 3)) = true := by rcases h with h | h <;> simp [h]
    rw [this]; rfl
theorem undid_25 {d : Def} {s : Saga} (hok : sagaOk d s = true) (h : s.ph = 2 ∨ s.ph = 5) : undid d s = downs d s.pos s.done.toNat := by
  unfold undid
  have e1 : (decide (s.ph = 1) || decide (s.ph = 3)) = false := by rcases h with h | h <;> simp [h]
  have e2 : decide (s.ph = 4) = false := by rcases h with h | h <;> simp [h]
  rw [hok, e1, e2]; rfl
theorem undid_4 {d : Def} {s : Saga} (hok : sagaOk d s = true) (h : s.ph = 4) : undid d s = downs d (-1) s.done.toNat := by
  unfold undid
  have e1 : (decide (s.ph = 1) || decide (s.ph = 3)) = false := by simp [h]
  have e2 : decide (s.ph = 4) = true := by simp [h]
  rw [hok, e1, e2]; rfl
theorem live_over {s : Saga} (h : s.ph = 1 ∨ s.ph = 2) : over s = false := by
  unfold over
  rcases h with h | h <;> rw [h] <;> rfl
/-- The same place. -/
theorem on_same {d : Def} {a b : Saga} (hb : sagaOk d b = true) (ha : sagaOk d a = true) (hp : a.ph = 1 ∨ a.ph = 2) (h1 : b.ph = a.ph) (h2 : b.done = a.done) (h3 : b.pos = a.pos) : On d a b := by
  refine ⟨hb, ha, live_over hp, by omega, by omega, fun h => by omega, fun h4 h5 => ?_, [], ?_, by simp⟩
  · rcases hp with e | e
    · omega
    · exfalso
      have := ok_shape ha (.inr e)
      rcases this with h | ⟨_, h⟩
      · omega
      · have := turned_in (back_in h).1; omega
  · rw [List.append_nil]
    rcases hp with e | e
    · rw [undid_13 (.inl (by omega)), undid_13 (.inl e)]
    · rw [undid_25 hb (.inl (by omega)), undid_25 ha (.inl e), h2, h3]
theorem on_below {d : Def} {s : Saga} {k : Nat} {now : Int} (hok : sagaOk d s = true) (hn : timeOk now = true) (ht : turned d s = true)
    (hs : (s.ph = 1 ∧ (k : Int) = s.done) ∨ (s.ph = 2 ∧ (k : Int) = s.pos)) : Good d (belowM d s k now) ∧ On d s (belowM d s k now).saga := by
  have hdef := sagaOk_def hok
  have hT := turned_in ht
  have hk : (k : Int) ≤ s.done := by
    rcases hs with ⟨_, e⟩ | ⟨p, e⟩
    · omega
    · rcases ok_shape hok (.inr p) with h | ⟨_, h⟩
      · omega
      · have := back_in h; omega
  obtain ⟨g, hd, h⟩ := below_good hdef hn ht hk
  have hl := lowest_lt d k
  refine ⟨g, g.ok, hok, live_over (by omega), by omega, by omega, fun _ => by omega, fun h4 h5 => by omega, ?_⟩
  rcases hs with ⟨p, e⟩ | ⟨p, e⟩
  · refine ⟨[], ?_, by simp⟩
    rw [undid_13 (s := s) (.inl p), List.append_nil]
    have ek : s.done.toNat = k := by omega
    rcases h with ⟨h0, h4⟩ | ⟨h0, h2, hp2, _, _⟩
    · rw [undid_4 g.ok h4, hd, ek, downs_empty d (by omega) (by omega)]
    · rw [undid_25 g.ok (.inl h2), hd, hp2, ek, downs_empty d (by omega) (by omega)]
  · have hb : back d s = true := by
      rcases ok_shape hok (.inr p) with h | ⟨_, h⟩
      · omega
      · exact h
    have hB := back_in hb
    have ek : s.pos.toNat = k := by omega
    refine ⟨[s.pos], ?_, by simp⟩
    rw [undid_25 hok (.inl p)]
    rcases h with ⟨h0, h4⟩ | ⟨h0, h2, hp2, _, _⟩
    · rw [undid_4 g.ok h4, hd]
      exact downs_one d (by omega) (by omega) hB.2.1 (by omega) hB.2.2.2 (by rw [ek]; omega)
    · rw [undid_25 g.ok (.inl h2), hd, hp2]
      exact downs_one d (by omega) (by omega) hB.2.1 (by omega) hB.2.2.2 (by rw [ek]; omega)
theorem on_fail {d : Def} {s : Saga} {now : Int} {t : Step} (hok : sagaOk d s = true) (L : Live d s t) (hp : s.ph = 1 ∨ s.ph = 2) (hn : timeOk now = true) : Good d (failT d s t now) ∧ On d s (failT d s t now).saga := by
  have hdef := sagaOk_def hok
  have hsh := ok_shape hok hp
  unfold failT
  cases hlt : decide (s.tries < t.tries) with
  | true =>
    obtain ⟨g, e⟩ := retry_good hok L hp hn (of_decide_eq_true hlt)
    exact ⟨g, on_same g.ok hok hp rfl rfl rfl⟩
  | false =>
    cases htn : turns d s with
    | true =>
      have hp1 : s.ph = 1 := by
        simp only [turns, Bool.and_eq_true, decide_eq_true_eq] at htn
        exact htn.1
      rcases hsh with hs | ⟨p, _⟩
      · have := L.d0
        exact on_below hok hn (turns_turned hs htn) (.inl ⟨hp1, by omega⟩)
      · omega
    | false =>
      show Good d (ended s 5) ∧ On d s (ended s 5).saga
      rcases hsh with hs | ⟨p, hb⟩
      · have h5 : Good d (ended s 5) := by
          refine ended5_good hdef (.inl ⟨hs.2.1, ?_, ?_, hs.2.2.2⟩)
          all_goals
            simp only [turns, hs.1, decide_true, Bool.true_and, Bool.or_eq_false_iff, decide_eq_false_iff_not] at htn
            omega
        refine ⟨h5, h5.ok, hok, live_over hp, Int.le_refl _, by show s.done ≤ s.done + 1; omega, fun h => by omega, fun _ _ => ⟨by show (5 : Int) ≠ 2; decide, by show (5 : Int) ≠ 4; decide⟩, [], ?_, by simp⟩
        rw [undid_13 (s := s) (.inl hs.1), undid_25 h5.ok (.inr rfl)]
        show downs d s.pos s.done.toNat = _
        rw [downs_low (by omega)]; rfl
      · have h5 := ended5_good hdef (.inr hb)
        refine ⟨h5, h5.ok, hok, live_over hp, Int.le_refl _, by show s.done ≤ s.done + 1; omega, fun h => ⟨by show (5 : Int) ≠ 1; decide, by show (5 : Int) ≠ 3; decide, rfl⟩, fun _ _ => ⟨by show (5 : Int) ≠ 2; decide, by show (5 : Int) ≠ 4; decide⟩, [], ?_, by simp⟩
        rw [undid_25 hok (.inl p), undid_25 h5.ok (.inr rfl), List.append_nil]; rfl
theorem on_good {d : Def} {s : Saga} {now : Int} {t : Step} (hok : sagaOk d s = true) (L : Live d s t) (hp : s.ph = 1 ∨ s.ph = 2) (hn : timeOk now = true) : Good d (goodM d s now) ∧ On d s (goodM d s now).saga := by
  have hdef := sagaOk_def hok
  have hl := defOk_len hdef
  have hd := L.d0; have hdn := L.dn; have hup := done_up L
  unfold goodM
  rcases ok_shape hok hp with hs | ⟨p, hb⟩
  · rw [show decide (s.ph = 2) = false from decide_eq_false (by omega)]
    show Good d (sel _ (doneM s) (sendAt d (nextS s) now)) ∧ On d s (sel _ (doneM s) (sendAt d (nextS s) now)).saga
    rw [List.length_map]
    cases he : decide (IntKind.i64.wrap (s.done + 1) = (d.steps.length : Int)) with
    | true =>
      have he := of_decide_eq_true he
      show Good d (doneM s) ∧ On d s (doneM s).saga
      have g : Good d (doneM s) := by
        refine ⟨?_, rfl, rfl, fun h => by cases h⟩
        show sagaOk d ⟨3, IntKind.i64.wrap (s.done + 1), 0, 0, false, 0⟩ = true
        simp [sagaOk, hdef, sagaOk1, he, quiet]
      have e2 : (doneM s).saga.done = s.done + 1 := hup
      refine ⟨g, g.ok, hok, live_over hp, by omega, by omega, fun h => by omega, fun _ _ => ⟨by show (3 : Int) ≠ 2; decide, by show (3 : Int) ≠ 4; decide⟩, [], ?_, by simp⟩
      rw [undid_13 (s := s) (.inl hs.1), undid_13 (.inr rfl)]; rfl
    | false =>
      have he := of_decide_eq_false he
      rw [hup] at he
      show Good d (sendAt d (nextS s) now) ∧ On d s (sendAt d (nextS s) now).saga
      have e1 : (nextS s).pos = s.done + 1 := hup
      have e2 : (nextS s).done = s.done + 1 := hup
      obtain ⟨t2, hat⟩ := get_ex (ss := d.steps) (k := (nextS s).pos.toNat) (by rw [e1]; omega)
      have hnum2 := stepOk_num (stepOk_of hdef hat)
      obtain ⟨g, e⟩ := send_good (s := nextS s) hdef hat hn (by show (1 : Int) ≤ 1; omega) (by show (1 : Int) ≤ t2.tries; omega) (.inl ⟨rfl, rfl, by rw [e1]; omega, by rw [e1]; omega⟩)
      have e3 : (sendAt d (nextS s) now).saga.done = s.done + 1 := by rw [e]; exact hup
      have e4 : (sendAt d (nextS s) now).saga.ph = 1 := by rw [e]; rfl
      refine ⟨g, g.ok, hok, live_over hp, by omega, by omega, fun h => by omega, fun _ _ => by omega, [], ?_, by simp⟩
      rw [undid_13 (s := s) (.inl hs.1), undid_13 (.inl e4)]; rfl
  · rw [show decide (s.ph = 2) = true from decide_eq_true p]
    have hB := back_in hb
    exact on_below hok hn hB.1 (.inr ⟨p, by omega⟩)
theorem sel_code {c : Bool} {a : SagaOut} {n : Int} (hn : n ≠ 0) (h : (sel c a (refused n)).code = 0) : c = true := by
  cases c with
  | true => rfl
  | false => exact absurd h hn
theorem sel_code' {c : Bool} {a : SagaOut} {n : Int} (hn : n ≠ 0) (h : (sel c (refused n) a).code = 0) : c = false := by
  cases c with
  | false => rfl
  | true => exact absurd h hn
theorem asked_in {d : Def} {s : Saga} {now : Int} (h : asked d s now = true) : sagaOk d s = true ∧ timeOk now = true := Bool.and_eq_true_iff.1 h
theorem reply_on {d : Def} {s : Saga} {c : Cmd} {good : Bool} {now : Int} (h : (replyM d s c good now).code = 0) : Good d (replyM d s c good now) ∧ On d s (replyM d s c good now).saga := by
  unfold replyM at h ⊢
  have ha := sel_code (by decide) h
  rw [ha] at h ⊢
  obtain ⟨hok, hn⟩ := asked_in ha
  show Good d (reply1 d s c good now) ∧ On d s (reply1 d s c good now).saga
  have h : (reply1 d s c good now).code = 0 := h
  unfold reply1 at h ⊢
  have hb := sel_code' (by decide) h
  rw [hb]
  simp only [Bool.or_eq_false_iff, Bool.not_eq_false'] at hb
  have hp := waits_live hok hb.1
  obtain ⟨t, L⟩ := live hok hp
  cases good with
  | true => exact on_good hok L hp hn
  | false =>
    show Good d (failAt d s now) ∧ On d s (failAt d s now).saga
    rw [failAt_get L.at_]
    exact on_fail hok L hp hn
theorem tick_on {d : Def} {s : Saga} {now : Int} (h : (tickM d s now).code = 0) : Good d (tickM d s now) ∧ On d s (tickM d s now).saga := by
  unfold tickM at h ⊢
  have ha := sel_code (by decide) h
  rw [ha] at h ⊢
  obtain ⟨hok, hn⟩ := asked_in ha
  show Good d (tick1 d s now) ∧ On d s (tick1 d s now).saga
  have h : (tick1 d s now).code = 0 := h
  unfold tick1 at h ⊢
  have hb := sel_code' (by decide) h
  rw [hb]
  simp only [Bool.or_eq_false_iff] at hb
  have hp := over_live hok hb.1
  obtain ⟨t, L⟩ := live hok hp
  show Good d (sel s.waits (failAt d s now) (sendAt d (bump s) now)) ∧ On d s (sel s.waits (failAt d s now) (sendAt d (bump s) now)).saga
  cases hw : s.waits with
  | true =>
    show Good d (failAt d s now) ∧ On d s (failAt d s now).saga
    rw [failAt_get L.at_]
    exact on_fail hok L hp hn
  | false =>
    obtain ⟨g, _, _⟩ := again_good hok L hp hn hw
    refine ⟨g, ?_⟩
    have e := sendAt_get (d := d) (s := bump s) (now := now) (t := t) L.at_
    have g' := g.ok
    show On d s (sendAt d (bump s) now).saga
    rw [e] at g' ⊢
    exact on_same g' hok hp rfl rfl rfl
theorem cancel_on {d : Def} {s : Saga} {now : Int} (h : (cancelM d s now).code = 0) : Good d (cancelM d s now) ∧ On d s (cancelM d s now).saga := by
  unfold cancelM at h ⊢
  have ha := sel_code (by decide) h
  rw [ha] at h ⊢
  obtain ⟨hok, hn⟩ := asked_in ha
  show Good d (cancel1 d s now) ∧ On d s (cancel1 d s now).saga
  have h : (cancel1 d s now).code = 0 := h
  unfold cancel1 at h ⊢
  have hb := sel_code' (by decide) h
  rw [hb]
  have hp := stays_live hb
  obtain ⟨t, L⟩ := live hok (.inl hp)
  have hd := L.d0
  have ht : turned d s = true := by
    rcases ok_shape hok (.inl hp) with hs | ⟨p, _⟩
    · simp only [stays, Bool.or_eq_false_iff, Bool.and_eq_false_iff, decide_eq_false_iff_not, hp] at hb
      simp only [turned, inside, Bool.and_eq_true, Bool.or_eq_true, decide_eq_true_eq]
      omega
    · omega
  exact on_below hok hn ht (.inl ⟨hp, by omega⟩)
end Go.Pm.Try
