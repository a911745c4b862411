import Derived.Test.YtbenanocioeglaaSe
namespace Go.Pm.Try
open Go Go.Proofs
set_option linter.unusedVariables false
set_option linter.unusedSimpArgs false
set_option maxRecDepth 100000
/-- The greatest step below k that has an Undo; -1 if there is none. -/
def lowest (d : Def) : Nat → Int
  | 0 => -1
  | k + 1 => match undoAt d (k : Nat) with | true => k | false => lowest d k
theorem lowest_lt (d : Def) : ∀ k : Nat, -1 ≤ lowest d k ∧ lowest d k < k
  | 0 => by simp [lowest]
  | k + 1 => by
    have := lowest_lt d k
    simp only [lowest]
    split <;> omega
theorem lowest_yes {d : Def} {k : Nat} (h : undoAt d (k : Nat) = true) : lowest d (k + 1) = k := by simp only [lowest, h]
theorem lowest_no {d : Def} {k : Nat} (h : undoAt d (k : Nat) = false) : lowest d (k + 1) = lowest d k := by simp only [lowest, h]
def sel {α : Type} (u : Bool) (a b : α) : α := match u with | true => a | false => b
def ended (s : Saga) (ph : Int) : SagaOut := ⟨⟨ph, s.done, sel (decide (ph = 5)) s.pos 0, 0, false, 0⟩, noCmd, false, 0⟩
def wayBack (s : Saga) (k : Int) : Saga := ⟨2, s.done, k, 1, false, 0⟩
def belowM (d : Def) (s : Saga) (k : Nat) (now : Int) : SagaOut := match decide (lowest d k < 0) with | true => ended s 4 | false => sendAt d (wayBack s (lowest d k)) now
theorem down_wrap {k n : Nat} (h : decide ((k : Int) - 1 ≥ 0) = true) (hn : k ≤ n) (hm : n ≤ maxLen) : IntKind.i64.wrap ((k : Int) - 1 - 1) = ((k - 1 : Nat) : Int) - 1 := by
  have : maxLen = 9223372036854775807 := rfl
  have := of_decide_eq_true h
  rw [wrap_i64_id _ (by omega) (by omega)]
  omega
theorem lowest_pred {d : Def} {k : Nat} {t : Step} (h : decide ((k : Int) - 1 ≥ 0) = true) (ht : d.steps[((k : Int) - 1).toNat]? = some t) (h2 : (!decide (t.undo = [])) = false) : lowest d k = lowest d (k - 1) := by
  have := of_decide_eq_true h
  obtain ⟨j, rfl⟩ : ∃ j, k = j + 1 := ⟨k - 1, by omega⟩
  have e : (((j + 1 : Nat) : Int) - 1).toNat = j := by omega
  rw [e] at ht
  have : undoAt d (j : Nat) = false := by simp only [undoAt, Int.toNat_natCast, ht, h2]
  rw [lowest_no this, Nat.add_sub_cancel]
theorem lowest_hit {d : Def} {k : Nat} {t : Step} (h : decide ((k : Int) - 1 ≥ 0) = true) (ht : d.steps[((k : Int) - 1).toNat]? = some t) (h2 : (!decide (t.undo = [])) = true) : lowest d k = (k : Int) - 1 := by
  have := of_decide_eq_true h
  obtain ⟨j, rfl⟩ : ∃ j, k = j + 1 := ⟨k - 1, by omega⟩
  have e : (((j + 1 : Nat) : Int) - 1).toNat = j := by omega
  rw [e] at ht
  have : undoAt d (j : Nat) = true := by simp only [undoAt, Int.toNat_natCast, ht, h2]
  rw [lowest_yes this]; omega
theorem lowest_end {d : Def} {k : Nat} (h : decide ((k : Int) - 1 ≥ 0) = false) : lowest d k = -1 := by
  have := of_decide_eq_false h
  have e : k = 0 := by omega
  rw [e]; rfl
theorem down_mu {k n : Nat} (h : decide ((k : Int) - 1 ≥ 0) = true) (hn : k ≤ n) (hm : n ≤ maxLen) : (IntKind.i64.wrap ((k : Int) - 1 - 1) + 1).toNat < (((k : Int) - 1) + 1).toNat := by
  rw [down_wrap h hn hm]
  have := of_decide_eq_true h
  omega
theorem below_yes {d : Def} {s : Saga} {b : Nat} {now i : Int} (h : lowest d b = i) (h0 : 0 ≤ i) : belowM d s b now = sendAt d (wayBack s i) now := by
  have e : decide (i < 0) = false := decide_eq_false (by omega)
  rw [belowM, h, e]
theorem below_no {d : Def} {s : Saga} {b : Nat} {now : Int} (h : lowest d b = -1) : belowM d s b now = ended s 4 := by
  rw [belowM, h]; rfl
theorem specBelow (d : Def) (s : Saga) (b : Nat) (now : Int) (hb : b ≤ d.steps.length) (hm : d.steps.length ≤ maxLen) :
    Ent Try.prog 121 [.d (defD d), .d (sagaD s), .d (.i .i64 (b : Int)), .d (.i .i64 now)] [] (.d (outD (belowM d s b now))) [] := by
  have hbm := Nat.le_trans hb hm
  have c1 : ∀ (i : Int) (t : Step), d.steps[i.toNat]? = some t → 0 ≤ i → Ent Try.prog 56 [.d (defD d), .d (sagaD (wayBack s i)), .d (.i .i64 now)] [] (.d (outD (sendAt d (wayBack s i) now))) [] := fun i t ht h0 =>
    specSend' now h0 (show i < _ by have := get_lt ht; omega)
  obtain ⟨o, ho⟩ : ∃ o, o = belowM d s b now := ⟨_, rfl⟩
  rw [← ho]
  refine ent_of tok mixed (f := 121) Try.func121 (by kernel_rfl) (keep := false) ?_
  repeat' ((conv => whnf) <;> (first | ((with_reducible refine isCall ?_) <;> (first | (refine ⟨_, c1 ((k : Int) - 1) t ht (of_decide_eq_true (by assumption)), ?_⟩; rintro _ _ ⟨rfl, rfl⟩) | (obtain ⟨t, ht⟩ := get_ex (ss := d.steps) (k := ((k : Int) - 1).toNat) (by have := of_decide_eq_true (by assumption : decide ((k : Int) - 1 ≥ 0) = true); omega); refine ⟨_, get_map' ht, ?_⟩) | refine ⟨of_decide_eq_true (by assumption), ?_⟩ | fail)) | ((with_reducible refine isLoop ?_) <;> (first | (refine ⟨[9, 3, 4, 5, 8], [10004, 10005, 10008], fun st => ∃ (k : Nat) (n : Int), n = (k : Int) - 1 ∧ k ≤ b ∧ lowest d b = lowest d k ∧ st = ⟨[(9, .d (.i .i64 n)), (3, .d (.i .i64 now)), (4, .ptr 10004 0), (5, .ptr 10005 0), (8, .ptr 10008 0)], [(10004, .var (AV.d (defD d)).cells), (10005, .var (AV.d (sagaD s)).cells), (10008, .var (AV.d (outD (refused 0))).cells)]⟩, fun st => match look 9 st.env with | some (.d (.i _ n)) => (n + 1).toNat | _ => 0, rfl, ⟨b, _, wrap_len1 hbm, Nat.le_refl _, rfl, rfl⟩, ?_⟩; rintro st ⟨k, n, rfl, hk, hu, rfl⟩) | (obtain ⟨t, ht⟩ := get_ex (ss := d.steps) (k := ((k : Int) - 1).toNat) (by have := of_decide_eq_true (by assumption : decide ((k : Int) - 1 ≥ 0) = true); omega); refine ⟨_, get_map' ht, ?_⟩) | refine ⟨of_decide_eq_true (by assumption), ?_⟩ | fail)) | ((with_reducible refine isCut ?_) <;> (first | refine ⟨⟨none⟩, ?_⟩)) | ((first | with_reducible refine isEx ?_ | with_reducible refine isAnd ?_ | with_reducible refine isOr ?_) <;> (first | (obtain ⟨t, ht⟩ := get_ex (ss := d.steps) (k := ((k : Int) - 1).toNat) (by have := of_decide_eq_true (by assumption : decide ((k : Int) - 1 ≥ 0) = true); omega); refine ⟨_, get_map' ht, ?_⟩) | refine ⟨of_decide_eq_true (by assumption), ?_⟩ | ((with_reducible refine isSmall ?_) <;> (refine ⟨?_, ?_⟩; kernel_rfl)) | refine ⟨rfl, ?_⟩ | refine ⟨Int.natCast_nonneg _, ?_⟩)) | with_reducible refine Both.mk ?_ ?_ | rintro _ rfl | exact rfl | (split <;> (rename_i h; first | (simp only [beq_self_eq_true, eq_self, decide_true, Bool.not_true, Bool.false_eq_true] at h; done) | (try rw [h])))))
  all_goals (conv => whnf)
  · refine ⟨congrArg (fun o => AV.d (outD o)) ?_, rfl⟩
    rw [ho, below_yes (hu.trans (lowest_hit (by assumption) ht (by assumption))) (of_decide_eq_true (by assumption))]
  · exact ⟨⟨k - 1, _, down_wrap (by assumption) hk hbm, by omega, hu.trans (lowest_pred (by assumption) ht (by assumption)), rfl⟩, down_mu (by assumption) hk hbm⟩
  · refine ⟨congrArg (fun o => AV.d (outD o)) ((?_ : ended s 4 = o)), rfl⟩
    rw [ho, below_no (hu.trans (lowest_end (by assumption)))]
theorem implUndoBelow (d : Def) (b : Nat) (hb : b ≤ d.steps.length) (hm : d.steps.length ≤ maxLen) : Ent Try.prog 81 [.d (defD d), .d (.i .i64 (b : Int))] [] (.d (.i .i64 (lowest d b))) [] := by
  have hbm := Nat.le_trans hb hm
  refine ent_of tok mixed (f := 81) Try.func81 (by kernel_rfl) (keep := false) ?_
  repeat' ((conv => whnf) <;> (first | ((with_reducible refine isCall ?_) <;> (first | (obtain ⟨t, ht⟩ := get_ex (ss := d.steps) (k := ((k : Int) - 1).toNat) (by have := of_decide_eq_true (by assumption : decide ((k : Int) - 1 ≥ 0) = true); omega); refine ⟨_, get_map' ht, ?_⟩) | refine ⟨of_decide_eq_true (by assumption), ?_⟩ | fail)) | ((with_reducible refine isLoop ?_) <;> (first | (refine ⟨[1, 2], [10002], fun st => ∃ (k : Nat) (n : Int), n = (k : Int) - 1 ∧ k ≤ b ∧ lowest d b = lowest d k ∧ st = ⟨[(1, .d (.i .i64 n)), (2, .ptr 10002 0)], [(10002, .var (AV.d (defD d)).cells)]⟩, fun st => match look 1 st.env with | some (.d (.i _ n)) => (n + 1).toNat | _ => 0, rfl, ⟨b, _, wrap_len1 hbm, Nat.le_refl _, rfl, rfl⟩, ?_⟩; rintro st ⟨k, n, rfl, hk, hu, rfl⟩) | (obtain ⟨t, ht⟩ := get_ex (ss := d.steps) (k := ((k : Int) - 1).toNat) (by have := of_decide_eq_true (by assumption : decide ((k : Int) - 1 ≥ 0) = true); omega); refine ⟨_, get_map' ht, ?_⟩) | refine ⟨of_decide_eq_true (by assumption), ?_⟩ | fail)) | ((with_reducible refine isCut ?_) <;> (first | refine ⟨⟨none⟩, ?_⟩)) | ((first | with_reducible refine isEx ?_ | with_reducible refine isAnd ?_ | with_reducible refine isOr ?_) <;> (first | (obtain ⟨t, ht⟩ := get_ex (ss := d.steps) (k := ((k : Int) - 1).toNat) (by have := of_decide_eq_true (by assumption : decide ((k : Int) - 1 ≥ 0) = true); omega); refine ⟨_, get_map' ht, ?_⟩) | refine ⟨of_decide_eq_true (by assumption), ?_⟩ | ((with_reducible refine isSmall ?_) <;> (refine ⟨?_, ?_⟩; kernel_rfl)) | refine ⟨rfl, ?_⟩ | refine ⟨Int.natCast_nonneg _, ?_⟩)) | with_reducible refine Both.mk ?_ ?_ | rintro _ rfl | exact rfl | (split <;> (rename_i h; first | (simp only [beq_self_eq_true, eq_self, decide_true, Bool.not_true, Bool.false_eq_true] at h; done) | (try rw [h])))))
  all_goals (conv => whnf)
  · exact ⟨⟨k - 1, _, down_wrap (by assumption) hk hbm, by omega, hu.trans (lowest_pred (by assumption) ht (by simp only [h, Bool.not_true])), rfl⟩, down_mu (by assumption) hk hbm⟩
  · refine ⟨congrArg (fun i => AV.d (D.i .i64 i)) ?_, rfl⟩
    exact (hu.trans (lowest_hit (by assumption) ht (by simp only [h, Bool.not_false]))).symm
  · refine ⟨congrArg (fun i => AV.d (D.i .i64 i)) ?_, rfl⟩
    have := of_decide_eq_false h
    rw [hu, lowest_end h]; omega
theorem implEnds (s : Saga) (ph : Int) : Ent Try.prog 116 [.d (sagaD s), .d (.i .i64 ph)] [] (.d (outD (ended s ph))) [] := by
  obtain ⟨u, hu⟩ : ∃ u, u = decide (ph = 5) := ⟨_, rfl⟩
  have e : ended s ph = ⟨⟨ph, s.done, sel u s.pos 0, 0, false, 0⟩, noCmd, false, 0⟩ := by rw [ended, hu]
  rw [e]
  rw [hu]
  refine ent_of tok mixed (f := 116) Try.func116 (by kernel_rfl) (keep := false) ?_
  repeat' ((conv => whnf) <;> (first | ((with_reducible refine isCall ?_) <;> (first | fail)) | ((with_reducible refine isCut ?_) <;> (first | refine ⟨⟨none⟩, ?_⟩)) | ((first | with_reducible refine isEx ?_ | with_reducible refine isAnd ?_ | with_reducible refine isOr ?_) <;> (first | ((with_reducible refine isSmall ?_) <;> (refine ⟨?_, ?_⟩; kernel_rfl)) | refine ⟨rfl, ?_⟩ | refine ⟨Int.natCast_nonneg _, ?_⟩)) | with_reducible refine Both.mk ?_ ?_ | rintro _ rfl | exact rfl | (split <;> (rename_i h; first | (simp only [beq_self_eq_true, eq_self, decide_true, Bool.not_true, Bool.false_eq_true] at h; done) | (try rw [h])))))
theorem implBackTo (d : Def) (s : Saga) (b : Nat) (now : Int) (hb : b ≤ d.steps.length) (hm : d.steps.length ≤ maxLen) :
    Ent Try.prog 78 [.d (defD d), .d (sagaD s), .d (.i .i64 (b : Int)), .d (.i .i64 now)] [] (.d (outD (belowM d s b now))) [] := by
  have hl := lowest_lt d b
  obtain ⟨i, hi⟩ : ∃ i, i = lowest d b := ⟨_, rfl⟩
  have c1 := implUndoBelow d b hb hm
  rw [← hi] at c1 hl
  have c2 : decide (i < 0) = false → Ent Try.prog 59 [.d (defD d), .d (sagaD (wayBack s i)), .d (.i .i64 now)] [] (.d (outD (sendAt d (wayBack s i) now))) [] := fun h =>
    implSend' now (Int.not_lt.1 (of_decide_eq_false h)) (show i < _ by omega)
  obtain ⟨o, ho⟩ : ∃ o, o = sendAt d (wayBack s i) now := ⟨_, rfl⟩
  rw [← ho] at c2
  have e : belowM d s b now = match decide (i < 0) with | true => ended s 4 | false => o := by rw [belowM, ← hi, ho]
  rw [e]
  refine ent_of tok mixed (f := 78) Try.func78 (by kernel_rfl) (keep := false) ?_
  repeat' ((conv => whnf) <;> (first | ((with_reducible refine isCall ?_) <;> (first | (refine ⟨_, c1, ?_⟩; rintro _ _ ⟨rfl, rfl⟩) | (refine ⟨_, implEnds s 4, ?_⟩; rintro _ _ ⟨rfl, rfl⟩) | (refine ⟨_, c2 (by assumption), ?_⟩; rintro _ _ ⟨rfl, rfl⟩) | fail)) | ((with_reducible refine isCut ?_) <;> (first | refine ⟨⟨none⟩, ?_⟩)) | ((first | with_reducible refine isEx ?_ | with_reducible refine isAnd ?_ | with_reducible refine isOr ?_) <;> (first | ((with_reducible refine isSmall ?_) <;> (refine ⟨?_, ?_⟩; kernel_rfl)) | refine ⟨rfl, ?_⟩ | refine ⟨Int.natCast_nonneg _, ?_⟩)) | with_reducible refine Both.mk ?_ ?_ | rintro _ rfl | exact rfl | (split <;> (rename_i h; first | (simp only [beq_self_eq_true, eq_self, decide_true, Bool.not_true, Bool.false_eq_true] at h; done) | (try rw [h])))))
end Go.Pm.Try
