import Derived.Test.YtbenanocioeglaaSj
namespace Go.Pm.Try
open Go Go.Proofs
set_option linter.unusedVariables false
set_option linter.unusedSimpArgs false
set_option maxRecDepth 100000
def lowOf (s : Saga) : Int := sel (decide (s.ph = 4)) (-1) s.pos
def noUndid (d : Def) (s : Saga) : Bool := (!(sagaOk d s) || decide (s.ph = 1)) || decide (s.ph = 3)
theorem undid_no {d : Def} {s : Saga} (h : noUndid d s = true) : undid d s = [] := by
  simp only [noUndid, Bool.or_eq_true, Bool.not_eq_true', decide_eq_true_eq] at h
  unfold undid
  cases hk : sagaOk d s with
  | false => rfl
  | true =>
    rw [hk] at h
    rcases h with (h | h) | h
    · cases h
    · rw [h]; rfl
    · rw [h]; rfl
theorem undid_yes {d : Def} {s : Saga} (h : noUndid d s = false) : undid d s = downs d (lowOf s) s.done.toNat := by
  simp only [noUndid, Bool.or_eq_false_iff, Bool.not_eq_false', decide_eq_false_iff_not] at h
  obtain ⟨⟨h1, h2⟩, h3⟩ := h
  unfold undid
  rw [h1, show decide (s.ph = 1) = false from decide_eq_false h2, show decide (s.ph = 3) = false from decide_eq_false h3]
  rfl
/-- Where something was, or is, made undone. -/
theorem undid_facts {d : Def} {s : Saga} (h : noUndid d s = false) : 0 ≤ s.done ∧ s.done < d.steps.length ∧ d.steps.length ≤ 8 ∧ -1 ≤ lowOf s ∧ (s.ph = 2 ∨ s.ph = 4 ∨ s.ph = 5) ∧ (s.ph = 2 → s.pos < s.done) := by
  simp only [noUndid, Bool.or_eq_false_iff, Bool.not_eq_false', decide_eq_false_iff_not] at h
  obtain ⟨⟨h1, h2⟩, h3⟩ := h
  simp only [sagaOk, Bool.and_eq_true] at h1
  have hl := defOk_len h1.1
  have h1 := h1.2
  by_cases e2 : s.ph = 2
  · simp [sagaOk1, e2, back, turned, inside] at h1
    have e4 : decide (s.ph = 4) = false := decide_eq_false (by omega)
    simp only [lowOf, e4, sel]
    exact ⟨by omega, by omega, by omega, by omega, .inl e2, fun _ => by omega⟩
  · by_cases e4 : s.ph = 4
    · simp [sagaOk1, e4, turned, inside] at h1
      rw [show lowOf s = -1 by rw [lowOf, e4]; rfl]
      exact ⟨by omega, by omega, by omega, by omega, .inr (.inl e4), fun h => by omega⟩
    · by_cases e5 : s.ph = 5
      · have e4 : decide (s.ph = 4) = false := decide_eq_false (by omega)
        simp only [lowOf, e4, sel]
        simp [sagaOk1, e5, back, turned, inside, quiet] at h1
        rcases h1.1 with h1 | h1
        · exact ⟨by omega, by omega, by omega, by omega, .inr (.inr e5), fun h => by omega⟩
        · exact ⟨by omega, by omega, by omega, by omega, .inr (.inr e5), fun h => by omega⟩
      · simp [sagaOk1, h2, e2, h3, e4, e5] at h1
theorem undid_len (d : Def) (s : Saga) : (undid d s).length ≤ 8 := by
  cases h : noUndid d s with
  | true => rw [undid_no h]; simp
  | false =>
    have := undid_facts h
    have := downs_len d (lowOf s) s.done.toNat
    rw [undid_yes h]; omega
theorem i64_cells (l : List Int) : ∀ y, y ∈ l.map i64D → y.cells.length = 1 := by
  intro y hy
  obtain ⟨n, _, rfl⟩ := List.mem_map.1 hy
  rfl
theorem gt_wrap {k n : Nat} {low : Int} (h : decide ((k : Int) - 1 > low) = true) (h0 : -1 ≤ low) (hn : k ≤ n) (hm : n ≤ maxLen) : IntKind.i64.wrap ((k : Int) - 1 - 1) = ((k - 1 : Nat) : Int) - 1 :=
  down_wrap (decide_eq_true (by have := of_decide_eq_true h; omega)) hn hm
theorem gt_mu {k n : Nat} {low : Int} (h : decide ((k : Int) - 1 > low) = true) (h0 : -1 ≤ low) (hn : k ≤ n) (hm : n ≤ maxLen) : (IntKind.i64.wrap ((k : Int) - 1 - 1) + 1).toNat < (((k : Int) - 1) + 1).toNat :=
  down_mu (decide_eq_true (by have := of_decide_eq_true h; omega)) hn hm
theorem downs_step {d : Def} {k : Nat} {t : Step} {low : Int} (h : decide ((k : Int) - 1 > low) = true) (h0 : -1 ≤ low) (ht : d.steps[((k : Int) - 1).toNat]? = some t) :
    downs d low k = sel (!decide (t.undo = [])) (((k : Int) - 1) :: downs d low (k - 1)) (downs d low (k - 1)) := by
  have h := of_decide_eq_true h
  obtain ⟨j, rfl⟩ : ∃ j, k = j + 1 := ⟨k - 1, by omega⟩
  have e : (((j + 1 : Nat) : Int) - 1) = j := by omega
  rw [e] at ht h ⊢
  rw [Int.toNat_natCast] at ht
  have hu : undoAt d (j : Nat) = !decide (t.undo = []) := by simp only [undoAt, Int.toNat_natCast, ht]
  rw [Nat.add_sub_cancel]
  cases hb : (!decide (t.undo = [])) with
  | true => rw [hb] at hu; exact downs_yes h hu
  | false => rw [hb] at hu; exact downs_no hu
theorem room_ok {xs : List D} {out : List Int} {k n : Nat} (hx : xs = out.map i64D) (h : out.length + k ≤ n) (hk : 1 ≤ k) (hn : n ≤ 8) : room (xs.length + [D.i .i64 0].length) 8 := by
  rw [hx]
  simp only [room, List.length_map, List.length_cons, List.length_nil]
  have : maxLen = 9223372036854775807 := rfl
  omega
theorem app_len {out : List Int} {k n : Nat} {low : Int} (ho : out.length + k ≤ n) (h : decide ((k : Int) - 1 > low) = true) (h0 : -1 ≤ low) : (out ++ [(k : Int) - 1]).length + (k - 1) ≤ n := by
  have := of_decide_eq_true h
  simp only [List.length_append, List.length_cons, List.length_nil]; omega
theorem app_down {d : Def} {L out : List Int} {k : Nat} {t : Step} {low : Int} (hu : L = out ++ downs d low k) (h : decide ((k : Int) - 1 > low) = true) (h0 : -1 ≤ low) (ht : d.steps[((k : Int) - 1).toNat]? = some t) (h2 : (!decide (t.undo = [])) = true) :
    L = (out ++ [(k : Int) - 1]) ++ downs d low (k - 1) := by
  rw [hu, downs_step h h0 ht, h2]; simp only [sel, List.append_assoc, List.cons_append, List.nil_append]
theorem skip_down {d : Def} {L out : List Int} {k : Nat} {t : Step} {low : Int} (hu : L = out ++ downs d low k) (h : decide ((k : Int) - 1 > low) = true) (h0 : -1 ≤ low) (ht : d.steps[((k : Int) - 1).toNat]? = some t) (h2 : (!decide (t.undo = [])) = false) :
    L = out ++ downs d low (k - 1) := by
  rw [hu, downs_step h h0 ht, h2]; simp only [sel]
theorem undid_start {d : Def} {s : Saga} (h : noUndid d s = false) : IntKind.i64.wrap (s.done - 1) = (s.done.toNat : Int) - 1 ∧ undid d s = [] ++ downs d (lowOf s) s.done.toNat := by
  have F := undid_facts h
  refine ⟨?_, undid_yes h⟩
  rw [wrap_i64_id _ (by omega) (by omega)]; omega
theorem lowOf_pos {s : Saga} (h : decide (s.ph = 4) = false) : s.pos = lowOf s := by rw [lowOf, h]; rfl
theorem lowOf_neg {s : Saga} (h : decide (s.ph = 4) = true) : -1 = lowOf s := by rw [lowOf, h]; rfl
set_option maxHeartbeats 4000000 in
theorem specUndid (d : Def) (hd : d.fits) (s : Saga) : Ent Try.prog 27 [.d (defD d), .d (sagaD s)] [] (.d (.sl false ((undid d s).map i64D))) [] := by
  obtain ⟨u, hu⟩ : ∃ u, u = sagaOk d s := ⟨_, rfl⟩
  have c1 := specSagaRight d hd s
  rw [← hu] at c1
  have hno : (!u) = false → decide (s.ph = 1) = false → decide (s.ph = 3) = false → noUndid d s = false := fun h1 h2 h3 => by rw [noUndid, ← hu, h1, h2, h3]; rfl
  have hyes : noUndid d s = true → undid d s = [] := undid_no
  have hst : noUndid d s = false → _ := undid_start
  have F : noUndid d s = false → _ := undid_facts
  obtain ⟨L, hL⟩ : ∃ L, L = undid d s := ⟨_, rfl⟩
  rw [← hL] at hst ⊢
  refine ent_of tok mixed (f := 27) Try.func27 (by kernel_rfl) (keep := false) ?_
  repeat' ((conv => whnf) <;> (first | ((with_reducible refine isCall ?_) <;> (first | (refine ⟨_, c1, ?_⟩; rintro _ _ ⟨rfl, rfl⟩) | (obtain ⟨t, ht⟩ := get_ex (ss := d.steps) (k := ((k : Int) - 1).toNat) (by have := of_decide_eq_true (by assumption : decide ((k : Int) - 1 > lowOf s) = true); omega); refine ⟨_, get_map' ht, ?_⟩) | refine ⟨(by have := of_decide_eq_true (by assumption : decide ((k : Int) - 1 > lowOf s) = true); omega : 0 ≤ (k : Int) - 1), ?_⟩ | (refine ⟨⟨(by decide), rfl, rfl, room_ok hxs ho (by have := of_decide_eq_true (by assumption : decide ((k : Int) - 1 > lowOf s) = true); omega) (by omega)⟩, ?_⟩) | fail)) | ((with_reducible refine isLoop ?_) <;> (first | (refine ⟨[7, 6, 5, 2], [10002, 10008], fun st => ∃ (k : Nat) (n low : Int) (out : List Int) (xs : List D), n = (k : Int) - 1 ∧ k ≤ s.done.toNat ∧ low = lowOf s ∧ xs = out.map i64D ∧ out.length + k ≤ s.done.toNat ∧ L = out ++ downs d (lowOf s) k ∧ st = ⟨[(7, .d (.i .i64 n)), (6, .d (.i .i64 low)), (5, .own 10008), (2, .ptr 10002 0)], [(10002, .var (AV.d (defD d)).cells), (10008, .arr 1 false xs)]⟩, fun st => match look 7 st.env with | some (.d (.i _ n)) => (n + 1).toNat | _ => 0, rfl, ⟨s.done.toNat, _, _, [], [], (hst (hno (by assumption) (by assumption) (by assumption))).1, Nat.le_refl _, (by first | exact lowOf_pos (by assumption) | exact lowOf_neg (by assumption)), rfl, by simp, (hst (hno (by assumption) (by assumption) (by assumption))).2, rfl⟩, ?_⟩; have F := F (hno (by assumption) (by assumption) (by assumption)); rintro st ⟨k, n, low, out, xs, rfl, hk, rfl, hxs, ho, hu2, rfl⟩) | (obtain ⟨t, ht⟩ := get_ex (ss := d.steps) (k := ((k : Int) - 1).toNat) (by have := of_decide_eq_true (by assumption : decide ((k : Int) - 1 > lowOf s) = true); omega); refine ⟨_, get_map' ht, ?_⟩) | refine ⟨(by have := of_decide_eq_true (by assumption : decide ((k : Int) - 1 > lowOf s) = true); omega : 0 ≤ (k : Int) - 1), ?_⟩ | (refine ⟨⟨(by decide), rfl, rfl, room_ok hxs ho (by have := of_decide_eq_true (by assumption : decide ((k : Int) - 1 > lowOf s) = true); omega) (by omega)⟩, ?_⟩) | fail)) | ((with_reducible refine isCut ?_) <;> (first | refine ⟨⟨none⟩, ?_⟩)) | ((first | with_reducible refine isEx ?_ | with_reducible refine isAnd ?_ | with_reducible refine isOr ?_) <;> (first | (obtain ⟨t, ht⟩ := get_ex (ss := d.steps) (k := ((k : Int) - 1).toNat) (by have := of_decide_eq_true (by assumption : decide ((k : Int) - 1 > lowOf s) = true); omega); refine ⟨_, get_map' ht, ?_⟩) | refine ⟨(by have := of_decide_eq_true (by assumption : decide ((k : Int) - 1 > lowOf s) = true); omega : 0 ≤ (k : Int) - 1), ?_⟩ | (refine ⟨⟨(by decide), rfl, rfl, room_ok hxs ho (by have := of_decide_eq_true (by assumption : decide ((k : Int) - 1 > lowOf s) = true); omega) (by omega)⟩, ?_⟩) | ((with_reducible refine isSmall ?_) <;> (refine ⟨?_, ?_⟩; kernel_rfl)) | refine ⟨rfl, ?_⟩ | refine ⟨Int.natCast_nonneg _, ?_⟩)) | with_reducible refine Both.mk ?_ ?_ | rintro _ rfl | exact rfl | (split <;> (rename_i h; first | (simp only [beq_self_eq_true, eq_self, decide_true, Bool.not_true, Bool.false_eq_true] at h; done) | (try rw [h])))))
  all_goals (conv => whnf)
  · refine ⟨congrArg (fun l => AV.d (D.sl false l)) ?_, rfl⟩
    rw [hL, hyes (by rw [noUndid, ← hu, h]; rfl)]; rfl
  · refine ⟨congrArg (fun l => AV.d (D.sl false l)) ?_, rfl⟩
    rw [hL, hyes (by rw [noUndid, h, Bool.or_true]; rfl)]; rfl
  · refine ⟨congrArg (fun l => AV.d (D.sl false l)) ?_, rfl⟩
    rw [hL, hyes (by rw [noUndid, h, Bool.or_true])]; rfl
  all_goals have hm : s.done.toNat ≤ maxLen := Nat.le_trans (show s.done.toNat ≤ 8 by omega) (Nat.le_of_ble_eq_true rfl)
  all_goals first
    | exact ⟨⟨k - 1, _, _, out ++ [(k : Int) - 1], _, gt_wrap (by assumption) F.2.2.2.1 hk hm, (by omega), rfl, (by rw [hxs, List.map_append]; rfl), app_len ho (by assumption) F.2.2.2.1, app_down hu2 (by assumption) F.2.2.2.1 ht (by assumption), rfl⟩, gt_mu (by assumption) F.2.2.2.1 hk hm⟩
    | exact ⟨⟨k - 1, _, _, out, _, gt_wrap (by assumption) F.2.2.2.1 hk hm, (by omega), rfl, hxs, (by omega), skip_down hu2 (by assumption) F.2.2.2.1 ht (by assumption), rfl⟩, gt_mu (by assumption) F.2.2.2.1 hk hm⟩
    | (refine ⟨congrArg (fun l => AV.d (D.sl false l)) ?_, rfl⟩
       rw [hxs, hu2, downs_low (by have := of_decide_eq_false h; omega), List.append_nil])
theorem noU {d : Def} {s : Saga} (hk : sagaOk d s = true) (hp : s.ph = 2 ∨ s.ph = 4 ∨ s.ph = 5) : noUndid d s = false := by
  have e1 : decide (s.ph = 1) = false := decide_eq_false (by omega)
  have e3 : decide (s.ph = 3) = false := decide_eq_false (by omega)
  rw [noUndid, hk, e1, e3]; rfl
theorem undid_other {d : Def} {s : Saga} (h2 : decide (s.ph = 2) = false) (h5 : s.ph = 5 → decide (s.pos < s.done) = false) (h4 : decide (s.ph = 4) = false) : undid d s = [] := by
  cases h : noUndid d s with
  | true => exact undid_no h
  | false =>
    have F := undid_facts h
    have h2 := of_decide_eq_false h2
    have h4' := of_decide_eq_false h4
    have h5 := of_decide_eq_false (h5 (by omega))
    rw [undid_yes h, downs_low]
    rw [lowOf, h4]
    show (s.done.toNat : Int) - 1 ≤ s.pos
    omega
theorem low_ok {d : Def} {s : Saga} (h : noUndid d s = false) : ((s.done.toNat : Nat) : Int) = s.done := Int.toNat_of_nonneg (undid_facts h).1
theorem lowest_app {d : Def} {L out : List Int} {k : Nat} {n low : Int} (hn : n = lowest d k) (h0 : -1 ≤ low) (hu : L = out ++ downs d low k) (h : decide (n > low) = true) : L = (out ++ [n]) ++ downs d low n.toNat := by
  rw [hu, downs_lowest d low h0, ← hn, h]; simp only [sel, List.append_assoc, List.cons_append, List.nil_append]
theorem lowest_out {d : Def} {L out : List Int} {k : Nat} {n low : Int} (hn : n = lowest d k) (h0 : -1 ≤ low) (hu : L = out ++ downs d low k) (h : decide (n > low) = false) : L = out := by
  rw [hu, downs_lowest d low h0, ← hn, h]; simp only [sel, List.append_nil]
set_option maxHeartbeats 4000000 in
theorem implUndid (d : Def) (hd : d.fits) (s : Saga) : EntQ Try.prog 29 [.d (defD d), .d (sagaD s)] []
    (fun R O => (R = .d (.sl false []) ∧ O = [] ∧ undid d s = []) ∨ (R = .own 0 ∧ O = [.arr 1 false ((undid d s).map i64D)])) := by
  obtain ⟨u, hu⟩ : ∃ u, u = sagaOk d s := ⟨_, rfl⟩
  have c1 := implSagaRight d hd s
  rw [← hu] at c1
  have hno : (!u) = false → (s.ph = 2 ∨ s.ph = 4 ∨ s.ph = 5) → noUndid d s = false := fun h hp => noU (hu.symm.trans (not_ok h)) hp
  have hbad : (!u) = true → undid d s = [] := fun h => undid_no (by rw [noUndid, ← hu, h]; rfl)
  have hoth : decide (s.ph = 2) = false → (s.ph = 5 → decide (s.pos < s.done) = false) → decide (s.ph = 4) = false → undid d s = [] := undid_other
  have hst : noUndid d s = false → _ := undid_start
  have F0 : noUndid d s = false → _ := undid_facts
  have c2 : (noUndid d s = false) → Ent Try.prog 81 [.d (defD d), .d (.i .i64 s.done)] [] (.d (.i .i64 (lowest d s.done.toNat))) [] := fun h => by
    have F := undid_facts h
    have c := implUndoBelow d s.done.toNat (by omega) hd.len
    rw [Int.toNat_of_nonneg F.1] at c
    exact c
  have c3 : ∀ (n : Int), 0 ≤ n → n < d.steps.length → Ent Try.prog 81 [.d (defD d), .d (.i .i64 n)] [] (.d (.i .i64 (lowest d n.toNat))) [] := fun n h0 h1 => by
    have c := implUndoBelow d n.toNat (by omega) hd.len
    rw [Int.toNat_of_nonneg h0] at c
    exact c
  have hl2 : decide (s.ph = 2) = true → s.pos = lowOf s := fun h => lowOf_pos (decide_eq_false (by have := of_decide_eq_true h; omega))
  have hl5 : decide (s.ph = 5) = true → s.pos = lowOf s := fun h => lowOf_pos (decide_eq_false (by have := of_decide_eq_true h; omega))
  have hl4 : (!decide (s.ph = 4)) = false → -1 = lowOf s := fun h => lowOf_neg (not_ok h)
  have hp2 : decide (s.ph = 2) = true → (s.ph = 2 ∨ s.ph = 4 ∨ s.ph = 5) := fun h => .inl (of_decide_eq_true h)
  have hp5 : decide (s.ph = 5) = true → (s.ph = 2 ∨ s.ph = 4 ∨ s.ph = 5) := fun h => .inr (.inr (of_decide_eq_true h))
  have hp4 : (!decide (s.ph = 4)) = false → (s.ph = 2 ∨ s.ph = 4 ∨ s.ph = 5) := fun h => .inr (.inl (of_decide_eq_true (not_ok h)))
  obtain ⟨L, hL⟩ : ∃ L, L = undid d s := ⟨_, rfl⟩
  rw [← hL] at hst hbad hoth ⊢
  refine ent_of (cx := ⟨tab, [], []⟩) tok mixed (f := 29) Try.func29 (by kernel_rfl) (keep := true) ?_
  repeat' ((conv => whnf) <;> (first | ((with_reducible refine isCall ?_) <;> (first | (refine ⟨_, c1, ?_⟩; rintro _ _ ⟨rfl, rfl⟩) | (refine ⟨_, c2 (hno (by assumption) (by first | exact hp2 (by assumption) | exact hp4 (by assumption) | exact hp5 (by assumption))), ?_⟩; rintro _ _ ⟨rfl, rfl⟩) | (refine ⟨_, c3 n (by have := of_decide_eq_true (by assumption : decide (n > lowOf s) = true); omega) (by have := lowest_lt d k; omega), ?_⟩; rintro _ _ ⟨rfl, rfl⟩) | (refine ⟨⟨(by decide), rfl, rfl, room_ok hxs ho (by have := of_decide_eq_true (by assumption : decide (n > lowOf s) = true); omega) (by omega)⟩, ?_⟩) | fail)) | ((with_reducible refine isLoop ?_) <;> (first | (refine ⟨[7, 6, 5, 2], [10002, 10032], fun st => ∃ (k : Nat) (n low : Int) (out : List Int) (xs : List D), n = lowest d k ∧ k ≤ s.done.toNat ∧ low = lowOf s ∧ xs = out.map i64D ∧ out.length + k ≤ s.done.toNat ∧ L = out ++ downs d (lowOf s) k ∧ st = ⟨[(7, .d (.i .i64 n)), (6, .own 10032), (5, .d (.i .i64 low)), (2, .ptr 10002 0)], [(10002, .var (AV.d (defD d)).cells), (10032, .arr 1 false xs)]⟩, fun st => match look 7 st.env with | some (.d (.i _ n)) => (n + 1).toNat | _ => 0, rfl, ⟨s.done.toNat, _, _, [], [], rfl, Nat.le_refl _, (by first | exact hl2 (by assumption) | exact hl4 (by assumption) | exact hl5 (by assumption)), rfl, by simp, (hst (hno (by assumption) (by first | exact hp2 (by assumption) | exact hp4 (by assumption) | exact hp5 (by assumption)))).2, rfl⟩, ?_⟩; have F := F0 (hno (by assumption) (by first | exact hp2 (by assumption) | exact hp4 (by assumption) | exact hp5 (by assumption))); rintro st ⟨k, n, low, out, xs, hn, hk, rfl, hxs, ho, hu2, rfl⟩; have hlt := lowest_lt d k; rw [← hn] at hlt) | (refine ⟨⟨(by decide), rfl, rfl, room_ok hxs ho (by have := of_decide_eq_true (by assumption : decide (n > lowOf s) = true); omega) (by omega)⟩, ?_⟩) | fail)) | ((with_reducible refine isCut ?_) <;> (first | refine ⟨⟨none⟩, ?_⟩)) | ((first | with_reducible refine isEx ?_ | with_reducible refine isAnd ?_ | with_reducible refine isOr ?_) <;> (first | (refine ⟨⟨(by decide), rfl, rfl, room_ok hxs ho (by have := of_decide_eq_true (by assumption : decide (n > lowOf s) = true); omega) (by omega)⟩, ?_⟩) | ((with_reducible refine isSmall ?_) <;> (refine ⟨?_, ?_⟩; kernel_rfl)) | refine ⟨rfl, ?_⟩ | refine ⟨Int.natCast_nonneg _, ?_⟩)) | with_reducible refine Both.mk ?_ ?_ | rintro _ rfl | exact rfl | (split <;> (rename_i h; first | (simp only [beq_self_eq_true, eq_self, decide_true, Bool.not_true, Bool.false_eq_true] at h; done) | (try rw [h])))))
  all_goals try (conv => whnf)
  all_goals first
    | exact .inl ⟨rfl, rfl, hbad h⟩
    | exact .inl ⟨rfl, rfl, hoth (by assumption) (fun e => by first | assumption | exact absurd e (of_decide_eq_false (by assumption))) (not_ok' h)⟩
    | (have hg := of_decide_eq_true (by assumption : decide (n > lowOf s) = true)
       exact ⟨⟨n.toNat, _, _, out ++ [n], _, rfl, (by omega), rfl, (by rw [hxs, List.map_append]; rfl), (by simp only [List.length_append, List.length_cons, List.length_nil]; omega), lowest_app hn F.2.2.2.1 hu2 (by assumption), rfl⟩, (by have := lowest_lt d n.toNat; show (lowest d n.toNat + 1).toNat < (n + 1).toNat; omega)⟩)
    | (refine .inr ⟨rfl, congrArg (fun l => [Ob.arr 1 false l]) ?_⟩
       rw [hxs, lowest_out hn F.2.2.2.1 hu2 h])
    | trace_state
end Go.Pm.Try
