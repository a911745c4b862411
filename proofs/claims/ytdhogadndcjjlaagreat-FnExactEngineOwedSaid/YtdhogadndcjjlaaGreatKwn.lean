/-
A part of the proof (packed).
-/
import Derived.Test.YtdhogadndcjjlaaGreatKwm
namespace Go.Pm.Tryz
open Go Go.Proofs
set_option linter.unusedVariables false
set_option linter.unusedSimpArgs false
set_option maxRecDepth 100000
def rowsAt (ts : List Tab) (i : Nat) : List (List Val) := (ts.getD i ⟨⟨[], [], [], []⟩, []⟩).rows
noncomputable def engBody (ts : List Tab) : Bool := dec (defsB (rowsAt ts 0) (rowsAt ts 3)) && sagasB (rowsAt ts 0) (rowsAt ts 1) (rowsAt ts 2) (rowsAt ts 3)
noncomputable def engOk (s : Sto) : Bool := stoOk s && (dec (engT s.tabs) && engBody s.tabs)
theorem sto_db {s : Sto} (h : stoOk s = true) : dbP s.tabs := by
  unfold stoOk at h
  simp only [Bool.and_eq_true] at h
  exact of_dec h.2.2.2.1
theorem eng_p {a b c d : List (List Val)} (h : dbP (engTs a b c d)) : EngP a b c d :=
  ⟨(h.tabs 0 _ rfl).tab, (h.tabs 1 _ rfl).tab, (h.tabs 2 _ rfl).tab, (h.tabs 3 _ rfl).tab⟩
set_option maxHeartbeats 2000000 in
theorem specEngineRight (s : Sto) (hs : s.fits) : Ent Tryz.prog 8 [.d (stoD s)] [] (.d (.b (engOk s))) [] := by
  obtain ⟨o, ho⟩ : ∃ o, o = engOk s := ⟨_, rfl⟩
  rw [← ho]
  unfold engOk at ho
  have c1 := specStoreRight s hs
  cases h1 : stoOk s with
  | false =>
    rw [h1] at ho c1
    have e : o = false := ho
    subst e
    refine ent_of tok mixed (f := 8) Tryz.func8 (by kernel_rfl) (keep := false) ?_
    repeat' ((conv => whnf) <;> (first | ((with_reducible refine isCall ?_) <;> (first | (refine ⟨_, c1, ?_⟩; rintro _ _ ⟨rfl, rfl⟩) | fail)) | ((with_reducible refine isCut ?_) <;> (first | refine ⟨⟨none⟩, ?_⟩)) | ((first | with_reducible refine isEx ?_ | with_reducible refine isAnd ?_ | with_reducible refine isOr ?_) <;> (first | ((with_reducible refine isSmall ?_) <;> (refine ⟨?_, ?_⟩; kernel_rfl)) | refine ⟨rfl, ?_⟩ | refine ⟨Int.natCast_nonneg _, ?_⟩)) | with_reducible refine Both.mk ?_ ?_ | rintro _ rfl | exact rfl | (split <;> (rename_i h; first | (simp only [beq_self_eq_true, eq_self, decide_true, Bool.not_true, Bool.false_eq_true] at h; done) | (try rw [h])))))
    all_goals try (conv => whnf)
    all_goals first | exact ⟨rfl, rfl⟩ | trace_state
  | true =>
    have hd := sto_db h1
    have c2 := specTables s.tabs hd hs.tab
    rw [h1] at ho c1
    cases h2 : dec (engT s.tabs) with
    | false =>
      rw [h2] at ho c2
      have e : o = false := ho
      subst e
      refine ent_of tok mixed (f := 8) Tryz.func8 (by kernel_rfl) (keep := false) ?_
      repeat' ((conv => whnf) <;> (first | ((with_reducible refine isCall ?_) <;> (first | (refine ⟨_, c1, ?_⟩; rintro _ _ ⟨rfl, rfl⟩) | (refine ⟨_, c2, ?_⟩; rintro _ _ ⟨rfl, rfl⟩) | fail)) | ((with_reducible refine isCut ?_) <;> (first | refine ⟨⟨none⟩, ?_⟩)) | ((first | with_reducible refine isEx ?_ | with_reducible refine isAnd ?_ | with_reducible refine isOr ?_) <;> (first | ((with_reducible refine isSmall ?_) <;> (refine ⟨?_, ?_⟩; kernel_rfl)) | refine ⟨rfl, ?_⟩ | refine ⟨Int.natCast_nonneg _, ?_⟩)) | with_reducible refine Both.mk ?_ ?_ | rintro _ rfl | exact rfl | (split <;> (rename_i h; first | (simp only [beq_self_eq_true, eq_self, decide_true, Bool.not_true, Bool.false_eq_true] at h; done) | (try rw [h])))))
      all_goals try (conv => whnf)
      all_goals first | exact ⟨rfl, rfl⟩ | trace_state
    | true =>
      obtain ⟨a, b, c, d, hts⟩ := of_dec h2
      have hE : EngP a b c d := eng_p (by rw [hts] at hd; exact hd)
      have c3 := specDefs hE
      have c4 := specSagas hE
      rw [h2] at ho c2
      unfold engBody rowsAt at ho
      rw [show engTs a b c d = s.tabs from hts.symm] at c3 c4
      rw [hts] at ho
      simp only [Bool.true_and] at ho
      have ho : o = (dec (defsB a d) && sagasB a b c d) := ho
      generalize dec (defsB a d) = u at *
      generalize sagasB a b c d = v at *
      cases u
      all_goals
        refine ent_of tok mixed (f := 8) Tryz.func8 (by kernel_rfl) (keep := false) ?_
        repeat' ((conv => whnf) <;> (first | ((with_reducible refine isCall ?_) <;> (first | (refine ⟨_, c1, ?_⟩; rintro _ _ ⟨rfl, rfl⟩) | (refine ⟨_, c2, ?_⟩; rintro _ _ ⟨rfl, rfl⟩) | (refine ⟨_, c3, ?_⟩; rintro _ _ ⟨rfl, rfl⟩) | (refine ⟨_, c4, ?_⟩; rintro _ _ ⟨rfl, rfl⟩) | fail)) | ((with_reducible refine isCut ?_) <;> (first | refine ⟨⟨none⟩, ?_⟩)) | ((first | with_reducible refine isEx ?_ | with_reducible refine isAnd ?_ | with_reducible refine isOr ?_) <;> (first | ((with_reducible refine isSmall ?_) <;> (refine ⟨?_, ?_⟩; kernel_rfl)) | refine ⟨rfl, ?_⟩ | refine ⟨Int.natCast_nonneg _, ?_⟩)) | with_reducible refine Both.mk ?_ ?_ | rintro _ rfl | exact rfl | (split <;> (rename_i h; first | (simp only [beq_self_eq_true, eq_self, decide_true, Bool.not_true, Bool.false_eq_true] at h; done) | (try rw [h])))))
      all_goals try (conv => whnf)
      all_goals first | (subst ho; exact ⟨rfl, rfl⟩) | trace_state
end Go.Pm.Tryz
namespace Go.Pm.Tryz
open Go Go.Proofs
set_option linter.unusedVariables false
set_option linter.unusedSimpArgs false
set_option maxRecDepth 100000
theorem defs_good {a b c d : List (List Val)} (hE : EngP a b c d) {k : Nat} {r : List Val} (hr : a[k]? = some r) : defM a d (txtA r 0) = defRow d r := by
  obtain ⟨h1, h2⟩ := def_is hE hr
  unfold defM defRow
  rw [h1, h2, List.getD_eq_getElem?_getD, hr]; rfl
theorem idx_defs {a b c d : List (List Val)} (hE : EngP a b c d) (nm : List UInt8) : ((!decide (idxP (namedD nm) (a.map (defRow d)) 0 < 0)) = defIs a nm) ∧ (defF (a.map (defRow d)) nm = defM a d nm) := by
  cases h : decide (idxP (namedD nm) (a.map (defRow d)) 0 < 0) with
  | true =>
    have hn := idx_none _ 0 (of_decide_eq_true h)
    have hf : defIs a nm = false := by
      cases hd : defIs a nm with
      | false => rfl
      | true =>
        obtain ⟨r, hr, he⟩ := def_get hE hd
        have := hn (defRow d r) (List.mem_map.2 ⟨r, get_mem hr, rfl⟩)
        rw [namedD, defRow, he] at this
        simp at this
    refine ⟨by rw [hf]; rfl, ?_⟩
    rw [defF, h, defM, hf]; rfl
  | false =>
    obtain ⟨j, x, h1, h2, h3⟩ := idx_some _ 0 (of_decide_eq_false h)
    rw [List.getElem?_map] at h2
    obtain ⟨r, hr, rfl⟩ := Option.map_eq_some_iff.1 h2
    have he : txtA r 0 = nm := of_decide_eq_true h3
    subst he
    refine ⟨by rw [(def_is hE hr).1]; rfl, ?_⟩
    rw [defF, h, defs_good hE hr]
    simp only
    rw [h1, List.getD_eq_getElem?_getD, show (((0 + j : Nat) : Int)).toNat = j by omega, List.getElem?_map, hr]; rfl
theorem defE1 {a b c d : List (List Val)} (hE : EngP a b c d) (xs : List D) (nm : List UInt8) : Ent Tryz.prog 45 [.ptr 0 0, .d (.s nm)] [.var [.d (.sl false ((a.map (defRow d)).map defD)), .own 1, .snil], .arr 9 false xs] (.tup [.d (defD (defM a d nm)), .d (.b (defIs a nm))]) [.var [.d (.sl false ((a.map (defRow d)).map defD)), .own 1, .snil], .arr 9 false xs] := by
  have h := defOf1 (a.map (defRow d)) xs (by rw [List.length_map]; exact Nat.le_trans hE.defs.most (by decide)) nm
  obtain ⟨h1, h2⟩ := idx_defs hE nm
  rwa [h1, h2] at h
theorem defE2 {a b c d : List (List Val)} (hE : EngP a b c d) (ks : List Kept) (xs : List D) (nm : List UInt8) : Ent Tryz.prog 45 [.ptr 0 0, .d (.s nm)] [.var [.d (.sl false ((a.map (defRow d)).map defD)), .d (.sl false (ks.map keptD)), .own 1], .arr 8 false xs] (.tup [.d (defD (defM a d nm)), .d (.b (defIs a nm))]) [.var [.d (.sl false ((a.map (defRow d)).map defD)), .d (.sl false (ks.map keptD)), .own 1], .arr 8 false xs] := by
  have h := defOf2 (a.map (defRow d)) ks xs (by rw [List.length_map]; exact Nat.le_trans hE.defs.most (by decide)) nm
  obtain ⟨h1, h2⟩ := idx_defs hE nm
  rwa [h1, h2] at h
def tabZ : Tab := ⟨⟨[], [], [], []⟩, []⟩
def tabF (ts : List Tab) (w : Schema) : Tab := ts.getD (findM w.name ts 0).toNat tabZ
def rowsF (ts : List Tab) (w : Schema) : List (List Val) := (tabF ts w).rows
theorem find_idx (nm : List UInt8) : ∀ (ts : List Tab) (k : Nat), findM nm ts k = idxP (fun t => decide (t.sch.name = nm)) ts k
  | [], _ => rfl
  | t :: ts, k => by
    rw [findM, idxP, find_idx nm ts (k + 1)]
    cases decide (t.sch.name = nm) <;> rfl
structure FoundT (ts : List Tab) (w : Schema) : Prop where
  ge : 0 ≤ findM w.name ts 0
  get : ts[(findM w.name ts 0).toNat]? = some (tabF ts w)
  name : (tabF ts w).sch.name = w.name
theorem found_t {ts : List Tab} {w : Schema} (h : decide (findM w.name ts 0 < 0) = false) : FoundT ts w := by
  have h0 := of_decide_eq_false h
  obtain ⟨j, t, h1, h2, h3⟩ := idx_some ts 0 (by rw [← find_idx]; exact h0)
  rw [← find_idx] at h1
  have hj : (findM w.name ts 0).toNat = j := by omega
  have e : tabF ts w = t := by rw [tabF, hj, List.getD_eq_getElem?_getD, h2]; rfl
  exact ⟨by omega, by rw [hj, e]; exact h2, by rw [e]; exact of_decide_eq_true h3⟩
def engSame (ts : List Tab) (w : Schema) : Prop := 0 ≤ findM w.name ts 0 ∧ schBytes (tabF ts w).sch = schBytes w
theorem names_up {ts : List Tab} (hd : dbP ts) : ∀ (k j : Nat) (x y : Tab), j < k → ts[j]? = some x → ts[k]? = some y → Op.bytesLess x.sch.name y.sch.name = true
  | 0, j, x, y, h, _, _ => by omega
  | k + 1, j, x, y, h, hx, hy => by
    obtain ⟨z, hz⟩ := get_ex (ss := ts) (k := k) (by have := get_lt hy; omega)
    have h1 := (hd.tabs (k + 1) y hy).ord z (Nat.succ_pos k) hz
    by_cases e : j = k
    · subst e; rw [hx] at hz; cases hz; exact h1
    · exact bless_trans (names_up hd k j x z (by omega) hx hz) h1
theorem same_at {ts : List Tab} (hd : dbP ts) {w : Schema} (h : engSame ts w) : ∃ (j : Nat) (t : Tab), ts[j]? = some t ∧ t.sch = w := by
  have hf := found_t (ts := ts) (w := w) (decide_eq_false (by have := h.1; omega))
  exact ⟨_, _, hf.get, schBytes_inj (hd.tabs _ _ hf.get).tab.sch h.2⟩
theorem pos_lt {ts : List Tab} (hd : dbP ts) {i j : Nat} {x y : Tab} (hx : ts[i]? = some x) (hy : ts[j]? = some y) (h : Op.bytesLess x.sch.name y.sch.name = true) : i < j := by
  rcases Nat.lt_trichotomy i j with h1 | h1 | h1
  · exact h1
  · subst h1; rw [hx] at hy; cases hy; rw [less_irrefl] at h; cases h
  · have := bless_trans h (names_up hd i j y x h1 hy hx)
    rw [less_irrefl] at this; cases this
theorem engT_found {ts : List Tab} (hd : dbP ts) (hl : ts.length = 4) (h : ∀ w, w ∈ engS → engSame ts w) : engT ts := by
  obtain ⟨i0, t0, h0, e0⟩ := same_at hd (h defsS (by simp [engS]))
  obtain ⟨i1, t1, h1, e1⟩ := same_at hd (h outboxS (by simp [engS]))
  obtain ⟨i2, t2, h2, e2⟩ := same_at hd (h sagasS (by simp [engS]))
  obtain ⟨i3, t3, h3, e3⟩ := same_at hd (h stepsS (by simp [engS]))
  have p01 := pos_lt hd h0 h1 (by rw [e0, e1]; rfl)
  have p12 := pos_lt hd h1 h2 (by rw [e1, e2]; rfl)
  have p23 := pos_lt hd h2 h3 (by rw [e2, e3]; rfl)
  have q3 := get_lt h3
  have a0 : i0 = 0 := by omega
  have a1 : i1 = 1 := by omega
  have a2 : i2 = 2 := by omega
  have a3 : i3 = 3 := by omega
  subst a0 a1 a2 a3
  match ts, hl, h0, h1, h2, h3 with
  | [x0, x1, x2, x3], _, h0, h1, h2, h3 =>
    have f0 : x0.sch = defsS := by cases h0; exact e0
    have f1 : x1.sch = outboxS := by cases h1; exact e1
    have f2 : x2.sch = sagasS := by cases h2; exact e2
    have f3 : x3.sch = stepsS := by cases h3; exact e3
    exact ⟨x0.rows, x1.rows, x2.rows, x3.rows, by rw [← f0, ← f1, ← f2, ← f3]⟩
theorem engT_same {ts : List Tab} (h : engT ts) : ∀ w, w ∈ engS → engSame ts w := by
  obtain ⟨a, b, c, d, rfl⟩ := h
  intro w hw
  have h4 : w = defsS ∨ w = stepsS ∨ w = sagasS ∨ w = outboxS := by simpa [engS] using hw
  rcases h4 with rfl | rfl | rfl | rfl
  · exact ⟨Int.natCast_nonneg _, rfl⟩
  · exact ⟨Int.natCast_nonneg _, rfl⟩
  · exact ⟨Int.natCast_nonneg _, rfl⟩
  · exact ⟨Int.natCast_nonneg _, rfl⟩
def esM (ts : List Tab) : Nat → List (List UInt8 × D)
  | 0 => []
  | 1 => [(defsS.name, .sl false ((rowsF ts defsS).map rowD))]
  | 2 => [(defsS.name, .sl false ((rowsF ts defsS).map rowD)), (stepsS.name, .sl false ((rowsF ts stepsS).map rowD))]
  | 3 => [(defsS.name, .sl false ((rowsF ts defsS).map rowD)), (stepsS.name, .sl false ((rowsF ts stepsS).map rowD)), (sagasS.name, .sl false ((rowsF ts sagasS).map rowD))]
  | _ => [(defsS.name, .sl false ((rowsF ts defsS).map rowD)), (stepsS.name, .sl false ((rowsF ts stepsS).map rowD)), (sagasS.name, .sl false ((rowsF ts sagasS).map rowD)), (outboxS.name, .sl false ((rowsF ts outboxS).map rowD))]
theorem implFindS (s : Sto) (hl : s.tabs.length ≤ maxLen) (nm : List UInt8) : Ent Tryz.prog 73 [.ptr 0 2, .d (.s nm)] [.var (stoC s)] (.d (.i .i64 (findM nm s.tabs 0))) [.var (stoC s)] := by
  have c1 := indexTable s.tabs hl nm
  generalize findM nm s.tabs 0 = n at *
  refine ent_of tok mixed (f := 73) Tryz.func73 (by kernel_rfl) (keep := false) ?_
  repeat' ((conv => whnf) <;> (first | ((with_reducible refine isCall ?_) <;> (first | (refine ⟨_, c1, ?_⟩; rintro _ _ ⟨rfl, rfl⟩) | fail)) | ((with_reducible refine isCut ?_) <;> (first | refine ⟨⟨none⟩, ?_⟩)) | ((first | with_reducible refine isEx ?_ | with_reducible refine isAnd ?_ | with_reducible refine isOr ?_) <;> (first | ((with_reducible refine isSmall ?_) <;> (refine ⟨?_, ?_⟩; kernel_rfl)) | refine ⟨rfl, ?_⟩ | refine ⟨Int.natCast_nonneg _, ?_⟩)) | with_reducible refine Both.mk ?_ ?_ | rintro _ rfl | exact rfl | (split <;> (rename_i h; first | (simp only [beq_self_eq_true, eq_self, decide_true, Bool.not_true, Bool.false_eq_true] at h; done) | (try rw [h])))))
end Go.Pm.Tryz
namespace Go.Pm.Tryz
open Go Go.Proofs
set_option linter.unusedVariables false
set_option linter.unusedSimpArgs false
set_option maxRecDepth 100000
def esE (a b c d : List (List Val)) : List (List UInt8 × D) := [(defsS.name, .sl false (a.map rowD)), (stepsS.name, .sl false (d.map rowD)), (sagasS.name, .sl false (c.map rowD)), (outboxS.name, .sl false (b.map rowD))]
def oweB (c : List (List Val)) (o : List Val) : Bool := (((((!decide (idxP (idK (numA o 1)) (c.map keptR) 0 < 0)) && (keptF (c.map keptR) (numA o 1)).saga.waits) && comEq (comR o) (comS (keptF (c.map keptR) (numA o 1)).saga)) && decide (numA o 0 = idW (keptF (c.map keptR) (numA o 1)).id (keptF (c.map keptR) (numA o 1)).next)) && inside (numA o 6) 0 1000000) && inside (numA o 7) 0 2000000000
structure implOk (a b c d : List (List Val)) : Prop where
  defs : goodDefs a d
  sagas : c.all (headB a d) = true
  outs : b.all (oweB c) = true
  num : (c.filter waitsR).length = b.length
def engO (a b c d : List (List Val)) : List Ob := [.var [.d (.sl false ((a.map (defRow d)).map defD)), .d (.sl false ((c.map keptR).map keptD)), .own 1], .arr 8 false ((b.map oweR).map oweD)]
def ReadQ (s : Sto) (R : AV) (O : List Ob) : Prop :=
  (∃ a b c d, s.tabs = engTs a b c d ∧ EngP a b c d ∧ stoOk s = true ∧ implOk a b c d ∧ R = .tup [.ptr 0 0, .d (.b true)] ∧ O = engO a b c d) ∨
  ((stoOk s = true → engT s.tabs → ∀ a b c d, s.tabs = engTs a b c d → ¬ implOk a b c d) ∧ ((R = .tup [.c (.pointer none), .d (.b false)] ∧ O = []) ∨ (∃ x y ys, R = .tup [.ptr 0 0, .d (.b false)] ∧ O = [.var [.d x, .d y, .own 1], .arr 8 false ys])))
theorem engTs_inj {a b c d a' b' c' d' : List (List Val)} (h : engTs a b c d = engTs a' b' c' d') : a = a' ∧ b = b' ∧ c = c' ∧ d = d' := by
  simp only [engTs, List.cons.injEq, Tab.mk.injEq, true_and, and_true] at h
  exact ⟨h.1, h.2.1, h.2.2.1, h.2.2.2⟩
theorem five {k : Nat} (h : k ≤ 4) : k = 0 ∨ k = 1 ∨ k = 2 ∨ k = 3 ∨ k = 4 := by omega
theorem eng_four {ts : List Tab} (hd : dbP ts) (hl : (!decide (((ts.map tabD).length : Int) = 4)) = false) (h : ∀ (j : Nat) (w : Schema), j < 4 → engS[j]? = some w → engSame ts w) : engT ts := by
  refine engT_found hd (by have := of_decide_eq_true (not_ok hl); rw [List.length_map] at this; omega) fun w hw => ?_
  obtain ⟨j, hj⟩ := List.getElem?_of_mem hw
  exact h j w (get_lt hj) hj
theorem same_next {ts : List Tab} {k : Nat} {w : Schema} (hw : engS[k]? = some w) (h : ∀ (j : Nat) (w : Schema), j < k → engS[j]? = some w → engSame ts w) (h1 : decide (findM w.name ts 0 < 0) = false) (h2 : (!decide (schBytes (tabF ts w).sch = schBytes w)) = false) : ∀ (j : Nat) (w : Schema), j < k + 1 → engS[j]? = some w → engSame ts w := by
  intro j v hj hv
  by_cases e : j = k
  · subst e; rw [hw] at hv; cases hv
    exact ⟨by have := of_decide_eq_false h1; omega, of_decide_eq_true (not_ok h2)⟩
  · exact h j v (by omega) hv
theorem no_impl {a b c d : List (List Val)} (h : ¬ implOk a b c d) : ∀ a' b' c' d', engTs a b c d = engTs a' b' c' d' → ¬ implOk a' b' c' d' := fun a' b' c' d' he => by
  obtain ⟨rfl, rfl, rfl, rfl⟩ := engTs_inj he
  exact h
theorem kept_push {c : List (List Val)} {k : Nat} {x : List Val} (hx : c[k]? = some x) {xs : List D} (h : xs = ((c.take k).map keptR).map keptD) : xs ++ [keptD (keptR x)] = ((c.take (k + 1)).map keptR).map keptD := by
  rw [h, take_up hx, List.map_append, List.map_append]; rfl
theorem kept_pushB {c : List (List Val)} {k : Nat} {x : List Val} (hx : c[k]? = some x) {xs : List D} (h : xs = ((c.take k).map keptR).map keptD) {w : Bool} (hw : waitsR x = w) : xs ++ [D.agg [.i .i64 (numA x 0), .i .i64 (numA x 8), .s (txtA x 1), .i .i64 (numA x 2), .i .i64 (numA x 3), .i .i64 (numA x 4), .i .i64 (numA x 5), .b w, .i .i64 (numA x 7)]] = ((c.take (k + 1)).map keptR).map keptD := by
  subst hw; exact kept_push hx h
theorem owe_push {b : List (List Val)} {k : Nat} {x : List Val} (hx : b[k]? = some x) {xs : List D} (h : xs = ((b.take k).map oweR).map oweD) : xs ++ [oweD (oweR x)] = ((b.take (k + 1)).map oweR).map oweD := by
  rw [h, take_up hx, List.map_append, List.map_append]; rfl
theorem kept_all {c : List (List Val)} {k : Nat} {xs : List D} (h : xs = ((c.take k).map keptR).map keptD) (hk : decide ((k : Int) < ((c.map rowD).length : Int)) = false) : xs = (c.map keptR).map keptD := by
  have := of_decide_eq_false hk
  rw [List.length_map] at this
  rw [h, List.take_of_length_le (by omega)]
theorem def_right {a b c d : List (List Val)} (hE : EngP a b c d) (hg : (!dec (goodDefs a d)) = false) {nm : List UInt8} (h : (!defIs a nm) = false) : defOk (defM a d nm) = true := by
  obtain ⟨r, hr, rfl⟩ := def_get hE (not_ok h)
  rw [defs_good hE hr]
  exact ((of_dec (not_ok hg)).1 _ r hr).2
section
variable {a b c d : List (List Val)} {x y : List Val} {k : Nat}
theorem bad_head (hx : c[k]? = some x) (h : headB a d x = false) : ¬ implOk a b c d := fun hI => by
  have := all_no hx h
  rw [hI.sagas] at this; cases this
theorem bad_owe (hy : b[k]? = some y) (h : oweB c y = false) : ¬ implOk a b c d := fun hI => by
  have := all_no hy h
  rw [hI.outs] at this; cases this
theorem hd_no1 (h : (!defIs a (txtA x 1)) = true) : headB a d x = false := by unfold headB; rw [not_ok' h]; rfl
theorem hd_no2 (h : (!inside (numA x 0) 1 1000000) = true) : headB a d x = false := by unfold headB; rw [not_ok' h, Bool.and_false]; rfl
theorem hd_no3 (h : (!sagaOk1 (defM a d (txtA x 1)) (sagaR x)) = true) : headB a d x = false := by unfold headB; rw [not_ok' h, Bool.and_false]; rfl
theorem hd_no4 (h : (!inside (numA x 8) 1 1000) = true) : headB a d x = false := by unfold headB; rw [not_ok' h, Bool.and_false]
variable {kq : Kept} {uq : Bool}
theorem ow_no1 (hu : uq = !decide (idxP (idK (numA y 1)) (c.map keptR) 0 < 0)) (h : (!uq) = true) : oweB c y = false := by unfold oweB; rw [← hu, not_ok' h]; rfl
theorem ow_no2 (hk : kq = keptF (c.map keptR) (numA y 1)) (h : (!kq.saga.waits) = true) : oweB c y = false := by unfold oweB; rw [← hk, not_ok' h, Bool.and_false]; rfl
theorem ow_no3 (hk : kq = keptF (c.map keptR) (numA y 1)) (h : (!comEq (comR y) (comS kq.saga)) = true) : oweB c y = false := by unfold oweB; rw [← hk, not_ok' h, Bool.and_false]; rfl
theorem ow_no4 (hk : kq = keptF (c.map keptR) (numA y 1)) (h : (!decide (numA y 0 = idW kq.id kq.next)) = true) : oweB c y = false := by unfold oweB; rw [← hk, not_ok' h, Bool.and_false]; rfl
theorem ow_no5 (h : (!inside (numA y 6) 0 1000000) = true) : oweB c y = false := by unfold oweB; rw [not_ok' h, Bool.and_false]; rfl
theorem ow_no6 (h : (!inside (numA y 7) 0 2000000000) = true) : oweB c y = false := by unfold oweB; rw [not_ok' h, Bool.and_false]
theorem ow_ok (hk : kq = keptF (c.map keptR) (numA y 1)) (hu : uq = !decide (idxP (idK (numA y 1)) (c.map keptR) 0 < 0)) (h1 : (!uq) = false) (h2 : (!kq.saga.waits) = false) (h3 : (!comEq (comR y) (comS kq.saga)) = false) (h4 : (!decide (numA y 0 = idW kq.id kq.next)) = false) (h5 : (!inside (numA y 6) 0 1000000) = false) (h6 : (!inside (numA y 7) 0 2000000000) = false) : oweB c y = true := by
  unfold oweB; rw [← hk, ← hu, not_ok h1, not_ok h2, not_ok h3, not_ok h4, not_ok h5, not_ok h6]; rfl
end
theorem take_end {α : Type} {xs : List α} {f : α → D} {k : Nat} (h : decide ((k : Int) < ((xs.map f).length : Int)) = false) : xs.take k = xs := by
  have := of_decide_eq_false h
  rw [List.length_map] at this
  exact List.take_of_length_le (by omega)
theorem eng_end {s : Sto} {a b c d : List (List Val)} {k2 k3 : Nat} {n2 : Int} {ys : List D} (hE : EngP a b c d) (h1 : stoOk s = true) (hs : s.tabs = engTs a b c d) (hg : (!dec (goodDefs a d)) = false)
    (hv2 : (c.take k2).all (headB a d) = true) (hk2 : decide ((k2 : Int) < ((c.map rowD).length : Int)) = false) (hn2 : n2 = (((c.take k2).filter waitsR).length : Int))
    (hv3 : (b.take k3).all (oweB c) = true) (hk3 : decide ((k3 : Int) < ((b.map rowD).length : Int)) = false) (hys : ys = ((b.take k3).map oweR).map oweD) :
    ReadQ s (.tup [.ptr 0 0, .d (.b (decide (n2 = (ys.length : Int))))]) [.var [.d (.sl false ((a.map (defRow d)).map defD)), .d (.sl false ((c.map keptR).map keptD)), .own 1], .arr 8 false ys] := by
  rw [take_end hk2] at hv2 hn2
  rw [take_end hk3] at hv3 hys
  have hl : ys.length = b.length := by rw [hys, List.length_map, List.length_map]
  cases hq : decide (n2 = (ys.length : Int)) with
  | true =>
    have hq := of_decide_eq_true hq
    rw [hl, hn2] at hq
    exact .inl ⟨a, b, c, d, hs, hE, h1, ⟨of_dec (not_ok hg), hv2, hv3, by omega⟩, rfl, by rw [hys]; rfl⟩
  | false =>
    have hq := of_decide_eq_false hq
    rw [hl, hn2] at hq
    exact .inr ⟨fun _ _ => by rw [hs]; exact no_impl fun hI => hq (by rw [hI.num]), .inr ⟨_, _, _, rfl, rfl⟩⟩
set_option maxHeartbeats 32000000 in
theorem implRead (s : Sto) (hs : s.fits) : EntQ Tryz.prog 36 [.d (stoD s)] [] (ReadQ s) := by
  have hlt : s.tabs.length ≤ maxLen := le_max2 hs.tabs
  have c0 := implStoreRight s hs
  have c1 := implSchemas
  have cf : ∀ nm, Ent Tryz.prog 73 [.ptr 0 2, .d (.s nm)] [.var (stoC s)] (.d (.i .i64 (findM nm s.tabs 0))) [.var (stoC s)] := fun nm => implFindS s hlt nm
  have cb : ∀ w, w ∈ engS → Ent Tryz.prog 74 [.d (schemaD w)] [] (.d (.s (schBytes w))) [] := fun w hw => implSchemaBytes w (eng_fits w hw)
  have cb0 := cb defsS (by simp [engS])
  have cb1 := cb stepsS (by simp [engS])
  have cb2 := cb sagasS (by simp [engS])
  have cb3 := cb outboxS (by simp [engS])
  have ct : ∀ w, decide (findM w.name s.tabs 0 < 0) = false → Ent Tryz.prog 74 [.d (schemaD (tabF s.tabs w).sch)] [] (.d (.s (schBytes (tabF s.tabs w).sch))) [] := fun w h => implSchemaBytes _ (hs.tab _ (get_mem (found_t h).get)).sch
  cases h1 : stoOk s with
  | false =>
    rw [h1] at c0
    refine ent_of (cx := ⟨tab, [], []⟩) tok mixed (f := 36) Tryz.func36 (by kernel_rfl) (keep := true) ?_
    repeat' ((conv => whnf) <;> (first | ((with_reducible refine isCall ?_) <;> (first | (refine ⟨_, c0, ?_⟩; rintro _ _ ⟨rfl, rfl⟩) | fail)) | ((with_reducible refine isCut ?_) <;> (first | refine ⟨⟨none⟩, ?_⟩)) | ((first | with_reducible refine isEx ?_ | with_reducible refine isAnd ?_ | with_reducible refine isOr ?_) <;> (first | ((with_reducible refine isSmall ?_) <;> (refine ⟨?_, ?_⟩; kernel_rfl)) | refine ⟨rfl, ?_⟩ | refine ⟨Int.natCast_nonneg _, ?_⟩)) | with_reducible refine Both.mk ?_ ?_ | rintro _ rfl | exact rfl | (split <;> (rename_i h; first | (simp only [beq_self_eq_true, eq_self, decide_true, Bool.not_true, Bool.false_eq_true] at h; done) | (try rw [h])))))
    all_goals try (conv => whnf)
    all_goals first | exact .inr ⟨fun h => (by rw [h1] at h; cases h), .inl ⟨rfl, rfl⟩⟩ | trace_state
  | true =>
    have hd := sto_db h1
    rw [h1] at c0
    obtain ⟨disk, tabs, seq, next⟩ := s
    refine ent_of (cx := ⟨tab, [3000162, 3000264], []⟩) tok mixed (f := 36) Tryz.func36 (by kernel_rfl) (keep := true) ?_
    repeat' ((conv => whnf) <;> (first | ((with_reducible refine isCall ?_) <;> (first | (refine ⟨_, c0, ?_⟩; rintro _ _ ⟨rfl, rfl⟩) | (refine ⟨_, c1, ?_⟩; rintro _ _ ⟨rfl, rfl⟩) | (refine ⟨_, (cf defsS.name), ?_⟩; rintro _ _ ⟨rfl, rfl⟩) | (refine ⟨_, (cf stepsS.name), ?_⟩; rintro _ _ ⟨rfl, rfl⟩) | (refine ⟨_, (cf sagasS.name), ?_⟩; rintro _ _ ⟨rfl, rfl⟩) | (refine ⟨_, (cf outboxS.name), ?_⟩; rintro _ _ ⟨rfl, rfl⟩) | (refine ⟨_, cb0, ?_⟩; rintro _ _ ⟨rfl, rfl⟩) | (refine ⟨_, cb1, ?_⟩; rintro _ _ ⟨rfl, rfl⟩) | (refine ⟨_, cb2, ?_⟩; rintro _ _ ⟨rfl, rfl⟩) | (refine ⟨_, cb3, ?_⟩; rintro _ _ ⟨rfl, rfl⟩) | (refine ⟨_, (ct defsS (by assumption)), ?_⟩; rintro _ _ ⟨rfl, rfl⟩) | (refine ⟨_, (ct stepsS (by assumption)), ?_⟩; rintro _ _ ⟨rfl, rfl⟩) | (refine ⟨_, (ct sagasS (by assumption)), ?_⟩; rintro _ _ ⟨rfl, rfl⟩) | (refine ⟨_, (ct outboxS (by assumption)), ?_⟩; rintro _ _ ⟨rfl, rfl⟩) | (refine ⟨_, cR, ?_⟩; rintro _ _ (⟨rfl, rfl, hbad⟩ | ⟨rfl, rfl⟩)) | (refine ⟨_, (defE1 hE xs (txtA x 1)), ?_⟩; rintro _ _ ⟨rfl, rfl⟩) | (refine ⟨_, (implSaga (defM a d (txtA x 1)) (sagaR x) (def_right hE (by assumption) (by assumption))), ?_⟩; rintro _ _ ⟨rfl, rfl⟩) | (refine ⟨_, ci, ?_⟩; rintro _ _ ⟨rfl, rfl⟩) | (refine ⟨_, cw, ?_⟩; rintro _ _ ⟨rfl, rfl⟩) | (refine ⟨_, cs, ?_⟩; rintro _ _ ⟨rfl, rfl⟩) | (refine ⟨_, cc, ?_⟩; rintro _ _ ⟨rfl, rfl⟩) | (refine ⟨_, cw6, ?_⟩; rintro _ _ ⟨rfl, rfl⟩) | (refine ⟨_, cw7, ?_⟩; rintro _ _ ⟨rfl, rfl⟩) | (refine ⟨_, get_map' (cell_at hyl rfl), ?_⟩) | (refine ⟨_, get_map' (cell_at hxl rfl), ?_⟩) | (refine ⟨⟨by decide, rfl, rfl, room_add (by rw [hys]; simp only [List.length_map, List.length_take]; have := hE.outs.most; have : b.length ≤ 60 := this; omega) (by decide)⟩, ?_⟩) | (refine ⟨⟨by decide, rfl, rfl, room_add (by rw [hxs]; simp only [List.length_map, List.length_take]; have := hE.sagas.most; have : c.length ≤ 60 := this; omega) (by decide)⟩, ?_⟩) | (refine ⟨_, get_map' (found_t (by assumption)).get, ?_⟩) | (refine ⟨(found_t (by assumption)).ge, ?_⟩) | (refine ⟨_, rfl, ?_⟩) | (refine ⟨Int.natCast_nonneg _, ?_⟩) | (refine ⟨by decide, ?_⟩) | fail)) | ((with_reducible refine isLoop ?_) <;> (first | (refine ⟨[1, 4, 33, 34, 35], [10001, 10032], fun st => ∃ (k : Nat) (es : List (List UInt8 × D)), k ≤ 4 ∧ (∀ (j : Nat) (w : Schema), j < k → engS[j]? = some w → engSame tabs w) ∧ es = esM tabs k ∧ st = ⟨[(1, .ptr 10001 0), (4, .own 10032), (33, .d (.sl false (engS.map schemaD))), (34, .d (.i .i64 ((engS.map schemaD).length : Int))), (35, .d (.i .i64 (k : Int)))], [(10001, .var (stoC ⟨disk, tabs, seq, next⟩)), (10032, .mp es)]⟩, fun s' => match look 35 s'.env with | some (.d (.i _ n)) => 4 - n.toNat | _ => 0, ?_, ⟨0, _, Nat.zero_le _, (fun j w h => absurd h (Nat.not_lt_zero _)), rfl, ?_⟩, ?_⟩; kernel_rfl; kernel_rfl; rintro st ⟨k, es, hk, hg, hes, rfl⟩; rcases five hk with rfl | rfl | rfl | rfl | rfl; all_goals first | (obtain ⟨a, b, c, d, hts⟩ := eng_four hd (by assumption) hg; subst hts; have hE : EngP a b c d := eng_p hd; have hes2 : es = esE a b c d := hes; clear hes; subst hes2; have cR := implReadDefs hE; have hlc : c.length ≤ maxLen := Nat.le_trans hE.sagas.most (by decide); have hl60 : c.length ≤ 60 := hE.sagas.most; have hlb : b.length ≤ maxLen := Nat.le_trans hE.outs.most (by decide)) | subst hes) | (refine ⟨[10, 11, 174, 175, 176], [10079, .frz 10169, .cell 10271 8 false 10079 2], fun st => ∃ (k3 : Nat) (i3 : Int) (ys : List D), i3 = k3 ∧ (b.take k3).all (oweB c) = true ∧ ys = ((b.take k3).map oweR).map oweD ∧ st = ⟨[(10, .ptr 10079 0), (11, .d (.i .i64 n2)), (174, .d (.sl false (b.map rowD))), (175, .d (.i .i64 ((b.map rowD).length : Int))), (176, .d (.i .i64 i3))], [(10079, .var [.d (.sl false ((a.map (defRow d)).map defD)), .d (.sl false ((c.map keptR).map keptD)), .own 10271]), (10271, .arr 8 false ys)]⟩, fun s' => match look 176 s'.env with | some (.d (.i _ n)) => b.length - n.toNat | _ => 0, ?_, ⟨0, _, _, rfl, rfl, rfl, ?_⟩, ?_⟩; kernel_rfl; rw [kept_all hxs (by assumption)]; kernel_rfl; rintro st ⟨k3, i3, ys, rfl, hv3, hys, rfl⟩) | (refine ⟨[4, 10, 11, 83, 84, 85], [10032, 10079, .cell 10169 9 false 10079 1], fun st => ∃ (k2 : Nat) (i2 n2 : Int) (xs : List D), i2 = k2 ∧ (c.take k2).all (headB a d) = true ∧ n2 = (((c.take k2).filter waitsR).length : Int) ∧ xs = ((c.take k2).map keptR).map keptD ∧ st = ⟨[(4, .own 10032), (10, .ptr 10079 0), (11, .d (.i .i64 n2)), (83, .d (.sl false (c.map rowD))), (84, .d (.i .i64 ((c.map rowD).length : Int))), (85, .d (.i .i64 i2))], [(10032, .mp (esE a b c d)), (10079, .var [.d (.sl false ((a.map (defRow d)).map defD)), .own 10169, .snil]), (10169, .arr 9 false xs)]⟩, fun s' => match look 85 s'.env with | some (.d (.i _ n)) => c.length - n.toNat | _ => 0, ?_, ⟨0, _, _, _, rfl, rfl, rfl, rfl, ?_⟩, ?_⟩; kernel_rfl; kernel_rfl; rintro st ⟨k2, i2, n2, xs, rfl, hv2, hn2, hxs, rfl⟩) | (refine ⟨_, get_map' (cell_at hyl rfl), ?_⟩) | (refine ⟨_, get_map' (cell_at hxl rfl), ?_⟩) | (refine ⟨⟨by decide, rfl, rfl, room_add (by rw [hys]; simp only [List.length_map, List.length_take]; have := hE.outs.most; have : b.length ≤ 60 := this; omega) (by decide)⟩, ?_⟩) | (refine ⟨⟨by decide, rfl, rfl, room_add (by rw [hxs]; simp only [List.length_map, List.length_take]; have := hE.sagas.most; have : c.length ≤ 60 := this; omega) (by decide)⟩, ?_⟩) | (refine ⟨_, get_map' (found_t (by assumption)).get, ?_⟩) | (refine ⟨(found_t (by assumption)).ge, ?_⟩) | (refine ⟨_, rfl, ?_⟩) | (refine ⟨Int.natCast_nonneg _, ?_⟩) | (refine ⟨by decide, ?_⟩) | fail)) | ((with_reducible refine isCut ?_) <;> (first | refine ⟨⟨none⟩, ?_⟩)) | ((first | with_reducible refine isEx ?_ | with_reducible refine isAnd ?_ | with_reducible refine isOr ?_) <;> (first | ((with_reducible refine isGet (xs := b.map rowD) (i := ((k3 : Nat) : Int).toNat) ?_); obtain ⟨y, hy⟩ := get_ex (ss := b) (k := k3) (lt_of_dec (by assumption)); have hyl : y.length = 8 := row_len hE.outs hy; obtain ⟨kq, hkq⟩ : ∃ kq, kq = keptF (c.map keptR) (numA y 1) := ⟨_, rfl⟩; obtain ⟨uq, huq⟩ : ∃ uq, uq = !decide (idxP (idK (numA y 1)) (c.map keptR) 0 < 0) := ⟨_, rfl⟩; have cs := sagaOf2 (a.map (defRow d)) (c.map keptR) ys (by rw [List.length_map]; exact Nat.le_trans hE.sagas.most (by decide)) (numA y 1); rw [← hkq, ← huq] at cs; have cc := implComS kq.saga; have cw6 := within (numA y 6) 0 1000000; have cw7 := within (numA y 7) 0 2000000000; refine ⟨_, get_map' hy, ?_⟩) | ((with_reducible refine isGet (xs := c.map rowD) (i := ((k2 : Nat) : Int).toNat) ?_); obtain ⟨x, hx⟩ := get_ex (ss := c) (k := k2) (lt_of_dec (by assumption)); have hxl : x.length = 9 := row_len hE.sagas hx; have ci := implId (numA x 0); have cw := within (numA x 8) 1 1000; refine ⟨_, get_map' hx, ?_⟩) | (refine ⟨_, get_map' (cell_at hyl rfl), ?_⟩) | (refine ⟨_, get_map' (cell_at hxl rfl), ?_⟩) | (refine ⟨⟨by decide, rfl, rfl, room_add (by rw [hys]; simp only [List.length_map, List.length_take]; have := hE.outs.most; have : b.length ≤ 60 := this; omega) (by decide)⟩, ?_⟩) | (refine ⟨⟨by decide, rfl, rfl, room_add (by rw [hxs]; simp only [List.length_map, List.length_take]; have := hE.sagas.most; have : c.length ≤ 60 := this; omega) (by decide)⟩, ?_⟩) | (refine ⟨_, get_map' (found_t (by assumption)).get, ?_⟩) | (refine ⟨(found_t (by assumption)).ge, ?_⟩) | (refine ⟨_, rfl, ?_⟩) | (refine ⟨Int.natCast_nonneg _, ?_⟩) | (refine ⟨by decide, ?_⟩) | ((with_reducible refine isSmall ?_) <;> (refine ⟨?_, ?_⟩; kernel_rfl)) | refine ⟨rfl, ?_⟩ | refine ⟨Int.natCast_nonneg _, ?_⟩)) | with_reducible refine Both.mk ?_ ?_ | rintro _ rfl | exact rfl | (exact absurd h (by decide)) | (split <;> (rename_i h; first | (simp only [beq_self_eq_true, eq_self, decide_true, Bool.not_true, Bool.false_eq_true] at h; done) | (try rw [h])))))
    all_goals try (conv => whnf)
    all_goals first
      | exact .inr ⟨fun _ hT _ _ _ _ _ _ => (by obtain ⟨a, b, c, d, e⟩ := hT; exact of_decide_eq_false (not_ok' (by assumption : (!decide (((tabs.map tabD).length : Int) = 4)) = true)) (by rw [List.length_map, show tabs = engTs a b c d from e]; rfl)), .inl ⟨rfl, rfl⟩⟩
      | exact ⟨⟨1, _, by decide, same_next (k := 0) (w := defsS) rfl hg (by assumption) (by assumption), rfl, rfl⟩, (by decide : 4 - 1 < 4 - 0)⟩
      | exact .inr ⟨fun _ hT _ _ _ _ _ _ => absurd (engT_same hT defsS (by simp [engS])).1 (by have := of_decide_eq_true (by assumption : decide (findM (Schema.name defsS) tabs 0 < 0) = true); exact Int.not_le.2 this), .inl ⟨rfl, rfl⟩⟩
      | exact .inr ⟨fun _ hT _ _ _ _ _ _ => of_decide_eq_false (not_ok' (by assumption : (!decide (schBytes (tabF tabs defsS).sch = schBytes defsS)) = true)) (engT_same hT defsS (by simp [engS])).2, .inl ⟨rfl, rfl⟩⟩
      | exact ⟨⟨2, _, by decide, same_next (k := 1) (w := stepsS) rfl hg (by assumption) (by assumption), rfl, rfl⟩, (by decide : 4 - 2 < 4 - 1)⟩
      | exact .inr ⟨fun _ hT _ _ _ _ _ _ => absurd (engT_same hT stepsS (by simp [engS])).1 (by have := of_decide_eq_true (by assumption : decide (findM (Schema.name stepsS) tabs 0 < 0) = true); exact Int.not_le.2 this), .inl ⟨rfl, rfl⟩⟩
      | exact .inr ⟨fun _ hT _ _ _ _ _ _ => of_decide_eq_false (not_ok' (by assumption : (!decide (schBytes (tabF tabs stepsS).sch = schBytes stepsS)) = true)) (engT_same hT stepsS (by simp [engS])).2, .inl ⟨rfl, rfl⟩⟩
      | exact ⟨⟨3, _, by decide, same_next (k := 2) (w := sagasS) rfl hg (by assumption) (by assumption), rfl, rfl⟩, (by decide : 4 - 3 < 4 - 2)⟩
      | exact .inr ⟨fun _ hT _ _ _ _ _ _ => absurd (engT_same hT sagasS (by simp [engS])).1 (by have := of_decide_eq_true (by assumption : decide (findM (Schema.name sagasS) tabs 0 < 0) = true); exact Int.not_le.2 this), .inl ⟨rfl, rfl⟩⟩
      | exact .inr ⟨fun _ hT _ _ _ _ _ _ => of_decide_eq_false (not_ok' (by assumption : (!decide (schBytes (tabF tabs sagasS).sch = schBytes sagasS)) = true)) (engT_same hT sagasS (by simp [engS])).2, .inl ⟨rfl, rfl⟩⟩
      | exact ⟨⟨4, _, by decide, same_next (k := 3) (w := outboxS) rfl hg (by assumption) (by assumption), rfl, rfl⟩, (by decide : 4 - 4 < 4 - 3)⟩
      | exact .inr ⟨fun _ hT _ _ _ _ _ _ => absurd (engT_same hT outboxS (by simp [engS])).1 (by have := of_decide_eq_true (by assumption : decide (findM (Schema.name outboxS) tabs 0 < 0) = true); exact Int.not_le.2 this), .inl ⟨rfl, rfl⟩⟩
      | exact .inr ⟨fun _ hT _ _ _ _ _ _ => of_decide_eq_false (not_ok' (by assumption : (!decide (schBytes (tabF tabs outboxS).sch = schBytes outboxS)) = true)) (engT_same hT outboxS (by simp [engS])).2, .inl ⟨rfl, rfl⟩⟩
      | exact .inr ⟨fun _ _ => no_impl fun hI => hbad hI.defs, .inl ⟨rfl, rfl⟩⟩
      | exact .inr ⟨fun _ _ => no_impl fun hI => absurd ((dec_true hI.defs).symm.trans (not_ok' (by assumption : (!dec (goodDefs a d)) = true))) (by decide), .inl ⟨rfl, rfl⟩⟩
      | exact ⟨⟨k2 + 1, _, _, _, step_up (get_lt hx) hlc, all_up hx hv2 (head_ok (by assumption) (by assumption) (by assumption) (by assumption)), (by rw [hn2]; exact waits_up hx h hl60), kept_pushB hx hxs h, rfl⟩, mu_up (get_lt hx) hlc⟩
      | exact ⟨⟨k2 + 1, _, _, _, step_up (get_lt hx) hlc, all_up hx hv2 (head_ok (by assumption) (by assumption) (by assumption) (by assumption)), hn2.trans (waits_no hx h), kept_pushB hx hxs h, rfl⟩, mu_up (get_lt hx) hlc⟩
      | exact ⟨⟨k3 + 1, _, _, step_up (get_lt hy) hlb, all_up hy hv3 (ow_ok hkq huq (by assumption) (by assumption) (by assumption) (by assumption) (by assumption) (by assumption)), owe_push hy hys, rfl⟩, mu_up (get_lt hy) hlb⟩
      | exact .inr ⟨fun _ _ => no_impl (bad_owe hy (by first | exact ow_no1 huq (by assumption) | exact ow_no2 hkq (by assumption) | exact ow_no3 hkq (by assumption) | exact ow_no4 hkq (by assumption) | exact ow_no5 (by assumption) | exact ow_no6 (by assumption))), .inl ⟨rfl, rfl⟩⟩
      | exact .inr ⟨fun _ _ => no_impl (bad_head hx (by first | exact hd_no1 (by assumption) | exact hd_no2 (by assumption) | exact hd_no3 (by assumption) | exact hd_no4 (by assumption))), .inl ⟨rfl, rfl⟩⟩
      | exact eng_end hE h1 rfl (by assumption) hv2 (by assumption) hn2 hv3 (by assumption) hys
      | trace_state
end Go.Pm.Tryz
namespace Go.Pm.Tryz
open Go Go.Proofs
set_option linter.unusedVariables false
set_option linter.unusedSimpArgs false
set_option maxRecDepth 100000
theorem entQ_mono {P : Program} {f : FuncId} {args : List AV} {obs : List Ob} {Q Q' : AV → List Ob → Prop} (h : EntQ P f args obs Q) (hq : ∀ {R : AV} {O : List Ob}, Q R O → Q' R O) : EntQ P f args obs Q' :=
  ⟨h.enters, fun X0 J w vs hr hm => (h.calls X0 J w vs hr hm).mono fun e w' ⟨R, O, v, J', hQ, r⟩ => ⟨R, O, v, J', hq hQ, r⟩⟩
theorem pigeon : ∀ (l1 l2 : List Int), l1.Nodup → (∀ x, x ∈ l1 → x ∈ l2) → l2.length ≤ l1.length → ∀ y, y ∈ l2 → y ∈ l1
  | [], l2, _, _, hl, y, hy => by cases l2 with | nil => exact hy | cons _ _ => simp at hl
  | x :: r, l2, hn, hs, hl, y, hy => by
    obtain ⟨h1, h2⟩ := List.nodup_cons.1 hn
    by_cases e : y = x
    · subst e; exact List.mem_cons_self ..
    · have hx := hs x (List.mem_cons_self ..)
      have he := List.length_erase_of_mem hx
      refine List.mem_cons_of_mem _ (pigeon r (l2.erase x) h2 (fun z hz => ?_) ?_ y ((List.mem_erase_of_ne e).2 hy))
      · exact (List.mem_erase_of_ne (by rintro rfl; exact h1 hz)).2 (hs z (List.mem_cons_of_mem _ hz))
      · rw [he]; simp only [List.length_cons] at hl; omega
theorem one_of {α β : Type} {f : α → β} : ∀ {l : List α}, (l.map f).Nodup → ∀ {x y : α}, x ∈ l → y ∈ l → f x = f y → x = y
  | [], _, x, y, hx, _, _ => by cases hx
  | z :: l, hn, x, y, hx, hy, he => by
    rw [List.map_cons] at hn
    obtain ⟨h1, h2⟩ := List.nodup_cons.1 hn
    rcases List.mem_cons.1 hx with e1 | hx1 <;> rcases List.mem_cons.1 hy with e2 | hy1
    · rw [e1, e2]
    · subst e1; exact absurd (List.mem_map.2 ⟨y, hy1, he.symm⟩) h1
    · subst e2; exact absurd (List.mem_map.2 ⟨x, hx1, he⟩) h1
    · exact one_of h2 hx1 hy1 he
theorem nodup_rows {β : Type} {rows : List (List Val)} {f : List Val → β} (h : ∀ (j k : Nat) (x y : List Val), j < k → rows[j]? = some x → rows[k]? = some y → ¬ f x = f y) : (rows.map f).Nodup := by
  unfold List.Nodup
  rw [List.pairwise_map, List.pairwise_iff_getElem]
  intro i j hi hj hij
  exact h i j _ _ hij (List.getElem?_eq_getElem hi) (List.getElem?_eq_getElem hj)
section
variable {a b c d : List (List Val)}
theorem ids_one (hE : EngP a b c d) : (c.map (numA · 0)).Nodup := nodup_rows fun j k x y hjk hx hy e => by
  have h := chain (t := ⟨sagasS, c⟩) hE.sagas k j x y hjk hx hy
  have h1 := cell_int (t := ⟨sagasS, c⟩) hE.sagas (i := 0) hx rfl
  have h2 := cell_int (t := ⟨sagasS, c⟩) hE.sagas (i := 0) hy rfl
  have p : pickM x [(0 : Int)] = pickM y [(0 : Int)] := by
    show [x.getD 0 vz] = [y.getD 0 vz]
    rw [h1, h2, e]
  change cmpL (pickM x [0]) (pickM y [0]) < 0 at h
  rw [p, cmpL_zero.2 rfl] at h
  exact absurd h (by decide)
theorem names_one (hE : EngP a b c d) : (a.map (txtA · 0)).Nodup := nodup_rows fun j k x y hjk hx hy e => by
  have h := chain (t := ⟨defsS, a⟩) hE.defs k j x y hjk hx hy
  change cmpL (pickM x [0]) (pickM y [0]) < 0 at h
  rw [def_row hE hx, def_row hE hy, e, cmpL_zero.2 rfl] at h
  exact absurd h (by decide)
theorem outs_one (hE : EngP a b c d) : (b.map (numA · 1)).Nodup := nodup_rows fun j k x y hjk hx hy e => by
  have h1 := cell_int (t := ⟨outboxS, b⟩) hE.outs (i := 1) hx rfl
  have h2 := cell_int (t := ⟨outboxS, b⟩) hE.outs (i := 1) hy rfl
  refine (hE.outs.rows k y hy).apart x ?_ ⟨⟨[1], true⟩, List.mem_singleton.2 rfl, rfl, ?_, ?_⟩
  · exact List.mem_of_getElem? (by rw [List.getElem?_take, if_pos hjk]; exact hx)
  · intro v hv
    have : v = y.getD 1 vz := List.mem_singleton.1 hv
    rw [this, h2]; exact (by decide : ¬ (2 : Int) = 0)
  · show [y.getD 1 vz] = [x.getD 1 vz]
    rw [h1, h2, e]
theorem owe_iff (hE : EngP a b c d) (o : List Val) : oweB c o = true ↔ ∃ r, r ∈ c ∧ numA r 0 = numA o 1 ∧ waitsR r = true ∧ owedB o r = true := by
  unfold oweB
  rcases Classical.em (idxP (idK (numA o 1)) (c.map keptR) 0 < 0) with h | h
  · rw [decide_eq_true h]
    refine ⟨fun e => (by simp at e), fun ⟨r, hr, he, _⟩ => ?_⟩
    have := idx_none _ _ h (keptR r) (List.mem_map_of_mem hr)
    exact absurd he (of_decide_eq_false this)
  · obtain ⟨j, x, h1, h2, h3⟩ := idx_some _ _ h
    rw [List.getElem?_map] at h2
    cases hr : c[j]? with
    | none => rw [hr] at h2; cases h2
    | some r =>
      rw [hr] at h2
      cases h2
      have hk : keptF (c.map keptR) (numA o 1) = keptR r := by
        unfold keptF
        rw [decide_eq_false h]
        simp only
        rw [h1, List.getD_eq_getElem?_getD, show ((0 + j : Nat) : Int).toNat = j by omega, List.getElem?_map, hr]; rfl
      have hid : numA r 0 = numA o 1 := of_decide_eq_true h3
      rw [hk, decide_eq_false h]
      have e : ((((((!false) && (keptR r).saga.waits) && comEq (comR o) (comS (keptR r).saga)) && decide (numA o 0 = idW (keptR r).id (keptR r).next)) && inside (numA o 6) 0 1000000) && inside (numA o 7) 0 2000000000) = (waitsR r && owedB o r) := by
        show (((((true && waitsR r) && comEq (comR o) (comS (sagaR r))) && decide (numA o 0 = idW (numA r 0) (numA r 8))) && inside (numA o 6) 0 1000000) && inside (numA o 7) 0 2000000000) = _
        unfold owedB
        simp only [Bool.true_and, Bool.and_assoc]
      rw [e, Bool.and_eq_true]
      constructor
      · exact fun ⟨h4, h5⟩ => ⟨r, get_mem hr, hid, h4, h5⟩
      · rintro ⟨r2, g1, g2, g3, g4⟩
        have := one_of (ids_one hE) g1 (get_mem hr) (g2.trans hid.symm)
        subst this
        exact ⟨g3, g4⟩
theorem out_no2 {r : List Val} (hw : waitsR r = false) : outB b r = true ↔ ∀ o, o ∈ b → ¬ numA o 1 = numA r 0 := by
  unfold outB
  rw [hw]
  simp only
  constructor
  · exact fun h o ho => of_decide_eq_false (idx_none _ _ (of_decide_eq_true h) o ho)
  · intro h
    refine decide_eq_true (Classical.byContradiction fun hn => ?_)
    obtain ⟨j, x, h1, h2, h3⟩ := idx_some _ _ hn
    exact h x (get_mem h2) (of_decide_eq_true h3)
theorem out_yes2 (hE : EngP a b c d) {r : List Val} (hw : waitsR r = true) : outB b r = true ↔ ∃ o, o ∈ b ∧ numA o 1 = numA r 0 ∧ owedB o r = true := by
  unfold outB
  rw [hw]
  simp only
  rcases Classical.em (idxP (ofSaga (numA r 0)) b 0 < 0) with h | h
  · rw [decide_eq_true h]
    refine ⟨fun e => (by simp at e), fun ⟨o, ho, he, _⟩ => ?_⟩
    exact absurd he (of_decide_eq_false (idx_none _ _ h o ho))
  · obtain ⟨j, x, h1, h2, h3⟩ := idx_some _ _ h
    rw [decide_eq_false h, h1, List.getD_eq_getElem?_getD, show ((0 + j : Nat) : Int).toNat = j by omega, h2]
    have hid : numA x 1 = numA r 0 := of_decide_eq_true h3
    simp only [Bool.not_false, Bool.true_and, Option.getD_some]
    constructor
    · exact fun h4 => ⟨x, get_mem h2, hid, h4⟩
    · rintro ⟨o, g1, g2, g3⟩
      have := one_of (outs_one hE) g1 (get_mem h2) (g2.trans hid.symm)
      subst this
      exact g3
theorem wait_ids (hE : EngP a b c d) : ((c.filter waitsR).map (numA · 0)).Nodup := by
  have h := ids_one hE
  unfold List.Nodup at h ⊢
  rw [List.pairwise_map] at h ⊢
  exact h.filter _
theorem outs_iff (hE : EngP a b c d) (hn : (c.filter waitsR).length = b.length) : b.all (oweB c) = true ↔ c.all (outB b) = true := by
  rw [List.all_eq_true, List.all_eq_true]
  constructor
  · intro h
    have hp := pigeon (b.map (numA · 1)) ((c.filter waitsR).map (numA · 0)) (outs_one hE) (fun z hz => by
      obtain ⟨o, ho, rfl⟩ := List.mem_map.1 hz
      obtain ⟨r, h1, h2, h3, _⟩ := (owe_iff hE o).1 (h o ho)
      exact List.mem_map.2 ⟨r, List.mem_filter.2 ⟨h1, h3⟩, h2⟩) (by rw [List.length_map, List.length_map]; omega)
    intro r hr
    cases hw : waitsR r with
    | true =>
      obtain ⟨o, ho, he⟩ := List.mem_map.1 (hp (numA r 0) (List.mem_map.2 ⟨r, List.mem_filter.2 ⟨hr, hw⟩, rfl⟩))
      obtain ⟨r2, h1, h2, h3, h4⟩ := (owe_iff hE o).1 (h o ho)
      have := one_of (ids_one hE) h1 hr (h2.trans he)
      subst this
      exact (out_yes2 hE hw).2 ⟨o, ho, he, h4⟩
    | false =>
      refine (out_no2 hw).2 fun o ho he => ?_
      obtain ⟨r2, h1, h2, h3, h4⟩ := (owe_iff hE o).1 (h o ho)
      have := one_of (ids_one hE) h1 hr (h2.trans he)
      subst this
      rw [hw] at h3; cases h3
  · intro h
    have hp := pigeon ((c.filter waitsR).map (numA · 0)) (b.map (numA · 1)) (wait_ids hE) (fun z hz => by
      obtain ⟨r, hr, rfl⟩ := List.mem_map.1 hz
      obtain ⟨h1, h2⟩ := List.mem_filter.1 hr
      obtain ⟨o, ho, he, _⟩ := (out_yes2 hE h2).1 (h r h1)
      exact List.mem_map.2 ⟨o, ho, he⟩) (by rw [List.length_map, List.length_map]; omega)
    intro o ho
    obtain ⟨r, hr, he⟩ := List.mem_map.1 (hp (numA o 1) (List.mem_map.2 ⟨o, ho, rfl⟩))
    obtain ⟨h1, h2⟩ := List.mem_filter.1 hr
    obtain ⟨o2, g1, g2, g3⟩ := (out_yes2 hE h2).1 (h r h1)
    have := one_of (outs_one hE) g1 ho (g2.trans he)
    subst this
    exact (owe_iff hE _).2 ⟨r, h1, he, h2, g3⟩
theorem sum_add {α : Type} (f g : α → Nat) : ∀ l : List α, (l.map fun x => f x + g x).sum = (l.map f).sum + (l.map g).sum
  | [] => rfl
  | x :: l => by simp only [List.map_cons, List.sum_cons, sum_add f g l]; omega
theorem sum_one {α : Type} {f : α → Nat} : ∀ {l : List α}, (∀ x, x ∈ l → f x ≤ 1) → ((l.map f).sum = l.length ↔ ∀ x, x ∈ l → f x = 1) ∧ (l.map f).sum ≤ l.length
  | [], _ => ⟨⟨fun _ x hx => absurd hx List.not_mem_nil, fun _ => rfl⟩, Nat.le_refl _⟩
  | y :: l, h => by
    obtain ⟨h1, h2⟩ := sum_one fun x hx => h x (List.mem_cons_of_mem _ hx)
    have hy := h y (List.mem_cons_self ..)
    simp only [List.map_cons, List.sum_cons, List.length_cons]
    refine ⟨⟨fun e x hx => ?_, fun e => ?_⟩, by omega⟩
    · rcases List.mem_cons.1 hx with rfl | hx
      · omega
      · exact h1.1 (by omega) x hx
    · have := h1.2 fun x hx => e x (List.mem_cons_of_mem _ hx)
      have := e y (List.mem_cons_self ..)
      omega
theorem count_ways (d : List (List Val)) : ∀ a : List (List Val), total d a = (d.map fun s => (a.map (txtA · 0)).count (txtA s 0)).sum
  | [] => by
    show 0 = _
    induction d with
    | nil => rfl
    | cons s d ih => simpa using ih
  | r :: a => by
    have e2 : (stepsN d (txtA r 0)).length = (d.map fun s => if txtA r 0 == txtA s 0 then 1 else 0).sum := by
      unfold stepsN
      rw [List.length_map]
      induction d with
      | nil => rfl
      | cons s d ih =>
        rw [List.filter_cons, List.map_cons, List.sum_cons, ← ih]
        by_cases h : txtA s 0 = txtA r 0
        · rw [if_pos (by simp [sameN, h]), if_pos (by simp [h])]; simp [Nat.add_comm]
        · rw [if_neg (by simp [sameN, h]), if_neg (by simp [Ne.symm h])]; simp
    rw [show total d (r :: a) = (stepsN d (txtA r 0)).length + total d a from rfl, e2, count_ways d a, ← sum_add]
    congr 1
    refine List.map_congr_left fun s _ => ?_
    rw [List.map_cons, List.count_cons, Nat.add_comm]
theorem defs_iff (hE : EngP a b c d) : goodDefs a d ↔ defsB a d := by
  have hone : ∀ s, s ∈ d → (a.map (txtA · 0)).count (txtA s 0) ≤ 1 := fun s _ => List.nodup_iff_count.1 (names_one hE) _
  have hsum := (sum_one hone).1
  rw [← count_ways] at hsum
  constructor
  · rintro ⟨h1, h2⟩
    refine ⟨fun k r hr => (by rw [defs_good hE hr]; exact (h1 k r hr).2), fun k s hs => ?_⟩
    have hc := hsum.1 h2 s (get_mem hs)
    obtain ⟨r, hr, he⟩ := List.mem_map.1 (List.count_pos_iff.1 (by rw [hc]; decide : 0 < (a.map (txtA · 0)).count (txtA s 0)))
    obtain ⟨j, hj⟩ := List.getElem?_of_mem hr
    exact ⟨by have := (def_is hE hj).1; rw [← he]; exact this, by have := (h1 j r hj).1 k s hs he.symm; rw [← he]; exact this⟩
  · intro h
    refine ⟨fun k r hr => ⟨fun j s hs he => ?_, (by rw [← defs_good hE hr]; exact h.ok k r hr)⟩, hsum.2 fun s hs => ?_⟩
    · rw [← he]; exact (h.steps j s hs).2
    · obtain ⟨k, hk⟩ := List.getElem?_of_mem hs
      obtain ⟨r, hr, he⟩ := def_get hE (h.steps k s hk).1
      have : 0 < (a.map (txtA · 0)).count (txtA s 0) := List.count_pos_iff.2 (List.mem_map.2 ⟨r, get_mem hr, he⟩)
      have := hone s hs
      omega
theorem impl_iff (hE : EngP a b c d) : implOk a b c d ↔ (dec (defsB a d) && sagasB a b c d) = true := by
  rw [Bool.and_eq_true]
  unfold sagasB
  rw [Bool.and_eq_true, List.all_eq_true]
  constructor
  · intro h
    have ho := List.all_eq_true.1 ((outs_iff hE h.num).1 h.outs)
    have hh := List.all_eq_true.1 h.sagas
    exact ⟨dec_true ((defs_iff hE).1 h.defs), fun r hr => out_yes (hh r hr) (ho r hr), decide_eq_true (by rw [h.num])⟩
  · rintro ⟨h1, h2, h3⟩
    have hn : (c.filter waitsR).length = b.length := by have := of_decide_eq_true h3; omega
    have h4 : ∀ r, r ∈ c → headB a d r = true ∧ outB b r = true := fun r hr => by
      have := h2 r hr
      unfold sagaB at this
      exact Bool.and_eq_true_iff.1 this
    exact ⟨(defs_iff hE).2 (of_dec h1), List.all_eq_true.2 fun r hr => (h4 r hr).1, (outs_iff hE hn).2 (List.all_eq_true.2 fun r hr => (h4 r hr).2), hn⟩
end
def ReadR (s : Sto) (R : AV) (O : List Ob) : Prop :=
  (engOk s = true ∧ ∃ a b c d, s.tabs = engTs a b c d ∧ EngP a b c d ∧ implOk a b c d ∧ R = .tup [.ptr 0 0, .d (.b true)] ∧ O = engO a b c d) ∨
  (engOk s = false ∧ ((R = .tup [.c (.pointer none), .d (.b false)] ∧ O = []) ∨ (∃ x y ys, R = .tup [.ptr 0 0, .d (.b false)] ∧ O = [.var [.d x, .d y, .own 1], .arr 8 false ys])))
theorem implReadR (s : Sto) (hs : s.fits) : EntQ Tryz.prog 36 [.d (stoD s)] [] (ReadR s) := by
  refine entQ_mono (implRead s hs) fun {R O} h => ?_
  rcases h with ⟨a, b, c, d, h1, hE, h2, h3, h4, h5⟩ | ⟨h1, h2⟩
  · refine .inl ⟨?_, a, b, c, d, h1, hE, h3, h4, h5⟩
    unfold engOk
    rw [h2, h1, dec_true (show engT (engTs a b c d) from ⟨a, b, c, d, rfl⟩)]
    exact (impl_iff hE).1 h3
  · refine .inr ⟨?_, h2⟩
    cases he : engOk s with
    | false => rfl
    | true =>
      unfold engOk at he
      rw [Bool.and_eq_true, Bool.and_eq_true] at he
      obtain ⟨g1, g2, g3⟩ := he
      obtain ⟨a, b, c, d, e⟩ := of_dec g2
      have e2 : s.tabs = engTs a b c d := e
      have hE : EngP a b c d := eng_p (e2 ▸ sto_db g1)
      rw [e2] at g3
      exact absurd ((impl_iff hE).2 g3) (h1 g1 (of_dec g2) a b c d e2)
end Go.Pm.Tryz
namespace Go.Pm.Tryz
open Go Go.Proofs
set_option linter.unusedVariables false
set_option linter.unusedSimpArgs false
set_option maxRecDepth 100000
end Go.Pm.Tryz
namespace Go.Pm.Tryz
open Go Go.Proofs
set_option linter.unusedVariables false
set_option linter.unusedSimpArgs false
set_option maxRecDepth 100000
theorem eng_ok {s : Sto} (h : engOk s = true) : ∃ a b c d, s.tabs = engTs a b c d ∧ EngP a b c d ∧ implOk a b c d := by
  unfold engOk at h
  rw [Bool.and_eq_true, Bool.and_eq_true] at h
  obtain ⟨g1, g2, g3⟩ := h
  obtain ⟨a, b, c, d, e⟩ := of_dec g2
  have e2 : s.tabs = engTs a b c d := e
  have hE : EngP a b c d := eng_p (e2 ▸ sto_db g1)
  rw [e2] at g3
  exact ⟨a, b, c, d, e2, hE, (impl_iff hE).2 g3⟩
theorem mark_sto {s : Sto} (hw : wSto s ≤ 1048576) : ∃ (q : Int) (m1 m2 m3 : List D), 0 ≤ q ∧ Ent Tryz.prog 15 [.agg [.own 0, .own 1, .own 2, .d (.i .i64 s.seq), .d (.i .i64 s.next)], .d (.i .i64 1)] [.arr 1 false (s.disk.secs.map strD), .arr 2 false (s.disk.cache.map wrD), .arr 5 true (s.tabs.map tabO)] (.d (.i .i64 q)) [.arr 1 false m1, .arr 2 false m2, .arr 5 true m3] := by
  have hz := sz_sto hw
  have z1 := hz.secs
  have z2 := hz.cache
  have o1 : AllOf ownString (s.disk.secs.map strD) := own_strs (by omega)
  have o2 : AllOf ownWrite (s.disk.cache.map wrD) := own_wrs (by omega)
  have o3 := own_tabs2 hz.tabs hz.tab
  have n1 := cnt_strs s.disk.secs
  have n2 := cnt_wrs s.disk.cache
  have n3 := cnt_tabs2 s.tabs
  have n4 : wl wTab s.tabs ≤ 1048576 := by unfold wSto at hw; omega
  have f1 : Fine (s.disk.secs.map strD) 1 := ⟨by decide, by omega⟩
  have f2 : Fine (s.disk.cache.map wrD) (ctL (s.disk.secs.map strD) 1) := fine_next f1 (by omega)
  have v1 := ctL_eq _ f1.lo f1.hi
  have f3 : Fine (s.tabs.map tabO) (ctL (s.disk.cache.map wrD) (ctL (s.disk.secs.map strD) 1)) := fine_next f2 (by omega)
  have hq := f3.out
  exact ⟨_, _, _, _, by omega, markStore _ _ _ _ _ o1 o2 o3 1 (by decide)⟩
end Go.Pm.Tryz
