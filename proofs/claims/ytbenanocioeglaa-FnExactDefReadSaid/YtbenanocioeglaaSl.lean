import Derived.Test.YtbenanocioeglaaSk
namespace Go.Pm.Try
open Go Go.Proofs
set_option linter.unusedVariables false
set_option linter.unusedSimpArgs false
set_option maxRecDepth 100000
theorem markNone : Ent Try.prog 32 [.d (.sl false []), .d (.i .i64 1)] [] (.d (.i .i64 1)) [] := by
  refine ent_of tok mixed (f := 32) Try.func32 (by kernel_rfl) (keep := false) ?_
  repeat' ((conv => whnf) <;> (first
    | (refine ⟨[5, 1, 0], [], fun s => s = ⟨[(5, .d (.i .i64 0)), (1, .d (.i .i64 1)), (0, .d (.sl false []))], []⟩, fun s => 0, rfl, rfl, ?_⟩; rintro s rfl)
    | refine ⟨⟨none⟩, ?_⟩
    | refine Both.mk ?_ ?_
    | rintro _ rfl
    | refine ⟨rfl, ?_⟩
    | exact rfl
    | refine ⟨Int.natCast_nonneg _, ?_⟩
    | (split <;> (rename_i h; first | (simp only [beq_self_eq_true, eq_self, decide_true, Bool.not_true, Bool.false_eq_true] at h; done) | (try rw [h])))))
theorem heldNone : Ent Try.prog 33 [.d (.sl false []), .d (.i .i64 1)] [] (.d (.i .i64 1)) [] := heldInts 0 (by decide)
theorem eqNone : Ent Try.prog 30 [.d (.sl false []), .d (.sl false [])] [] (.d (.b true)) [] := eqInts [] (Nat.zero_le _)
theorem entQ_mono {P : Program} {f : FuncId} {args : List AV} {objs : List Ob} {Q Q' : AV → List Ob → Prop} (h : EntQ P f args objs Q) (hQ : ∀ R O, Q R O → Q' R O) : EntQ P f args objs Q' :=
  ⟨h.enters, fun X0 J w vs hr hm => (h.calls X0 J w vs hr hm).mono fun e w' ⟨R, O, v, J', hq, rest⟩ => ⟨R, O, v, J', hQ R O hq, rest⟩⟩
set_option maxHeartbeats 8000000 in
theorem undidLaw0 (d : Def) (hd : d.fits) (s : Saga) (hL : undid d s = []) : Ent Try.prog 6 [.d (defD d), .d (sagaD s)] [] (.d (.b true)) [] := by
  have c1 := specUndid d hd s
  have c2 := implUndid d hd s
  rw [hL] at c1 c2
  have c2 := entQ_mono (Q' := fun R O => (R = .d (.sl false []) ∧ O = []) ∨ (R = .own 0 ∧ O = [.arr 1 false []])) c2 (fun R O h => h.imp (fun h => ⟨h.1, h.2.1⟩) id)
  have c4 : Ent Try.prog 32 [.own 0, .d (.i .i64 1)] [.arr 1 false []] (.d (.i .i64 1)) [.arr 1 false []] := markInts [] (by decide)
  refine ent_of (cx := ⟨tab, [31, 32]⟩) tok mixed (f := 6) Try.func6 (by kernel_rfl) (keep := false) ?_
  repeat' ((conv => whnf) <;> (first
    | (refine ⟨_, szDef d hd, ?_⟩; rintro _ _ ⟨r, rfl, rfl, hr⟩)
    | (refine ⟨_, toDefK d (hr (Int.not_lt.1 (of_decide_eq_false (by assumption)))), ?_⟩; rintro _ _ ⟨rfl, rfl⟩)
    | (refine ⟨_, toSaga s, ?_⟩; rintro _ _ ⟨rfl, rfl⟩)
    | (refine ⟨_, c1, ?_⟩; rintro _ _ ⟨rfl, rfl⟩)
    | (refine ⟨_, c2, ?_⟩; rintro _ _ (⟨rfl, rfl⟩ | ⟨rfl, rfl⟩))
    | (refine ⟨_, eqDef d hd, ?_⟩; rintro _ _ ⟨rfl, rfl⟩)
    | (refine ⟨_, markDef d (hr (Int.not_lt.1 (of_decide_eq_false (by assumption)))), ?_⟩; rintro _ _ ⟨rfl, ms, rfl⟩)
    | (refine ⟨_, eqNone, ?_⟩; rintro _ _ ⟨rfl, rfl⟩)
    | (refine ⟨_, c4, ?_⟩; rintro _ _ ⟨rfl, rfl⟩)
    | (refine ⟨_, markNone, ?_⟩; rintro _ _ ⟨rfl, rfl⟩)
    | (refine ⟨_, heldNone, ?_⟩; rintro _ _ ⟨rfl, rfl⟩)
    | refine ⟨⟨none⟩, ?_⟩
    | refine Both.mk ?_ ?_
    | rintro _ rfl
    | refine ⟨rfl, ?_⟩
    | exact rfl
    | refine ⟨Int.natCast_nonneg _, ?_⟩
    | (split <;> (rename_i h; first | (simp only [beq_self_eq_true, eq_self, decide_true, Bool.not_true, Bool.false_eq_true] at h; done) | (try rw [h])))))
theorem flat_ints : ∀ l : List Int, looseL (l.map i64D) = true
  | [] => rfl
  | a :: l => flat_ints l
theorem flat_no {l : List Int} (h : ((AV.own 0).loose && flatObs [Ob.arr 1 false (l.map i64D)]) = false) : False := by
  have e : ((AV.own 0).loose && flatObs [Ob.arr 1 false (l.map i64D)]) = true := by
    simp only [AV.loose, flatObs, flat_ints, Bool.and_self]
  rw [e] at h; cases h
set_option maxHeartbeats 8000000 in
theorem undidLaw1 (d : Def) (hd : d.fits) (s : Saga) (a : Int) (l : List Int) (hL : undid d s = a :: l) : Ent Try.prog 6 [.d (defD d), .d (sagaD s)] [] (.d (.b true)) [] := by
  have hlen := undid_len d s
  have c1 := specUndid d hd s
  have c2 := implUndid d hd s
  rw [hL] at c1 c2 hlen
  have c2 := entQ_mono (Q' := fun R O => R = .own 0 ∧ O = [.arr 1 false ((a :: l).map i64D)]) c2 (fun R O h => h.elim (fun h => by cases h.2.2) id)
  have hm : (a :: l).length ≤ maxLen := Nat.le_trans hlen (Nat.le_of_ble_eq_true rfl)
  have c3 := eqInts (a :: l) hm
  have c4 := markInts ((a :: l).map i64D) (by rw [List.length_map]; omega)
  rw [List.length_map] at c4
  obtain ⟨n, hn⟩ : ∃ n, n = (a :: l).length := ⟨_, rfl⟩
  rw [← hn] at c4 hlen
  have c5 := heldInts n (by omega)
  clear hL hm hn
  have hpos : ¬ (1 + (n : Int)) < 0 := by omega
  obtain ⟨q, hq⟩ : ∃ q, q = 1 + (n : Int) := ⟨_, rfl⟩
  rw [← hq] at c4 c5 hpos
  refine ent_of (cx := ⟨tab, [31, 32]⟩) tok mixed (f := 6) Try.func6 (by kernel_rfl) (keep := false) ?_
  repeat' ((conv => whnf) <;> (first
    | (exfalso; refine flat_no (l := a :: l) ?_; assumption)
    | (refine ⟨_, szDef d hd, ?_⟩; rintro _ _ ⟨r, rfl, rfl, hr⟩)
    | (refine ⟨_, toDefK d (hr (Int.not_lt.1 (of_decide_eq_false (by assumption)))), ?_⟩; rintro _ _ ⟨rfl, rfl⟩)
    | (refine ⟨_, toSaga s, ?_⟩; rintro _ _ ⟨rfl, rfl⟩)
    | (refine ⟨_, c1, ?_⟩; rintro _ _ ⟨rfl, rfl⟩)
    | (refine ⟨_, c2, ?_⟩; rintro _ _ ⟨rfl, rfl⟩)
    | (refine ⟨_, eqDef d hd, ?_⟩; rintro _ _ ⟨rfl, rfl⟩)
    | (refine ⟨_, markDef d (hr (Int.not_lt.1 (of_decide_eq_false (by assumption)))), ?_⟩; rintro _ _ ⟨rfl, ms, rfl⟩)
    | (refine ⟨_, c3, ?_⟩; rintro _ _ ⟨rfl, rfl⟩)
    | (refine ⟨_, c4, ?_⟩; rintro _ _ ⟨rfl, rfl⟩)
    | (refine ⟨_, c5, ?_⟩; rintro _ _ ⟨rfl, rfl⟩)
    | refine ⟨⟨none⟩, ?_⟩
    | refine Both.mk ?_ ?_
    | rintro _ rfl
    | refine ⟨rfl, ?_⟩
    | exact rfl
    | refine ⟨Int.natCast_nonneg _, ?_⟩
    | (split <;> (rename_i h; first | (simp only [beq_self_eq_true, eq_self, decide_true, Bool.not_true, Bool.false_eq_true] at h; done) | (try rw [h])))))
  all_goals first
    | exact absurd (of_decide_eq_true h) hpos
    | trace_state
theorem undidLaw (d : Def) (hd : d.fits) (s : Saga) : Ent Try.prog 6 [.d (defD d), .d (sagaD s)] [] (.d (.b true)) [] := by
  cases h : undid d s with
  | nil => exact undidLaw0 d hd s h
  | cons a l => exact undidLaw1 d hd s a l h
end Go.Pm.Try
