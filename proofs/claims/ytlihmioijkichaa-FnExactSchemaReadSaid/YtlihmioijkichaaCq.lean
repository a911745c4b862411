import Derived.Test.YtlihmioijkichaaCp
namespace Go.Pm.Try
open Go Go.Proofs
set_option linter.unusedVariables false
set_option linter.unusedSimpArgs false
set_option maxRecDepth 100000
structure SchOut where
  s : Schema
  code : Int
def noSch : Schema := ⟨[], [], [], []⟩
noncomputable def schOutM (l : List UInt8) : SchOut := sel (decide (l.length ≤ 20000)) (sel (schOkI l) ⟨(schR implRs (begR l)).1, 0⟩ ⟨noSch, 3⟩) ⟨noSch, 2⟩
def schOutD (o : SchOut) : D := .agg [.s o.s.name, .sl false (o.s.cols.map colD), .sl false (o.s.keys.map i64D), .sl false (o.s.idxs.map idxD), .i .i64 o.code]
def schOutK (o : SchOut) : AV := .agg [.d (.s o.s.name), .own 0, .own 1, .own 2, .d (.i .i64 o.code)]
def schOutO (o : SchOut) : List Ob := [.arr 3 false (o.s.cols.map colD), .arr 1 false (o.s.keys.map i64D), .arr 2 true (o.s.idxs.map idxO)]
theorem sch_same (l : List UInt8) : overR (schR specRs (begR l)).2 = overR (schR implRs (begR l)).2 ∧ (overR (schR implRs (begR l)).2 = true → (schR specRs (begR l)).1 = (schR implRs (begR l)).1) := by
  have h := same_sch.like (like_beg l)
  have e := over_like h.rd
  exact ⟨e, fun ho => h.val (over_good (e.trans ho))⟩
theorem specSchemaRead (l : List UInt8) : Ent Try.prog 6 [.d (.s l)] [] (.d (schOutD (schOutM l))) [] := by
  by_cases h : l.length ≤ 20000
  · have c1 := specSchema (begR l) h
    have c2 := specDone (schR specRs (begR l)).2
    obtain ⟨h1, h2⟩ := sch_same l
    rw [schOutM, decide_eq_true h, schOkI]
    rw [h1] at c2
    have c3 : overR (schR implRs (begR l)).2 = true → Ent Try.prog 27 [.d (schemaD (schR specRs (begR l)).1)] [] (.d (.b (dec (schemaP (schR implRs (begR l)).1)))) [] := fun ho => by rw [h2 ho]; exact specSchemaRight _ (schI_fits h)
    generalize schR specRs (begR l) = a at *
    generalize schR implRs (begR l) = b at *
    cases ho : overR b.2 with
    | false =>
      rw [ho] at c2
      refine ent_of tok mixed (f := 6) Try.func6 (by kernel_rfl) (keep := false) ?_
      repeat' ((conv => whnf) <;> (first
        | ((with_reducible refine isCall ?_) <;> (first
            | (refine ⟨_, c1, ?_⟩; rintro _ _ ⟨rfl, rfl⟩)
            | (refine ⟨_, c2, ?_⟩; rintro _ _ ⟨rfl, rfl⟩)
            | fail))
        | ((with_reducible refine isLoop ?_) <;> (first
            | fail))
        | ((with_reducible refine isCut ?_) <;> (first
            | refine ⟨⟨none⟩, ?_⟩))
        | ((first | with_reducible refine isEx ?_ | with_reducible refine isAnd ?_ | with_reducible refine isOr ?_) <;> (first
            | refine ⟨rfl, ?_⟩
            | refine ⟨Int.natCast_nonneg _, ?_⟩))
        | with_reducible refine Both.mk ?_ ?_
        | (exfalso; have := of_decide_eq_true h; omega)
        | rintro _ rfl
        | exact rfl
        | (split <;> (rename_i h; first | (simp only [beq_self_eq_true, eq_self, decide_true, Bool.not_true, Bool.false_eq_true] at h; done) | (try rw [h])))))
    | true =>
      have c3 := c3 ho
      have h2 := h2 ho
      rw [ho] at c2
      cases hd : dec (schemaP b.1)
      all_goals
        rw [hd] at c3
        refine ent_of tok mixed (f := 6) Try.func6 (by kernel_rfl) (keep := false) ?_
        repeat' ((conv => whnf) <;> (first
          | ((with_reducible refine isCall ?_) <;> (first
              | (refine ⟨_, c1, ?_⟩; rintro _ _ ⟨rfl, rfl⟩)
              | (refine ⟨_, c2, ?_⟩; rintro _ _ ⟨rfl, rfl⟩)
              | (refine ⟨_, c3, ?_⟩; rintro _ _ ⟨rfl, rfl⟩)
              | fail))
          | ((with_reducible refine isLoop ?_) <;> (first
              | fail))
          | ((with_reducible refine isCut ?_) <;> (first
              | refine ⟨⟨none⟩, ?_⟩))
          | ((first | with_reducible refine isEx ?_ | with_reducible refine isAnd ?_ | with_reducible refine isOr ?_) <;> (first
              | refine ⟨rfl, ?_⟩
              | refine ⟨Int.natCast_nonneg _, ?_⟩))
          | with_reducible refine Both.mk ?_ ?_
          | (exfalso; have := of_decide_eq_true h; omega)
          | rintro _ rfl
          | exact rfl
          | (split <;> (rename_i h; first | (simp only [beq_self_eq_true, eq_self, decide_true, Bool.not_true, Bool.false_eq_true] at h; done) | (try rw [h])))))
      all_goals (conv => whnf)
      all_goals (rw [h2]; exact ⟨rfl, rfl⟩)
  · rw [schOutM, decide_eq_false h]
    have hb : decide ((l.length : Int) > 20000) = true := decide_eq_true (by omega)
    refine ent_of tok mixed (f := 6) Try.func6 (by kernel_rfl) (keep := false) ?_
    repeat' ((conv => whnf) <;> (first
      | ((with_reducible refine isCall ?_) <;> (first
          | fail))
      | ((with_reducible refine isLoop ?_) <;> (first
          | fail))
      | ((with_reducible refine isCut ?_) <;> (first
          | refine ⟨⟨none⟩, ?_⟩))
      | ((first | with_reducible refine isEx ?_ | with_reducible refine isAnd ?_ | with_reducible refine isOr ?_) <;> (first
          | refine ⟨rfl, ?_⟩
          | refine ⟨Int.natCast_nonneg _, ?_⟩))
      | with_reducible refine Both.mk ?_ ?_
      | (exfalso; rw [hb] at *; contradiction)
      | rintro _ rfl
      | exact rfl
      | (split <;> (rename_i h; first | (simp only [beq_self_eq_true, eq_self, decide_true, Bool.not_true, Bool.false_eq_true] at h; done) | (try rw [h])))))
theorem longs1 (l : List UInt8) : longs [l] = !decide (l.length ≤ 20000) := by
  simp only [longs, List.any_cons, List.any_nil, Bool.or_false]
  by_cases h : l.length ≤ 20000
  · rw [decide_eq_true h]; exact decide_eq_false (by omega)
  · rw [decide_eq_false h]; exact decide_eq_true (by omega)
set_option maxHeartbeats 1000000 in
theorem implSchemaReadOut (l : List UInt8) : Ent Try.prog 7 [.d (.s l)] [] (schOutK (schOutM l)) (schOutO (schOutM l)) := by
  have c0 := isLong [l] (Nat.le_of_ble_eq_true rfl)
  rw [longs1] at c0
  by_cases h : l.length ≤ 20000
  · have c1 := implSchemaRead l h
    rw [schOutM, decide_eq_true h]
    rw [decide_eq_true h] at c0
    generalize (schR implRs (begR l)).1 = b at *
    generalize schOkI l = ok at *
    refine ent_ofN (cx := ⟨tab, []⟩) tok mixed (f := 7) Try.func7 (by kernel_rfl) (keep := true) (nm := [.cell 20002 3 false 10002 1, .cell 30002 1 false 10002 2, .cell 40002 2 true 10002 3]) ?_
    cases ok
    all_goals
      repeat' ((conv => whnf) <;> (first
        | ((with_reducible refine isCall ?_) <;> (first
            | (refine ⟨_, c0, ?_⟩; rintro _ _ ⟨rfl, rfl⟩)
            | (refine ⟨_, c1, ?_⟩; rintro _ _ ⟨rfl, rfl⟩)
            | fail))
        | ((with_reducible refine isLoop ?_) <;> (first
            | fail))
        | ((with_reducible refine isCut ?_) <;> (first
            | refine ⟨⟨none⟩, ?_⟩))
        | ((first | with_reducible refine isEx ?_ | with_reducible refine isAnd ?_ | with_reducible refine isOr ?_) <;> (first
            | refine ⟨rfl, ?_⟩
            | refine ⟨Int.natCast_nonneg _, ?_⟩))
        | with_reducible refine Both.mk ?_ ?_
        | rintro _ rfl
        | exact rfl
        | (split <;> (rename_i h; first | (simp only [beq_self_eq_true, eq_self, decide_true, Bool.not_true, Bool.false_eq_true] at h; done) | (try rw [h])))))
    all_goals (conv => whnf)
    all_goals trace_state
  · rw [schOutM, decide_eq_false h]
    rw [decide_eq_false h] at c0
    refine ent_ofN (cx := ⟨tab, []⟩) tok mixed (f := 7) Try.func7 (by kernel_rfl) (keep := true) (nm := [.cell 20002 3 false 10002 1, .cell 30002 1 false 10002 2, .cell 40002 2 true 10002 3]) ?_
    repeat' ((conv => whnf) <;> (first
      | ((with_reducible refine isCall ?_) <;> (first
          | (refine ⟨_, c0, ?_⟩; rintro _ _ ⟨rfl, rfl⟩)
          | fail))
      | ((with_reducible refine isLoop ?_) <;> (first
          | fail))
      | ((with_reducible refine isCut ?_) <;> (first
          | refine ⟨⟨none⟩, ?_⟩))
      | ((first | with_reducible refine isEx ?_ | with_reducible refine isAnd ?_ | with_reducible refine isOr ?_) <;> (first
          | refine ⟨rfl, ?_⟩
          | refine ⟨Int.natCast_nonneg _, ?_⟩))
      | with_reducible refine Both.mk ?_ ?_
      | rintro _ rfl
      | exact rfl
      | (split <;> (rename_i h; first | (simp only [beq_self_eq_true, eq_self, decide_true, Bool.not_true, Bool.false_eq_true] at h; done) | (try rw [h])))))
    all_goals trace_state
end Go.Pm.Try
