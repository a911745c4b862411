/-
Schemas, read: both sides' answers.
-/
import Derived.Test.YtjjnmkhcdbmhoaaCq
namespace Go.Pm.Try
open Go Go.Proofs
set_option linter.unusedVariables false
set_option linter.unusedSimpArgs false
set_option maxRecDepth 100000
structure SchOut where
  s : Schema
  code : Int
noncomputable def schOutM (l : List UInt8) : SchOut := sel (decide (l.length ≤ 20000)) (sel (schOkI l) ⟨(schR implRs (begR l)).1, 0⟩ ⟨noSch, 3⟩) ⟨noSch, 2⟩
def schOutD (o : SchOut) : D := .agg [.s o.s.name, .sl false (o.s.cols.map colD), .sl false (o.s.keys.map i64D), .sl false (o.s.idxs.map idxD), .i .i64 o.code]
def schOutK (o : SchOut) : AV := .agg [.d (.s o.s.name), .own 0, .own 1, .own 2, .d (.i .i64 o.code)]
def schOutO (o : SchOut) : List Ob := [.arr 3 false (o.s.cols.map colD), .arr 1 false (o.s.keys.map i64D), .arr 2 true (o.s.idxs.map idxO)]
theorem specSchemaRead (l : List UInt8) : Ent Try.prog 10 [.d (.s l)] [] (.d (schOutD (schOutM l))) [] := by
  by_cases h : l.length ≤ 20000
  · have c1 := specSchema (begR l) h
    have c2 := specDone (schR specRs (begR l)).2
    obtain ⟨h1, h2⟩ := sch_same l
    rw [schOutM, decide_eq_true h, schOkI]
    rw [h1] at c2
    have c3 : overR (schR implRs (begR l)).2 = true → Ent Try.prog 24 [.d (schemaD (schR specRs (begR l)).1)] [] (.d (.b (dec (schemaP (schR implRs (begR l)).1)))) [] := fun ho => by rw [h2 ho]; exact specSchemaRight _ (schI_fits h)
    generalize schR specRs (begR l) = a at *
    generalize schR implRs (begR l) = b at *
    cases ho : overR b.2 with
    | false =>
      rw [ho] at c2
      refine ent_of tok mixed (f := 10) Try.func10 (by kernel_rfl) (keep := false) ?_
      repeat' ((conv => whnf) <;> (first | ((with_reducible refine isCall ?_) <;> (first | (refine ⟨_, c1, ?_⟩; rintro _ _ ⟨rfl, rfl⟩) | (refine ⟨_, c2, ?_⟩; rintro _ _ ⟨rfl, rfl⟩) | fail)) | ((with_reducible refine isCut ?_) <;> (first | refine ⟨⟨none⟩, ?_⟩)) | ((first | with_reducible refine isEx ?_ | with_reducible refine isAnd ?_ | with_reducible refine isOr ?_) <;> (first | ((with_reducible refine isSmall ?_) <;> (refine ⟨?_, ?_⟩; kernel_rfl)) | refine ⟨rfl, ?_⟩ | refine ⟨Int.natCast_nonneg _, ?_⟩)) | with_reducible refine Both.mk ?_ ?_ | (exfalso; have := of_decide_eq_true h; omega) | rintro _ rfl | exact rfl | (split <;> (rename_i h; first | (simp only [beq_self_eq_true, eq_self, decide_true, Bool.not_true, Bool.false_eq_true] at h; done) | (try rw [h])))))
    | true =>
      have c3 := c3 ho
      have h2 := h2 ho
      rw [ho] at c2
      cases hd : dec (schemaP b.1)
      all_goals
        rw [hd] at c3
        refine ent_of tok mixed (f := 10) Try.func10 (by kernel_rfl) (keep := false) ?_
        repeat' ((conv => whnf) <;> (first | ((with_reducible refine isCall ?_) <;> (first | (refine ⟨_, c1, ?_⟩; rintro _ _ ⟨rfl, rfl⟩) | (refine ⟨_, c2, ?_⟩; rintro _ _ ⟨rfl, rfl⟩) | (refine ⟨_, c3, ?_⟩; rintro _ _ ⟨rfl, rfl⟩) | fail)) | ((with_reducible refine isCut ?_) <;> (first | refine ⟨⟨none⟩, ?_⟩)) | ((first | with_reducible refine isEx ?_ | with_reducible refine isAnd ?_ | with_reducible refine isOr ?_) <;> (first | ((with_reducible refine isSmall ?_) <;> (refine ⟨?_, ?_⟩; kernel_rfl)) | refine ⟨rfl, ?_⟩ | refine ⟨Int.natCast_nonneg _, ?_⟩)) | with_reducible refine Both.mk ?_ ?_ | (exfalso; have := of_decide_eq_true h; omega) | rintro _ rfl | exact rfl | (split <;> (rename_i h; first | (simp only [beq_self_eq_true, eq_self, decide_true, Bool.not_true, Bool.false_eq_true] at h; done) | (try rw [h])))))
      all_goals (conv => whnf)
      all_goals (rw [h2]; exact ⟨rfl, rfl⟩)
  · rw [schOutM, decide_eq_false h]
    have hb : decide ((l.length : Int) > 20000) = true := decide_eq_true (by omega)
    refine ent_of tok mixed (f := 10) Try.func10 (by kernel_rfl) (keep := false) ?_
    repeat' ((conv => whnf) <;> (first | ((with_reducible refine isCall ?_) <;> (first | fail)) | ((with_reducible refine isCut ?_) <;> (first | refine ⟨⟨none⟩, ?_⟩)) | ((first | with_reducible refine isEx ?_ | with_reducible refine isAnd ?_ | with_reducible refine isOr ?_) <;> (first | ((with_reducible refine isSmall ?_) <;> (refine ⟨?_, ?_⟩; kernel_rfl)) | refine ⟨rfl, ?_⟩ | refine ⟨Int.natCast_nonneg _, ?_⟩)) | with_reducible refine Both.mk ?_ ?_ | (exfalso; rw [hb] at *; contradiction) | rintro _ rfl | exact rfl | (split <;> (rename_i h; first | (simp only [beq_self_eq_true, eq_self, decide_true, Bool.not_true, Bool.false_eq_true] at h; done) | (try rw [h])))))
set_option maxHeartbeats 1000000 in
theorem implSchemaReadOut (l : List UInt8) : Ent Try.prog 8 [.d (.s l)] [] (schOutK (schOutM l)) (schOutO (schOutM l)) := by
  have c0 := isLong [l] (Nat.le_of_ble_eq_true rfl)
  rw [longs1] at c0
  by_cases h : l.length ≤ 20000
  · have c1 := implSchemaRead l h
    rw [schOutM, decide_eq_true h]
    rw [decide_eq_true h] at c0
    generalize (schR implRs (begR l)).1 = b at *
    generalize schOkI l = ok at *
    refine ent_ofN (cx := ⟨tab, [], []⟩) tok mixed (f := 8) Try.func8 (by kernel_rfl) (keep := true) (nm := [.cell 20002 3 false 10002 1, .cell 30002 1 false 10002 2, .cell 40002 2 true 10002 3]) ?_
    cases ok
    all_goals
      repeat' ((conv => whnf) <;> (first | ((with_reducible refine isCall ?_) <;> (first | (refine ⟨_, c0, ?_⟩; rintro _ _ ⟨rfl, rfl⟩) | (refine ⟨_, c1, ?_⟩; rintro _ _ ⟨rfl, rfl⟩) | fail)) | ((with_reducible refine isCut ?_) <;> (first | refine ⟨⟨none⟩, ?_⟩)) | ((first | with_reducible refine isEx ?_ | with_reducible refine isAnd ?_ | with_reducible refine isOr ?_) <;> (first | ((with_reducible refine isSmall ?_) <;> (refine ⟨?_, ?_⟩; kernel_rfl)) | refine ⟨rfl, ?_⟩ | refine ⟨Int.natCast_nonneg _, ?_⟩)) | with_reducible refine Both.mk ?_ ?_ | rintro _ rfl | exact rfl | (split <;> (rename_i h; first | (simp only [beq_self_eq_true, eq_self, decide_true, Bool.not_true, Bool.false_eq_true] at h; done) | (try rw [h])))))
    all_goals (conv => whnf)
    all_goals trace_state
  · rw [schOutM, decide_eq_false h]
    rw [decide_eq_false h] at c0
    refine ent_ofN (cx := ⟨tab, [], []⟩) tok mixed (f := 8) Try.func8 (by kernel_rfl) (keep := true) (nm := [.cell 20002 3 false 10002 1, .cell 30002 1 false 10002 2, .cell 40002 2 true 10002 3]) ?_
    repeat' ((conv => whnf) <;> (first | ((with_reducible refine isCall ?_) <;> (first | (refine ⟨_, c0, ?_⟩; rintro _ _ ⟨rfl, rfl⟩) | fail)) | ((with_reducible refine isCut ?_) <;> (first | refine ⟨⟨none⟩, ?_⟩)) | ((first | with_reducible refine isEx ?_ | with_reducible refine isAnd ?_ | with_reducible refine isOr ?_) <;> (first | ((with_reducible refine isSmall ?_) <;> (refine ⟨?_, ?_⟩; kernel_rfl)) | refine ⟨rfl, ?_⟩ | refine ⟨Int.natCast_nonneg _, ?_⟩)) | with_reducible refine Both.mk ?_ ?_ | rintro _ rfl | exact rfl | (split <;> (rename_i h; first | (simp only [beq_self_eq_true, eq_self, decide_true, Bool.not_true, Bool.false_eq_true] at h; done) | (try rw [h])))))
    all_goals trace_state
theorem schOut_small (l : List UInt8) : (schOutM l).s.small := by
  unfold schOutM
  by_cases h : l.length ≤ 20000
  · rw [decide_eq_true h]
    cases schOkI l with
    | true => exact schI_small h
    | false => exact noSch_small
  · rw [decide_eq_false h]; exact noSch_small
end Go.Pm.Try
