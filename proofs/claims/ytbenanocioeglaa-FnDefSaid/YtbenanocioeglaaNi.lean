import Derived.Test.YtbenanocioeglaaNh
namespace Go.Pm.Try
open Go Go.Proofs
set_option linter.unusedVariables false
set_option linter.unusedSimpArgs false
set_option maxRecDepth 100000
def readAll (l : List UInt8) : DefOut := sel (decide (l.length ≤ 20000)) (readM specRs l) ⟨noDef, 2⟩
theorem specDefRead (l : List UInt8) : Ent Try.prog 36 [.d (.s l)] [] (.d (defOutD (readAll l))) [] := by
  by_cases h : l.length ≤ 20000
  · rw [readAll, decide_eq_true h]; exact specDefReadWalk l h
  · rw [readAll, decide_eq_false h]
    have hb : decide ((l.length : Int) > 20000) = true := decide_eq_true (by omega)
    refine ent_of tok mixed (f := 36) Try.func36 (by kernel_rfl) (keep := false) ?_
    repeat' ((conv => whnf) <;> (first | ((with_reducible refine isCall ?_) <;> (first | fail)) | ((with_reducible refine isCut ?_) <;> (first | refine ⟨⟨none⟩, ?_⟩)) | ((first | with_reducible refine isEx ?_ | with_reducible refine isAnd ?_ | with_reducible refine isOr ?_) <;> (first | ((with_reducible refine isSmall ?_) <;> (refine ⟨?_, ?_⟩; kernel_rfl)) | refine ⟨rfl, ?_⟩ | refine ⟨Int.natCast_nonneg _, ?_⟩)) | with_reducible refine Both.mk ?_ ?_ | (exfalso; rw [hb] at *; contradiction) | rintro _ rfl | exact rfl | (split <;> (rename_i h; first | (simp only [beq_self_eq_true, eq_self, decide_true, Bool.not_true, Bool.false_eq_true] at h; done) | (try rw [h])))))
theorem implDefRead (l : List UInt8) : Ent Try.prog 37 [.d (.s l)] [] (.d (defOutD (readAll l))) [] := by
  by_cases h : l.length ≤ 20000
  · rw [readAll, decide_eq_true h, read_same]; exact implDefReadWalk l h
  · rw [readAll, decide_eq_false h]
    have c0 := isLong [l] (Nat.le_of_ble_eq_true rfl)
    have hb : longs [l] = true := by
      simp only [longs, List.any_cons, List.any_nil, Bool.or_false, decide_eq_true_eq]; omega
    rw [hb] at c0
    refine ent_of tok mixed (f := 37) Try.func37 (by kernel_rfl) (keep := false) ?_
    repeat' ((conv => whnf) <;> (first | ((with_reducible refine isCall ?_) <;> (first | (refine ⟨_, c0, ?_⟩; rintro _ _ ⟨rfl, rfl⟩) | fail)) | ((with_reducible refine isCut ?_) <;> (first | refine ⟨⟨none⟩, ?_⟩)) | ((first | with_reducible refine isEx ?_ | with_reducible refine isAnd ?_ | with_reducible refine isOr ?_) <;> (first | ((with_reducible refine isSmall ?_) <;> (refine ⟨?_, ?_⟩; kernel_rfl)) | refine ⟨rfl, ?_⟩ | refine ⟨Int.natCast_nonneg _, ?_⟩)) | with_reducible refine Both.mk ?_ ?_ | rintro _ rfl | exact rfl | (split <;> (rename_i h; first | (simp only [beq_self_eq_true, eq_self, decide_true, Bool.not_true, Bool.false_eq_true] at h; done) | (try rw [h])))))
end Go.Pm.Try
