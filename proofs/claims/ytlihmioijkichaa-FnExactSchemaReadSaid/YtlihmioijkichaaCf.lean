import Derived.Test.YtlihmioijkichaaCe
namespace Go.Pm.Try
open Go Go.Proofs
set_option linter.unusedVariables false
set_option linter.unusedSimpArgs false
set_option maxRecDepth 100000
/-! Readers. -/
structure Rd where
  text : List UInt8
  pos : Int
  bad : Bool
def rdC (r : Rd) : List AV := [.d (.s r.text), .d (.i .i64 r.pos), .d (.b r.bad)]
def specNumR (r : Rd) : Int × Rd := sel (r.bad || !decide ((numM r.text r.pos).code = 0)) (0, { r with bad := true }) ((numM r.text r.pos).n, { r with pos := (numM r.text r.pos).pos })
def implNumR (r : Rd) : Int × Rd := ((numM r.text r.pos).n, ⟨r.text, (numM r.text r.pos).pos, r.bad || !decide ((numM r.text r.pos).code = 0)⟩)
def specTextR (r : Rd) : List UInt8 × Rd := sel (r.bad || !decide ((wordM r.text r.pos).code = 0)) ([], { r with bad := true }) ((wordM r.text r.pos).text, { r with pos := (wordM r.text r.pos).pos })
def implWordR (r : Rd) : List UInt8 × Rd := ((wordM r.text r.pos).text, ⟨r.text, (wordM r.text r.pos).pos, r.bad || !decide ((wordM r.text r.pos).code = 0)⟩)
set_option maxHeartbeats 4000000 in
theorem specNum (r : Rd) (hl : r.text.length ≤ 20000) : Ent Try.prog 67 [.ptr 0 0] [.var (rdC r)] (.d (.i .i64 (specNumR r).1)) [.var (rdC (specNumR r).2)] := by
  have c1 := specGetNum r.text hl r.pos
  unfold specNumR
  obtain ⟨m, hm⟩ : ∃ m, m = numM r.text r.pos := ⟨_, rfl⟩
  rw [← hm] at c1 ⊢
  rcases r with ⟨text, pos, bad⟩
  refine ent_of tok mixed (f := 67) Try.func67 (by kernel_rfl) (keep := false) ?_
  cases bad
  all_goals
    repeat' ((conv => whnf) <;> (first
      | ((with_reducible refine isCall ?_) <;> (first
          | (refine ⟨_, c1, ?_⟩; rintro _ _ ⟨rfl, rfl⟩)
          | fail))
      | ((with_reducible refine isLoop ?_) <;> (first
          | fail))
      | ((with_reducible refine isCut ?_) <;> (first
          | refine ⟨⟨none⟩, ?_⟩))
      | ((first | with_reducible refine isEx ?_ | with_reducible refine isAnd ?_ | with_reducible refine isOr ?_) <;> (first
          | refine ⟨rfl, ?_⟩
          | refine ⟨Int.natCast_nonneg _, ?_⟩))
      | with_reducible refine Both.mk ?_ ?_
      | rintro _ rfl
      | exact rfl
      | (split <;> (rename_i h; first | (simp only [beq_self_eq_true, eq_self, decide_true, Bool.not_true, Bool.false_eq_true] at h; done) | (try rw [h])))))
set_option maxHeartbeats 4000000 in
theorem implNumRd (r : Rd) (hl : r.text.length ≤ 20000) : Ent Try.prog 74 [.ptr 0 0] [.var (rdC r)] (.d (.i .i64 (implNumR r).1)) [.var (rdC (implNumR r).2)] := by
  have c1 := implNum r.text hl r.pos
  unfold implNumR
  obtain ⟨m, hm⟩ : ∃ m, m = numM r.text r.pos := ⟨_, rfl⟩
  rw [← hm] at c1 ⊢
  rcases r with ⟨text, pos, bad⟩
  refine ent_of tok mixed (f := 74) Try.func74 (by kernel_rfl) (keep := false) ?_
  cases bad
  all_goals
    repeat' ((conv => whnf) <;> (first
      | ((with_reducible refine isCall ?_) <;> (first
          | (refine ⟨_, c1, ?_⟩; rintro _ _ ⟨rfl, rfl⟩)
          | fail))
      | ((with_reducible refine isLoop ?_) <;> (first
          | fail))
      | ((with_reducible refine isCut ?_) <;> (first
          | refine ⟨⟨none⟩, ?_⟩))
      | ((first | with_reducible refine isEx ?_ | with_reducible refine isAnd ?_ | with_reducible refine isOr ?_) <;> (first
          | refine ⟨rfl, ?_⟩
          | refine ⟨Int.natCast_nonneg _, ?_⟩))
      | with_reducible refine Both.mk ?_ ?_
      | rintro _ rfl
      | exact rfl
      | (split <;> (rename_i h; first | (simp only [beq_self_eq_true, eq_self, decide_true, Bool.not_true, Bool.false_eq_true] at h; done) | (try rw [h])))))
set_option maxHeartbeats 4000000 in
theorem specText (r : Rd) (hl : r.text.length ≤ 20000) : Ent Try.prog 65 [.ptr 0 0] [.var (rdC r)] (.d (.s (specTextR r).1)) [.var (rdC (specTextR r).2)] := by
  have c1 := specGetText r.text hl r.pos
  unfold specTextR
  obtain ⟨m, hm⟩ : ∃ m, m = wordM r.text r.pos := ⟨_, rfl⟩
  rw [← hm] at c1 ⊢
  rcases r with ⟨text, pos, bad⟩
  refine ent_of tok mixed (f := 65) Try.func65 (by kernel_rfl) (keep := false) ?_
  cases bad
  all_goals
    repeat' ((conv => whnf) <;> (first
      | ((with_reducible refine isCall ?_) <;> (first
          | (refine ⟨_, c1, ?_⟩; rintro _ _ ⟨rfl, rfl⟩)
          | fail))
      | ((with_reducible refine isLoop ?_) <;> (first
          | fail))
      | ((with_reducible refine isCut ?_) <;> (first
          | refine ⟨⟨none⟩, ?_⟩))
      | ((first | with_reducible refine isEx ?_ | with_reducible refine isAnd ?_ | with_reducible refine isOr ?_) <;> (first
          | refine ⟨rfl, ?_⟩
          | refine ⟨Int.natCast_nonneg _, ?_⟩))
      | with_reducible refine Both.mk ?_ ?_
      | rintro _ rfl
      | exact rfl
      | (split <;> (rename_i h; first | (simp only [beq_self_eq_true, eq_self, decide_true, Bool.not_true, Bool.false_eq_true] at h; done) | (try rw [h])))))
set_option maxHeartbeats 4000000 in
theorem implWordRd (r : Rd) (hl : r.text.length ≤ 20000) : Ent Try.prog 72 [.ptr 0 0] [.var (rdC r)] (.d (.s (implWordR r).1)) [.var (rdC (implWordR r).2)] := by
  have c1 := implWord r.text hl r.pos
  unfold implWordR
  obtain ⟨m, hm⟩ : ∃ m, m = wordM r.text r.pos := ⟨_, rfl⟩
  rw [← hm] at c1 ⊢
  rcases r with ⟨text, pos, bad⟩
  refine ent_of tok mixed (f := 72) Try.func72 (by kernel_rfl) (keep := false) ?_
  cases bad
  all_goals
    repeat' ((conv => whnf) <;> (first
      | ((with_reducible refine isCall ?_) <;> (first
          | (refine ⟨_, c1, ?_⟩; rintro _ _ ⟨rfl, rfl⟩)
          | fail))
      | ((with_reducible refine isLoop ?_) <;> (first
          | fail))
      | ((with_reducible refine isCut ?_) <;> (first
          | refine ⟨⟨none⟩, ?_⟩))
      | ((first | with_reducible refine isEx ?_ | with_reducible refine isAnd ?_ | with_reducible refine isOr ?_) <;> (first
          | refine ⟨rfl, ?_⟩
          | refine ⟨Int.natCast_nonneg _, ?_⟩))
      | with_reducible refine Both.mk ?_ ?_
      | rintro _ rfl
      | exact rfl
      | (split <;> (rename_i h; first | (simp only [beq_self_eq_true, eq_self, decide_true, Bool.not_true, Bool.false_eq_true] at h; done) | (try rw [h])))))
theorem specNumR_text (r : Rd) : (specNumR r).2.text = r.text := by
  unfold specNumR
  cases (r.bad || !decide ((numM r.text r.pos).code = 0)) <;> rfl
theorem specTextR_text (r : Rd) : (specTextR r).2.text = r.text := by
  unfold specTextR
  cases (r.bad || !decide ((wordM r.text r.pos).code = 0)) <;> rfl
def specManyR (r : Rd) (most : Int) : Int × Rd := (sel ((decide ((specNumR r).1 < 0) || decide ((specNumR r).1 > most)) || (specNumR r).2.bad) 0 (specNumR r).1, { (specNumR r).2 with bad := (decide ((specNumR r).1 < 0) || decide ((specNumR r).1 > most)) || (specNumR r).2.bad })
def implManyR (r : Rd) (most : Int) : Int × Rd := (sel (!inside (implNumR r).1 0 most || (implNumR r).2.bad) 0 (implNumR r).1, { (implNumR r).2 with bad := !inside (implNumR r).1 0 most || (implNumR r).2.bad })
set_option maxHeartbeats 4000000 in
theorem specMany (r : Rd) (hl : r.text.length ≤ 20000) (most : Int) : Ent Try.prog 66 [.ptr 0 0, .d (.i .i64 most)] [.var (rdC r)] (.d (.i .i64 (specManyR r most).1)) [.var (rdC (specManyR r most).2)] := by
  have c1 := specNum r hl
  unfold specManyR
  obtain ⟨q, hq⟩ : ∃ q, q = specNumR r := ⟨_, rfl⟩
  rw [← hq] at c1 ⊢
  clear hq
  rcases q with ⟨n, text, pos, bad⟩
  refine ent_of tok mixed (f := 66) Try.func66 (by kernel_rfl) (keep := false) ?_
  cases bad
  all_goals
    repeat' ((conv => whnf) <;> (first
      | ((with_reducible refine isCall ?_) <;> (first
          | (refine ⟨_, c1, ?_⟩; rintro _ _ ⟨rfl, rfl⟩)
          | fail))
      | ((with_reducible refine isLoop ?_) <;> (first
          | fail))
      | ((with_reducible refine isCut ?_) <;> (first
          | refine ⟨⟨none⟩, ?_⟩))
      | ((first | with_reducible refine isEx ?_ | with_reducible refine isAnd ?_ | with_reducible refine isOr ?_) <;> (first
          | refine ⟨rfl, ?_⟩
          | refine ⟨Int.natCast_nonneg _, ?_⟩))
      | with_reducible refine Both.mk ?_ ?_
      | rintro _ rfl
      | exact rfl
      | (split <;> (rename_i h; first | (simp only [beq_self_eq_true, eq_self, decide_true, Bool.not_true, Bool.false_eq_true] at h; done) | (try rw [h])))))
  all_goals (simp only [*, Bool.false_or, Bool.true_or, Bool.or_false, Bool.or_true, sel]; exact ⟨rfl, rfl⟩)
set_option maxHeartbeats 4000000 in
theorem implMany (r : Rd) (hl : r.text.length ≤ 20000) (most : Int) : Ent Try.prog 73 [.ptr 0 0, .d (.i .i64 most)] [.var (rdC r)] (.d (.i .i64 (implManyR r most).1)) [.var (rdC (implManyR r most).2)] := by
  have c1 := implNumRd r hl
  unfold implManyR
  obtain ⟨q, hq⟩ : ∃ q, q = implNumR r := ⟨_, rfl⟩
  rw [← hq] at c1 ⊢
  clear hq
  rcases q with ⟨n, text, pos, bad⟩
  refine ent_of tok mixed (f := 73) Try.func73 (by kernel_rfl) (keep := false) ?_
  cases bad
  all_goals
    repeat' ((conv => whnf) <;> (first
      | ((with_reducible refine isCall ?_) <;> (first
          | (refine ⟨_, c1, ?_⟩; rintro _ _ ⟨rfl, rfl⟩)
          | (refine ⟨_, within _ _ _, ?_⟩; rintro _ _ ⟨rfl, rfl⟩)
          | fail))
      | ((with_reducible refine isLoop ?_) <;> (first
          | fail))
      | ((with_reducible refine isCut ?_) <;> (first
          | refine ⟨⟨none⟩, ?_⟩))
      | ((first | with_reducible refine isEx ?_ | with_reducible refine isAnd ?_ | with_reducible refine isOr ?_) <;> (first
          | refine ⟨rfl, ?_⟩
          | refine ⟨Int.natCast_nonneg _, ?_⟩))
      | with_reducible refine Both.mk ?_ ?_
      | rintro _ rfl
      | exact rfl
      | (split <;> (rename_i h; first | (simp only [beq_self_eq_true, eq_self, decide_true, Bool.not_true, Bool.false_eq_true] at h; done) | (try rw [h])))))
  all_goals (simp only [*, Bool.false_or, Bool.true_or, Bool.or_false, Bool.or_true, sel]; exact ⟨rfl, rfl⟩)
def overR (r : Rd) : Bool := !r.bad && decide (r.pos = r.text.length)
theorem specDone (r : Rd) : Ent Try.prog 26 [.ptr 0 0] [.var (rdC r)] (.d (.b (overR r))) [.var (rdC r)] := by
  rcases r with ⟨text, pos, bad⟩
  refine ent_of tok mixed (f := 26) Try.func26 (by kernel_rfl) (keep := false) ?_
  cases bad
  all_goals
    repeat' ((conv => whnf) <;> (first
      | ((with_reducible refine isCall ?_) <;> (first
          | fail))
      | ((with_reducible refine isLoop ?_) <;> (first
          | fail))
      | ((with_reducible refine isCut ?_) <;> (first
          | refine ⟨⟨none⟩, ?_⟩))
      | ((first | with_reducible refine isEx ?_ | with_reducible refine isAnd ?_ | with_reducible refine isOr ?_) <;> (first
          | refine ⟨rfl, ?_⟩
          | refine ⟨Int.natCast_nonneg _, ?_⟩))
      | with_reducible refine Both.mk ?_ ?_
      | rintro _ rfl
      | exact rfl
      | (split <;> (rename_i h; first | (simp only [beq_self_eq_true, eq_self, decide_true, Bool.not_true, Bool.false_eq_true] at h; done) | (try rw [h])))))
theorem implOverRd (r : Rd) : Ent Try.prog 77 [.ptr 0 0] [.var (rdC r)] (.d (.b (overR r))) [.var (rdC r)] := by
  rcases r with ⟨text, pos, bad⟩
  refine ent_of tok mixed (f := 77) Try.func77 (by kernel_rfl) (keep := false) ?_
  cases bad
  all_goals
    repeat' ((conv => whnf) <;> (first
      | ((with_reducible refine isCall ?_) <;> (first
          | fail))
      | ((with_reducible refine isLoop ?_) <;> (first
          | fail))
      | ((with_reducible refine isCut ?_) <;> (first
          | refine ⟨⟨none⟩, ?_⟩))
      | ((first | with_reducible refine isEx ?_ | with_reducible refine isAnd ?_ | with_reducible refine isOr ?_) <;> (first
          | refine ⟨rfl, ?_⟩
          | refine ⟨Int.natCast_nonneg _, ?_⟩))
      | with_reducible refine Both.mk ?_ ?_
      | rintro _ rfl
      | exact rfl
      | (split <;> (rename_i h; first | (simp only [beq_self_eq_true, eq_self, decide_true, Bool.not_true, Bool.false_eq_true] at h; done) | (try rw [h])))))
end Go.Pm.Try
