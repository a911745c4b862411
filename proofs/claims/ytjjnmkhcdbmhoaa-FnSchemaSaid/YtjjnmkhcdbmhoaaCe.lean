import Derived.Test.YtjjnmkhcdbmhoaaCc
namespace Go.Pm.Try
open Go Go.Proofs
set_option linter.unusedVariables false
set_option linter.unusedSimpArgs false
set_option maxRecDepth 100000
/-! Texts in a text. -/
structure TextOut where
  text : List UInt8
  pos : Int
  code : Int
def textD (o : TextOut) : D := .agg [.s o.text, .i .i64 o.pos, .i .i64 o.code]
def wordM (l : List UInt8) (a : Int) : TextOut :=
  if (numM l a).code ≠ 0 then ⟨[], 0, (numM l a).code⟩
  else if ¬ (0 ≤ (numM l a).n ∧ (numM l a).n ≤ 20000) then ⟨[], 0, 3⟩
  else if (numM l a).pos + (numM l a).n > l.length then ⟨[], 0, 4⟩
  else ⟨(l.take ((numM l a).pos + (numM l a).n).toNat).drop (numM l a).pos.toNat, (numM l a).pos + (numM l a).n, 0⟩
theorem numGo_pos (l : List UInt8) (a : Int) (ha : 0 ≤ a) : ∀ (f i u : Nat), (numGo l a f i u).code = 0 → 0 ≤ (numGo l a f i u).pos ∧ (numGo l a f i u).pos ≤ l.length
  | 0, i, u, h => by simp [numGo] at h
  | f + 1, i, u, h => by
    simp only [numGo] at h ⊢
    split at h
    · cases h
    · rename_i h1
      rw [if_neg h1] at *
      split at h
      · cases h
      · rename_i h2
        rw [if_neg h2] at *
        split at h
        · rename_i h3
          rw [if_pos h3] at *
          exact numGo_pos l a ha f (i + 1) _ h
        · rename_i h3
          rw [if_neg h3] at *
          split at h
          · cases h
          · rename_i h4
            rw [if_neg h4]
            constructor
            · show 0 ≤ a + i + 1; omega
            · show a + i + 1 ≤ l.length; omega
theorem numM_pos {l : List UInt8} {a : Int} (h : (numM l a).code = 0) : 0 ≤ (numM l a).pos ∧ (numM l a).pos ≤ l.length := by
  unfold numM at *
  split at h
  · cases h
  · rename_i h1
    rw [if_neg h1] at *
    exact numGo_pos l a (by omega) 10 0 0 h
theorem text_need {l : List UInt8} {m : NumOut} (hl : l.length ≤ 20000) (hp : m.code = 0 → 0 ≤ m.pos ∧ m.pos ≤ l.length) (h0 : (!decide (m.code = 0)) = false) (h1 : decide (m.n < 0) = false) (h2 : decide (m.n > 20000) = false)
    (h3 : decide (m.pos > IntKind.i64.wrap ((l.length : Int) - m.n)) = false) : 0 ≤ m.pos ∧ m.pos ≤ IntKind.i64.wrap (m.pos + m.n) ∧ IntKind.i64.wrap (m.pos + m.n) ≤ l.length := by
  have h0 := hp (of_decide_eq_true (not_ok h0))
  have h1 := of_decide_eq_false h1
  have h2 := of_decide_eq_false h2
  have h3 := of_decide_eq_false h3
  rw [wrap_i64_id _ (by omega) (by omega)] at h3
  rw [wrap_i64_id _ (by omega) (by omega)]
  omega
theorem text_need' {l : List UInt8} {m : NumOut} (hl : l.length ≤ 20000) (hp : m.code = 0 → 0 ≤ m.pos ∧ m.pos ≤ l.length) (h0 : (!decide (m.code = 0)) = false) (h1 : (!inside m.n 0 20000) = false)
    (h3 : decide (IntKind.i64.wrap (m.pos + m.n) > (l.length : Int)) = false) : 0 ≤ m.pos ∧ m.pos ≤ IntKind.i64.wrap (m.pos + m.n) ∧ IntKind.i64.wrap (m.pos + m.n) ≤ l.length := by
  have h0 := hp (of_decide_eq_true (not_ok h0))
  have h1 := (inside_iff _ _ _).1 (not_ok h1)
  have h3 := of_decide_eq_false h3
  rw [wrap_i64_id _ (by omega) (by omega)] at h3 ⊢
  omega
set_option maxHeartbeats 4000000 in
theorem specGetText (l : List UInt8) (hl : l.length ≤ 20000) (a : Int) : Ent Try.prog 81 [.d (.s l), .d (.i .i64 a)] [] (.d (textD (wordM l a))) [] := by
  have c1 := specGetNum l hl a
  have hp := numM_pos (l := l) (a := a)
  obtain ⟨o, ho⟩ : ∃ o, o = wordM l a := ⟨_, rfl⟩
  rw [← ho]
  unfold wordM at ho
  obtain ⟨m, hm⟩ : ∃ m, m = numM l a := ⟨_, rfl⟩
  rw [← hm] at c1 hp ho
  refine ent_of tok mixed (f := 81) Try.func81 (by kernel_rfl) (keep := false) ?_
  repeat' ((conv => whnf) <;> (first | ((with_reducible refine isCall ?_) <;> (first | (refine ⟨_, c1, ?_⟩; rintro _ _ ⟨rfl, rfl⟩) | (refine ⟨text_need hl hp ?_ ?_ ?_ ?_, ?_⟩; (· assumption); (· assumption); (· assumption); (· assumption)) | fail)) | ((with_reducible refine isCut ?_) <;> (first | refine ⟨⟨none⟩, ?_⟩)) | ((first | with_reducible refine isEx ?_ | with_reducible refine isAnd ?_ | with_reducible refine isOr ?_) <;> (first | (refine ⟨text_need hl hp ?_ ?_ ?_ ?_, ?_⟩; (· assumption); (· assumption); (· assumption); (· assumption)) | ((with_reducible refine isSmall ?_) <;> (refine ⟨?_, ?_⟩; kernel_rfl)) | refine ⟨rfl, ?_⟩ | refine ⟨Int.natCast_nonneg _, ?_⟩)) | with_reducible refine Both.mk ?_ ?_ | rintro _ rfl | exact rfl | (split <;> (rename_i h; first | (simp only [beq_self_eq_true, eq_self, decide_true, Bool.not_true, Bool.false_eq_true] at h; done) | (try rw [h])))))
  all_goals (conv => whnf)
  · refine ⟨congrArg (fun o => AV.d (textD o)) (?_ : (⟨[], 0, m.code⟩ : TextOut) = o), rfl⟩
    rw [ho, if_pos (of_decide_eq_false (not_ok' h))]
  all_goals
    have hc : m.code = 0 := of_decide_eq_true (not_ok (by assumption))
    have hp := hp hc
    rw [if_neg (by omega)] at ho
    simp only [decide_eq_true_eq, decide_eq_false_iff_not] at *
  · refine ⟨congrArg (fun o => AV.d (textD o)) (?_ : (⟨[], 0, 3⟩ : TextOut) = o), trivial⟩
    rw [ho, if_pos (by omega)]
  · refine ⟨congrArg (fun o => AV.d (textD o)) (?_ : (⟨[], 0, 3⟩ : TextOut) = o), trivial⟩
    rw [ho, if_pos (by omega)]
  · rw [wrap_i64_id _ (by omega) (by omega)] at h
    refine ⟨congrArg (fun o => AV.d (textD o)) (?_ : (⟨[], 0, 4⟩ : TextOut) = o), trivial⟩
    rw [ho, if_neg (by omega), if_pos (by omega)]
  · rw [wrap_i64_id _ (by omega) (by omega)] at h
    rw [if_neg (by omega), if_neg (by omega)] at ho
    rw [wrap_i64_id _ (by omega) (by omega), ho]
    exact ⟨rfl, trivial⟩
set_option maxHeartbeats 4000000 in
theorem implWord (l : List UInt8) (hl : l.length ≤ 20000) (a : Int) : Ent Try.prog 79 [.d (.s l), .d (.i .i64 a)] [] (.d (textD (wordM l a))) [] := by
  have c1 := implNum l hl a
  have hp := numM_pos (l := l) (a := a)
  obtain ⟨o, ho⟩ : ∃ o, o = wordM l a := ⟨_, rfl⟩
  rw [← ho]
  unfold wordM at ho
  obtain ⟨m, hm⟩ : ∃ m, m = numM l a := ⟨_, rfl⟩
  rw [← hm] at c1 hp ho
  refine ent_of tok mixed (f := 79) Try.func79 (by kernel_rfl) (keep := false) ?_
  repeat' ((conv => whnf) <;> (first | ((with_reducible refine isCall ?_) <;> (first | (refine ⟨_, c1, ?_⟩; rintro _ _ ⟨rfl, rfl⟩) | (refine ⟨_, within _ _ _, ?_⟩; rintro _ _ ⟨rfl, rfl⟩) | (refine ⟨text_need' hl hp ?_ ?_ ?_, ?_⟩; (· assumption); (· assumption); (· assumption)) | fail)) | ((with_reducible refine isCut ?_) <;> (first | refine ⟨⟨none⟩, ?_⟩)) | ((first | with_reducible refine isEx ?_ | with_reducible refine isAnd ?_ | with_reducible refine isOr ?_) <;> (first | (refine ⟨text_need' hl hp ?_ ?_ ?_, ?_⟩; (· assumption); (· assumption); (· assumption)) | ((with_reducible refine isSmall ?_) <;> (refine ⟨?_, ?_⟩; kernel_rfl)) | refine ⟨rfl, ?_⟩ | refine ⟨Int.natCast_nonneg _, ?_⟩)) | with_reducible refine Both.mk ?_ ?_ | rintro _ rfl | exact rfl | (split <;> (rename_i h; first | (simp only [beq_self_eq_true, eq_self, decide_true, Bool.not_true, Bool.false_eq_true] at h; done) | (try rw [h])))))
  all_goals (conv => whnf)
  · refine ⟨congrArg (fun o => AV.d (textD o)) (?_ : (⟨[], 0, m.code⟩ : TextOut) = o), rfl⟩
    rw [ho, if_pos (of_decide_eq_false (not_ok' h))]
  all_goals
    have hc : m.code = 0 := of_decide_eq_true (not_ok (by assumption))
    have hp := hp hc
    rw [if_neg (by omega)] at ho
  · refine ⟨congrArg (fun o => AV.d (textD o)) (?_ : (⟨[], 0, 3⟩ : TextOut) = o), rfl⟩
    rw [ho, if_pos fun hh => by rw [(inside_iff _ _ _).2 hh] at h; cases h]
  all_goals
    have hi := (inside_iff _ _ _).1 (not_ok (by assumption : (!inside m.n 0 20000) = false))
    rw [if_neg (by omega)] at ho
    rw [wrap_i64_id _ (by omega) (by omega)] at h
  · refine ⟨congrArg (fun o => AV.d (textD o)) (?_ : (⟨[], 0, 4⟩ : TextOut) = o), rfl⟩
    rw [ho, if_pos (of_decide_eq_true h)]
  · rw [if_neg (of_decide_eq_false h)] at ho
    rw [wrap_i64_id _ (by omega) (by omega), ho]
    exact ⟨rfl, rfl⟩
end Go.Pm.Try
namespace Go.Pm.Try
open Go Go.Proofs
set_option linter.unusedVariables false
set_option linter.unusedSimpArgs false
set_option maxRecDepth 100000
/-! Readers. -/
structure Rd where
  text : List UInt8
  pos : Int
  bad : Bool
def rdC (r : Rd) : List AV := [.d (.s r.text), .d (.i .i64 r.pos), .d (.b r.bad)]
def specNumR (r : Rd) : Int × Rd := sel (r.bad || !decide ((numM r.text r.pos).code = 0)) (0, { r with bad := true }) ((numM r.text r.pos).n, { r with pos := (numM r.text r.pos).pos })
def implNumR (r : Rd) : Int × Rd := ((numM r.text r.pos).n, ⟨r.text, (numM r.text r.pos).pos, r.bad || !decide ((numM r.text r.pos).code = 0)⟩)
def specTextR (r : Rd) : List UInt8 × Rd := sel (r.bad || !decide ((wordM r.text r.pos).code = 0)) ([], { r with bad := true }) ((wordM r.text r.pos).text, { r with pos := (wordM r.text r.pos).pos })
def implWordR (r : Rd) : List UInt8 × Rd := ((wordM r.text r.pos).text, ⟨r.text, (wordM r.text r.pos).pos, r.bad || !decide ((wordM r.text r.pos).code = 0)⟩)
set_option maxHeartbeats 4000000 in
theorem specNum (r : Rd) (hl : r.text.length ≤ 20000) : Ent Try.prog 68 [.ptr 0 0] [.var (rdC r)] (.d (.i .i64 (specNumR r).1)) [.var (rdC (specNumR r).2)] := by
  have c1 := specGetNum r.text hl r.pos
  unfold specNumR
  obtain ⟨m, hm⟩ : ∃ m, m = numM r.text r.pos := ⟨_, rfl⟩
  rw [← hm] at c1 ⊢
  rcases r with ⟨text, pos, bad⟩
  refine ent_of tok mixed (f := 68) Try.func68 (by kernel_rfl) (keep := false) ?_
  cases bad
  all_goals
    repeat' ((conv => whnf) <;> (first | ((with_reducible refine isCall ?_) <;> (first | (refine ⟨_, c1, ?_⟩; rintro _ _ ⟨rfl, rfl⟩) | fail)) | ((with_reducible refine isCut ?_) <;> (first | refine ⟨⟨none⟩, ?_⟩)) | ((first | with_reducible refine isEx ?_ | with_reducible refine isAnd ?_ | with_reducible refine isOr ?_) <;> (first | ((with_reducible refine isSmall ?_) <;> (refine ⟨?_, ?_⟩; kernel_rfl)) | refine ⟨rfl, ?_⟩ | refine ⟨Int.natCast_nonneg _, ?_⟩)) | with_reducible refine Both.mk ?_ ?_ | rintro _ rfl | exact rfl | (split <;> (rename_i h; first | (simp only [beq_self_eq_true, eq_self, decide_true, Bool.not_true, Bool.false_eq_true] at h; done) | (try rw [h])))))
set_option maxHeartbeats 4000000 in
theorem implNumRd (r : Rd) (hl : r.text.length ≤ 20000) : Ent Try.prog 62 [.ptr 0 0] [.var (rdC r)] (.d (.i .i64 (implNumR r).1)) [.var (rdC (implNumR r).2)] := by
  have c1 := implNum r.text hl r.pos
  unfold implNumR
  obtain ⟨m, hm⟩ : ∃ m, m = numM r.text r.pos := ⟨_, rfl⟩
  rw [← hm] at c1 ⊢
  rcases r with ⟨text, pos, bad⟩
  refine ent_of tok mixed (f := 62) Try.func62 (by kernel_rfl) (keep := false) ?_
  cases bad
  all_goals
    repeat' ((conv => whnf) <;> (first | ((with_reducible refine isCall ?_) <;> (first | (refine ⟨_, c1, ?_⟩; rintro _ _ ⟨rfl, rfl⟩) | fail)) | ((with_reducible refine isCut ?_) <;> (first | refine ⟨⟨none⟩, ?_⟩)) | ((first | with_reducible refine isEx ?_ | with_reducible refine isAnd ?_ | with_reducible refine isOr ?_) <;> (first | ((with_reducible refine isSmall ?_) <;> (refine ⟨?_, ?_⟩; kernel_rfl)) | refine ⟨rfl, ?_⟩ | refine ⟨Int.natCast_nonneg _, ?_⟩)) | with_reducible refine Both.mk ?_ ?_ | rintro _ rfl | exact rfl | (split <;> (rename_i h; first | (simp only [beq_self_eq_true, eq_self, decide_true, Bool.not_true, Bool.false_eq_true] at h; done) | (try rw [h])))))
set_option maxHeartbeats 4000000 in
theorem specText (r : Rd) (hl : r.text.length ≤ 20000) : Ent Try.prog 66 [.ptr 0 0] [.var (rdC r)] (.d (.s (specTextR r).1)) [.var (rdC (specTextR r).2)] := by
  have c1 := specGetText r.text hl r.pos
  unfold specTextR
  obtain ⟨m, hm⟩ : ∃ m, m = wordM r.text r.pos := ⟨_, rfl⟩
  rw [← hm] at c1 ⊢
  rcases r with ⟨text, pos, bad⟩
  refine ent_of tok mixed (f := 66) Try.func66 (by kernel_rfl) (keep := false) ?_
  cases bad
  all_goals
    repeat' ((conv => whnf) <;> (first | ((with_reducible refine isCall ?_) <;> (first | (refine ⟨_, c1, ?_⟩; rintro _ _ ⟨rfl, rfl⟩) | fail)) | ((with_reducible refine isCut ?_) <;> (first | refine ⟨⟨none⟩, ?_⟩)) | ((first | with_reducible refine isEx ?_ | with_reducible refine isAnd ?_ | with_reducible refine isOr ?_) <;> (first | ((with_reducible refine isSmall ?_) <;> (refine ⟨?_, ?_⟩; kernel_rfl)) | refine ⟨rfl, ?_⟩ | refine ⟨Int.natCast_nonneg _, ?_⟩)) | with_reducible refine Both.mk ?_ ?_ | rintro _ rfl | exact rfl | (split <;> (rename_i h; first | (simp only [beq_self_eq_true, eq_self, decide_true, Bool.not_true, Bool.false_eq_true] at h; done) | (try rw [h])))))
set_option maxHeartbeats 4000000 in
theorem implWordRd (r : Rd) (hl : r.text.length ≤ 20000) : Ent Try.prog 60 [.ptr 0 0] [.var (rdC r)] (.d (.s (implWordR r).1)) [.var (rdC (implWordR r).2)] := by
  have c1 := implWord r.text hl r.pos
  unfold implWordR
  obtain ⟨m, hm⟩ : ∃ m, m = wordM r.text r.pos := ⟨_, rfl⟩
  rw [← hm] at c1 ⊢
  rcases r with ⟨text, pos, bad⟩
  refine ent_of tok mixed (f := 60) Try.func60 (by kernel_rfl) (keep := false) ?_
  cases bad
  all_goals
    repeat' ((conv => whnf) <;> (first | ((with_reducible refine isCall ?_) <;> (first | (refine ⟨_, c1, ?_⟩; rintro _ _ ⟨rfl, rfl⟩) | fail)) | ((with_reducible refine isCut ?_) <;> (first | refine ⟨⟨none⟩, ?_⟩)) | ((first | with_reducible refine isEx ?_ | with_reducible refine isAnd ?_ | with_reducible refine isOr ?_) <;> (first | ((with_reducible refine isSmall ?_) <;> (refine ⟨?_, ?_⟩; kernel_rfl)) | refine ⟨rfl, ?_⟩ | refine ⟨Int.natCast_nonneg _, ?_⟩)) | with_reducible refine Both.mk ?_ ?_ | rintro _ rfl | exact rfl | (split <;> (rename_i h; first | (simp only [beq_self_eq_true, eq_self, decide_true, Bool.not_true, Bool.false_eq_true] at h; done) | (try rw [h])))))
theorem specNumR_text (r : Rd) : (specNumR r).2.text = r.text := by
  unfold specNumR
  cases (r.bad || !decide ((numM r.text r.pos).code = 0)) <;> rfl
theorem specTextR_text (r : Rd) : (specTextR r).2.text = r.text := by
  unfold specTextR
  cases (r.bad || !decide ((wordM r.text r.pos).code = 0)) <;> rfl
def specManyR (r : Rd) (most : Int) : Int × Rd := (sel ((decide ((specNumR r).1 < 0) || decide ((specNumR r).1 > most)) || (specNumR r).2.bad) 0 (specNumR r).1, { (specNumR r).2 with bad := (decide ((specNumR r).1 < 0) || decide ((specNumR r).1 > most)) || (specNumR r).2.bad })
def implManyR (r : Rd) (most : Int) : Int × Rd := (sel (!inside (implNumR r).1 0 most || (implNumR r).2.bad) 0 (implNumR r).1, { (implNumR r).2 with bad := !inside (implNumR r).1 0 most || (implNumR r).2.bad })
set_option maxHeartbeats 4000000 in
theorem specMany (r : Rd) (hl : r.text.length ≤ 20000) (most : Int) : Ent Try.prog 67 [.ptr 0 0, .d (.i .i64 most)] [.var (rdC r)] (.d (.i .i64 (specManyR r most).1)) [.var (rdC (specManyR r most).2)] := by
  have c1 := specNum r hl
  unfold specManyR
  obtain ⟨q, hq⟩ : ∃ q, q = specNumR r := ⟨_, rfl⟩
  rw [← hq] at c1 ⊢
  clear hq
  rcases q with ⟨n, text, pos, bad⟩
  refine ent_of tok mixed (f := 67) Try.func67 (by kernel_rfl) (keep := false) ?_
  cases bad
  all_goals
    repeat' ((conv => whnf) <;> (first | ((with_reducible refine isCall ?_) <;> (first | (refine ⟨_, c1, ?_⟩; rintro _ _ ⟨rfl, rfl⟩) | fail)) | ((with_reducible refine isCut ?_) <;> (first | refine ⟨⟨none⟩, ?_⟩)) | ((first | with_reducible refine isEx ?_ | with_reducible refine isAnd ?_ | with_reducible refine isOr ?_) <;> (first | ((with_reducible refine isSmall ?_) <;> (refine ⟨?_, ?_⟩; kernel_rfl)) | refine ⟨rfl, ?_⟩ | refine ⟨Int.natCast_nonneg _, ?_⟩)) | with_reducible refine Both.mk ?_ ?_ | rintro _ rfl | exact rfl | (split <;> (rename_i h; first | (simp only [beq_self_eq_true, eq_self, decide_true, Bool.not_true, Bool.false_eq_true] at h; done) | (try rw [h])))))
  all_goals (simp only [*, Bool.false_or, Bool.true_or, Bool.or_false, Bool.or_true, sel]; exact ⟨rfl, rfl⟩)
set_option maxHeartbeats 4000000 in
theorem implMany (r : Rd) (hl : r.text.length ≤ 20000) (most : Int) : Ent Try.prog 61 [.ptr 0 0, .d (.i .i64 most)] [.var (rdC r)] (.d (.i .i64 (implManyR r most).1)) [.var (rdC (implManyR r most).2)] := by
  have c1 := implNumRd r hl
  unfold implManyR
  obtain ⟨q, hq⟩ : ∃ q, q = implNumR r := ⟨_, rfl⟩
  rw [← hq] at c1 ⊢
  clear hq
  rcases q with ⟨n, text, pos, bad⟩
  refine ent_of tok mixed (f := 61) Try.func61 (by kernel_rfl) (keep := false) ?_
  cases bad
  all_goals
    repeat' ((conv => whnf) <;> (first | ((with_reducible refine isCall ?_) <;> (first | (refine ⟨_, c1, ?_⟩; rintro _ _ ⟨rfl, rfl⟩) | (refine ⟨_, within _ _ _, ?_⟩; rintro _ _ ⟨rfl, rfl⟩) | fail)) | ((with_reducible refine isCut ?_) <;> (first | refine ⟨⟨none⟩, ?_⟩)) | ((first | with_reducible refine isEx ?_ | with_reducible refine isAnd ?_ | with_reducible refine isOr ?_) <;> (first | ((with_reducible refine isSmall ?_) <;> (refine ⟨?_, ?_⟩; kernel_rfl)) | refine ⟨rfl, ?_⟩ | refine ⟨Int.natCast_nonneg _, ?_⟩)) | with_reducible refine Both.mk ?_ ?_ | rintro _ rfl | exact rfl | (split <;> (rename_i h; first | (simp only [beq_self_eq_true, eq_self, decide_true, Bool.not_true, Bool.false_eq_true] at h; done) | (try rw [h])))))
  all_goals (simp only [*, Bool.false_or, Bool.true_or, Bool.or_false, Bool.or_true, sel]; exact ⟨rfl, rfl⟩)
def overR (r : Rd) : Bool := !r.bad && decide (r.pos = r.text.length)
theorem specDone (r : Rd) : Ent Try.prog 40 [.ptr 0 0] [.var (rdC r)] (.d (.b (overR r))) [.var (rdC r)] := by
  rcases r with ⟨text, pos, bad⟩
  refine ent_of tok mixed (f := 40) Try.func40 (by kernel_rfl) (keep := false) ?_
  cases bad
  all_goals
    repeat' ((conv => whnf) <;> (first | ((with_reducible refine isCall ?_) <;> (first | fail)) | ((with_reducible refine isCut ?_) <;> (first | refine ⟨⟨none⟩, ?_⟩)) | ((first | with_reducible refine isEx ?_ | with_reducible refine isAnd ?_ | with_reducible refine isOr ?_) <;> (first | ((with_reducible refine isSmall ?_) <;> (refine ⟨?_, ?_⟩; kernel_rfl)) | refine ⟨rfl, ?_⟩ | refine ⟨Int.natCast_nonneg _, ?_⟩)) | with_reducible refine Both.mk ?_ ?_ | rintro _ rfl | exact rfl | (split <;> (rename_i h; first | (simp only [beq_self_eq_true, eq_self, decide_true, Bool.not_true, Bool.false_eq_true] at h; done) | (try rw [h])))))
theorem implOverRd (r : Rd) : Ent Try.prog 65 [.ptr 0 0] [.var (rdC r)] (.d (.b (overR r))) [.var (rdC r)] := by
  rcases r with ⟨text, pos, bad⟩
  refine ent_of tok mixed (f := 65) Try.func65 (by kernel_rfl) (keep := false) ?_
  cases bad
  all_goals
    repeat' ((conv => whnf) <;> (first | ((with_reducible refine isCall ?_) <;> (first | fail)) | ((with_reducible refine isCut ?_) <;> (first | refine ⟨⟨none⟩, ?_⟩)) | ((first | with_reducible refine isEx ?_ | with_reducible refine isAnd ?_ | with_reducible refine isOr ?_) <;> (first | ((with_reducible refine isSmall ?_) <;> (refine ⟨?_, ?_⟩; kernel_rfl)) | refine ⟨rfl, ?_⟩ | refine ⟨Int.natCast_nonneg _, ?_⟩)) | with_reducible refine Both.mk ?_ ?_ | rintro _ rfl | exact rfl | (split <;> (rename_i h; first | (simp only [beq_self_eq_true, eq_self, decide_true, Bool.not_true, Bool.false_eq_true] at h; done) | (try rw [h])))))
end Go.Pm.Try
