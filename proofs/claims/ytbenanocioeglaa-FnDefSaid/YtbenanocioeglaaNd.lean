import Derived.Test.YtbenanocioeglaaNa
namespace Go.Pm.Try
open Go Go.Proofs
set_option linter.unusedVariables false
set_option linter.unusedSimpArgs false
set_option maxRecDepth 100000
/-! Readers. -/
structure Rd where
  text : List UInt8
  pos : Int
  bad : Bool
def rdC (r : Rd) : List AV := [.d (.s r.text), .d (.i .i64 r.pos), .d (.b r.bad)]
def specNumR (r : Rd) : Int × Rd := sel (r.bad || !decide ((numM r.text r.pos).code = 0)) (0, { r with bad := true }) ((numM r.text r.pos).n, { r with pos := (numM r.text r.pos).pos })
def implNumR (r : Rd) : Int × Rd := ((numM r.text r.pos).n, ⟨r.text, (numM r.text r.pos).pos, r.bad || !decide ((numM r.text r.pos).code = 0)⟩)
def specTextR (r : Rd) : List UInt8 × Rd := sel (r.bad || !decide ((wordM r.text r.pos).code = 0)) ([], { r with bad := true }) ((wordM r.text r.pos).text, { r with pos := (wordM r.text r.pos).pos })
def implWordR (r : Rd) : List UInt8 × Rd := ((wordM r.text r.pos).text, ⟨r.text, (wordM r.text r.pos).pos, r.bad || !decide ((wordM r.text r.pos).code = 0)⟩)
set_option maxHeartbeats 4000000 in
theorem specNum (r : Rd) (hl : r.text.length ≤ 20000) : Ent Try.prog 86 [.ptr 0 0] [.var (rdC r)] (.d (.i .i64 (specNumR r).1)) [.var (rdC (specNumR r).2)] := by
  have c1 := specGetNum r.text hl r.pos
  unfold specNumR
  obtain ⟨m, hm⟩ : ∃ m, m = numM r.text r.pos := ⟨_, rfl⟩
  rw [← hm] at c1 ⊢
  rcases r with ⟨text, pos, bad⟩
  refine ent_of tok mixed (f := 86) Try.func86 (by kernel_rfl) (keep := false) ?_
  cases bad
  all_goals
    repeat' ((conv => whnf) <;> (first | ((with_reducible refine isCall ?_) <;> (first | (refine ⟨_, c1, ?_⟩; rintro _ _ ⟨rfl, rfl⟩) | fail)) | ((with_reducible refine isCut ?_) <;> (first | refine ⟨⟨none⟩, ?_⟩)) | ((first | with_reducible refine isEx ?_ | with_reducible refine isAnd ?_ | with_reducible refine isOr ?_) <;> (first | ((with_reducible refine isSmall ?_) <;> (refine ⟨?_, ?_⟩; kernel_rfl)) | refine ⟨rfl, ?_⟩ | refine ⟨Int.natCast_nonneg _, ?_⟩)) | with_reducible refine Both.mk ?_ ?_ | rintro _ rfl | exact rfl | (split <;> (rename_i h; first | (simp only [beq_self_eq_true, eq_self, decide_true, Bool.not_true, Bool.false_eq_true] at h; done) | (try rw [h])))))
set_option maxHeartbeats 4000000 in
theorem implNumRd (r : Rd) (hl : r.text.length ≤ 20000) : Ent Try.prog 91 [.ptr 0 0] [.var (rdC r)] (.d (.i .i64 (implNumR r).1)) [.var (rdC (implNumR r).2)] := by
  have c1 := implNum r.text hl r.pos
  unfold implNumR
  obtain ⟨m, hm⟩ : ∃ m, m = numM r.text r.pos := ⟨_, rfl⟩
  rw [← hm] at c1 ⊢
  rcases r with ⟨text, pos, bad⟩
  refine ent_of tok mixed (f := 91) Try.func91 (by kernel_rfl) (keep := false) ?_
  cases bad
  all_goals
    repeat' ((conv => whnf) <;> (first | ((with_reducible refine isCall ?_) <;> (first | (refine ⟨_, c1, ?_⟩; rintro _ _ ⟨rfl, rfl⟩) | fail)) | ((with_reducible refine isCut ?_) <;> (first | refine ⟨⟨none⟩, ?_⟩)) | ((first | with_reducible refine isEx ?_ | with_reducible refine isAnd ?_ | with_reducible refine isOr ?_) <;> (first | ((with_reducible refine isSmall ?_) <;> (refine ⟨?_, ?_⟩; kernel_rfl)) | refine ⟨rfl, ?_⟩ | refine ⟨Int.natCast_nonneg _, ?_⟩)) | with_reducible refine Both.mk ?_ ?_ | rintro _ rfl | exact rfl | (split <;> (rename_i h; first | (simp only [beq_self_eq_true, eq_self, decide_true, Bool.not_true, Bool.false_eq_true] at h; done) | (try rw [h])))))
set_option maxHeartbeats 4000000 in
theorem specText (r : Rd) (hl : r.text.length ≤ 20000) : Ent Try.prog 84 [.ptr 0 0] [.var (rdC r)] (.d (.s (specTextR r).1)) [.var (rdC (specTextR r).2)] := by
  have c1 := specGetText r.text hl r.pos
  unfold specTextR
  obtain ⟨m, hm⟩ : ∃ m, m = wordM r.text r.pos := ⟨_, rfl⟩
  rw [← hm] at c1 ⊢
  rcases r with ⟨text, pos, bad⟩
  refine ent_of tok mixed (f := 84) Try.func84 (by kernel_rfl) (keep := false) ?_
  cases bad
  all_goals
    repeat' ((conv => whnf) <;> (first | ((with_reducible refine isCall ?_) <;> (first | (refine ⟨_, c1, ?_⟩; rintro _ _ ⟨rfl, rfl⟩) | fail)) | ((with_reducible refine isCut ?_) <;> (first | refine ⟨⟨none⟩, ?_⟩)) | ((first | with_reducible refine isEx ?_ | with_reducible refine isAnd ?_ | with_reducible refine isOr ?_) <;> (first | ((with_reducible refine isSmall ?_) <;> (refine ⟨?_, ?_⟩; kernel_rfl)) | refine ⟨rfl, ?_⟩ | refine ⟨Int.natCast_nonneg _, ?_⟩)) | with_reducible refine Both.mk ?_ ?_ | rintro _ rfl | exact rfl | (split <;> (rename_i h; first | (simp only [beq_self_eq_true, eq_self, decide_true, Bool.not_true, Bool.false_eq_true] at h; done) | (try rw [h])))))
set_option maxHeartbeats 4000000 in
theorem implWordRd (r : Rd) (hl : r.text.length ≤ 20000) : Ent Try.prog 89 [.ptr 0 0] [.var (rdC r)] (.d (.s (implWordR r).1)) [.var (rdC (implWordR r).2)] := by
  have c1 := implWord r.text hl r.pos
  unfold implWordR
  obtain ⟨m, hm⟩ : ∃ m, m = wordM r.text r.pos := ⟨_, rfl⟩
  rw [← hm] at c1 ⊢
  rcases r with ⟨text, pos, bad⟩
  refine ent_of tok mixed (f := 89) Try.func89 (by kernel_rfl) (keep := false) ?_
  cases bad
  all_goals
    repeat' ((conv => whnf) <;> (first | ((with_reducible refine isCall ?_) <;> (first | (refine ⟨_, c1, ?_⟩; rintro _ _ ⟨rfl, rfl⟩) | fail)) | ((with_reducible refine isCut ?_) <;> (first | refine ⟨⟨none⟩, ?_⟩)) | ((first | with_reducible refine isEx ?_ | with_reducible refine isAnd ?_ | with_reducible refine isOr ?_) <;> (first | ((with_reducible refine isSmall ?_) <;> (refine ⟨?_, ?_⟩; kernel_rfl)) | refine ⟨rfl, ?_⟩ | refine ⟨Int.natCast_nonneg _, ?_⟩)) | with_reducible refine Both.mk ?_ ?_ | rintro _ rfl | exact rfl | (split <;> (rename_i h; first | (simp only [beq_self_eq_true, eq_self, decide_true, Bool.not_true, Bool.false_eq_true] at h; done) | (try rw [h])))))
theorem specNumR_text (r : Rd) : (specNumR r).2.text = r.text := by
  unfold specNumR
  cases (r.bad || !decide ((numM r.text r.pos).code = 0)) <;> rfl
theorem specTextR_text (r : Rd) : (specTextR r).2.text = r.text := by
  unfold specTextR
  cases (r.bad || !decide ((wordM r.text r.pos).code = 0)) <;> rfl
def specManyR (r : Rd) (most : Int) : Int × Rd := (sel ((decide ((specNumR r).1 < 0) || decide ((specNumR r).1 > most)) || (specNumR r).2.bad) 0 (specNumR r).1, { (specNumR r).2 with bad := (decide ((specNumR r).1 < 0) || decide ((specNumR r).1 > most)) || (specNumR r).2.bad })
def implManyR (r : Rd) (most : Int) : Int × Rd := (sel (!inside (implNumR r).1 0 most || (implNumR r).2.bad) 0 (implNumR r).1, { (implNumR r).2 with bad := !inside (implNumR r).1 0 most || (implNumR r).2.bad })
set_option maxHeartbeats 4000000 in
theorem specMany (r : Rd) (hl : r.text.length ≤ 20000) (most : Int) : Ent Try.prog 85 [.ptr 0 0, .d (.i .i64 most)] [.var (rdC r)] (.d (.i .i64 (specManyR r most).1)) [.var (rdC (specManyR r most).2)] := by
  have c1 := specNum r hl
  unfold specManyR
  obtain ⟨q, hq⟩ : ∃ q, q = specNumR r := ⟨_, rfl⟩
  rw [← hq] at c1 ⊢
  clear hq
  rcases q with ⟨n, text, pos, bad⟩
  refine ent_of tok mixed (f := 85) Try.func85 (by kernel_rfl) (keep := false) ?_
  cases bad
  all_goals
    repeat' ((conv => whnf) <;> (first | ((with_reducible refine isCall ?_) <;> (first | (refine ⟨_, c1, ?_⟩; rintro _ _ ⟨rfl, rfl⟩) | fail)) | ((with_reducible refine isCut ?_) <;> (first | refine ⟨⟨none⟩, ?_⟩)) | ((first | with_reducible refine isEx ?_ | with_reducible refine isAnd ?_ | with_reducible refine isOr ?_) <;> (first | ((with_reducible refine isSmall ?_) <;> (refine ⟨?_, ?_⟩; kernel_rfl)) | refine ⟨rfl, ?_⟩ | refine ⟨Int.natCast_nonneg _, ?_⟩)) | with_reducible refine Both.mk ?_ ?_ | rintro _ rfl | exact rfl | (split <;> (rename_i h; first | (simp only [beq_self_eq_true, eq_self, decide_true, Bool.not_true, Bool.false_eq_true] at h; done) | (try rw [h])))))
  all_goals (simp only [*, Bool.false_or, Bool.true_or, Bool.or_false, Bool.or_true, sel]; exact ⟨rfl, rfl⟩)
set_option maxHeartbeats 4000000 in
theorem implMany (r : Rd) (hl : r.text.length ≤ 20000) (most : Int) : Ent Try.prog 90 [.ptr 0 0, .d (.i .i64 most)] [.var (rdC r)] (.d (.i .i64 (implManyR r most).1)) [.var (rdC (implManyR r most).2)] := by
  have c1 := implNumRd r hl
  unfold implManyR
  obtain ⟨q, hq⟩ : ∃ q, q = implNumR r := ⟨_, rfl⟩
  rw [← hq] at c1 ⊢
  clear hq
  rcases q with ⟨n, text, pos, bad⟩
  refine ent_of tok mixed (f := 90) Try.func90 (by kernel_rfl) (keep := false) ?_
  cases bad
  all_goals
    repeat' ((conv => whnf) <;> (first | ((with_reducible refine isCall ?_) <;> (first | (refine ⟨_, c1, ?_⟩; rintro _ _ ⟨rfl, rfl⟩) | (refine ⟨_, within _ _ _, ?_⟩; rintro _ _ ⟨rfl, rfl⟩) | fail)) | ((with_reducible refine isCut ?_) <;> (first | refine ⟨⟨none⟩, ?_⟩)) | ((first | with_reducible refine isEx ?_ | with_reducible refine isAnd ?_ | with_reducible refine isOr ?_) <;> (first | ((with_reducible refine isSmall ?_) <;> (refine ⟨?_, ?_⟩; kernel_rfl)) | refine ⟨rfl, ?_⟩ | refine ⟨Int.natCast_nonneg _, ?_⟩)) | with_reducible refine Both.mk ?_ ?_ | rintro _ rfl | exact rfl | (split <;> (rename_i h; first | (simp only [beq_self_eq_true, eq_self, decide_true, Bool.not_true, Bool.false_eq_true] at h; done) | (try rw [h])))))
  all_goals (simp only [*, Bool.false_or, Bool.true_or, Bool.or_false, Bool.or_true, sel]; exact ⟨rfl, rfl⟩)
def overR (r : Rd) : Bool := !r.bad && decide (r.pos = r.text.length)
theorem specDone (r : Rd) : Ent Try.prog 87 [.ptr 0 0] [.var (rdC r)] (.d (.b (overR r))) [.var (rdC r)] := by
  rcases r with ⟨text, pos, bad⟩
  refine ent_of tok mixed (f := 87) Try.func87 (by kernel_rfl) (keep := false) ?_
  cases bad
  all_goals
    repeat' ((conv => whnf) <;> (first | ((with_reducible refine isCall ?_) <;> (first | fail)) | ((with_reducible refine isCut ?_) <;> (first | refine ⟨⟨none⟩, ?_⟩)) | ((first | with_reducible refine isEx ?_ | with_reducible refine isAnd ?_ | with_reducible refine isOr ?_) <;> (first | ((with_reducible refine isSmall ?_) <;> (refine ⟨?_, ?_⟩; kernel_rfl)) | refine ⟨rfl, ?_⟩ | refine ⟨Int.natCast_nonneg _, ?_⟩)) | with_reducible refine Both.mk ?_ ?_ | rintro _ rfl | exact rfl | (split <;> (rename_i h; first | (simp only [beq_self_eq_true, eq_self, decide_true, Bool.not_true, Bool.false_eq_true] at h; done) | (try rw [h])))))
theorem implOverRd (r : Rd) : Ent Try.prog 92 [.ptr 0 0] [.var (rdC r)] (.d (.b (overR r))) [.var (rdC r)] := by
  rcases r with ⟨text, pos, bad⟩
  refine ent_of tok mixed (f := 92) Try.func92 (by kernel_rfl) (keep := false) ?_
  cases bad
  all_goals
    repeat' ((conv => whnf) <;> (first | ((with_reducible refine isCall ?_) <;> (first | fail)) | ((with_reducible refine isCut ?_) <;> (first | refine ⟨⟨none⟩, ?_⟩)) | ((first | with_reducible refine isEx ?_ | with_reducible refine isAnd ?_ | with_reducible refine isOr ?_) <;> (first | ((with_reducible refine isSmall ?_) <;> (refine ⟨?_, ?_⟩; kernel_rfl)) | refine ⟨rfl, ?_⟩ | refine ⟨Int.natCast_nonneg _, ?_⟩)) | with_reducible refine Both.mk ?_ ?_ | rintro _ rfl | exact rfl | (split <;> (rename_i h; first | (simp only [beq_self_eq_true, eq_self, decide_true, Bool.not_true, Bool.false_eq_true] at h; done) | (try rw [h])))))
end Go.Pm.Try
namespace Go.Pm.Try
open Go Go.Proofs
set_option linter.unusedVariables false
set_option linter.unusedSimpArgs false
set_option maxRecDepth 100000
/-! Defs that are read: both readers tell the same. -/
structure Readers where
  word : Rd → List UInt8 × Rd
  num : Rd → Int × Rd
  many : Rd → Int → Int × Rd
def stepR (R : Readers) (r : Rd) : Step × Rd :=
  (⟨(R.word r).1, (R.word (R.word r).2).1, (R.word (R.word (R.word r).2).2).1, (R.num (R.word (R.word (R.word r).2).2).2).1, (R.num (R.num (R.word (R.word (R.word r).2).2).2).2).1, (R.num (R.num (R.num (R.word (R.word (R.word r).2).2).2).2).2).1⟩,
    (R.num (R.num (R.num (R.word (R.word (R.word r).2).2).2).2).2).2)
def stepsR (R : Readers) : Nat → Rd → List Step × Rd
  | 0, r => ([], r)
  | k + 1, r => ((stepR R r).1 :: (stepsR R k (stepR R r).2).1, (stepsR R k (stepR R r).2).2)
def specRs : Readers := ⟨specTextR, specNumR, specManyR⟩
def implRs : Readers := ⟨implWordR, implNumR, implManyR⟩
structure Like (s i : Rd) : Prop where
  text : s.text = i.text
  bad : s.bad = i.bad
  pos : s.bad = false → s.pos = i.pos
/-- What two readers hand back: alike, and the same where nothing is bad. -/
structure LikeV {α : Type} (s i : α × Rd) : Prop where
  rd : Like s.2 i.2
  val : s.2.bad = false → s.1 = i.1
theorem like_num {s i : Rd} (h : Like s i) : LikeV (specNumR s) (implNumR i) := by
  rcases s with ⟨t, p, b⟩
  rcases i with ⟨t', p', b'⟩
  obtain ⟨h1, h2, h3⟩ := h
  simp only at h1 h2 h3
  subst h1 h2
  cases b with
  | true =>
    refine ⟨⟨rfl, ?_, fun hh => ?_⟩, fun hh => ?_⟩
    · simp only [specNumR, implNumR, specTextR, implWordR, Bool.true_or, sel]
    · cases hh
    · cases hh
  | false =>
    have h3 := h3 rfl
    subst h3
    simp only [specNumR, implNumR, Bool.false_or]
    cases hc : (!decide ((numM t p).code = 0)) with
    | true => exact ⟨⟨rfl, rfl, fun hh => by cases hh⟩, fun hh => by cases hh⟩
    | false => exact ⟨⟨rfl, rfl, fun _ => rfl⟩, fun _ => rfl⟩
theorem like_word {s i : Rd} (h : Like s i) : LikeV (specTextR s) (implWordR i) := by
  rcases s with ⟨t, p, b⟩
  rcases i with ⟨t', p', b'⟩
  obtain ⟨h1, h2, h3⟩ := h
  simp only at h1 h2 h3
  subst h1 h2
  cases b with
  | true =>
    refine ⟨⟨rfl, ?_, fun hh => ?_⟩, fun hh => ?_⟩
    · simp only [specNumR, implNumR, specTextR, implWordR, Bool.true_or, sel]
    · cases hh
    · cases hh
  | false =>
    have h3 := h3 rfl
    subst h3
    simp only [specTextR, implWordR, Bool.false_or]
    cases hc : (!decide ((wordM t p).code = 0)) with
    | true => exact ⟨⟨rfl, rfl, fun hh => by cases hh⟩, fun hh => by cases hh⟩
    | false => exact ⟨⟨rfl, rfl, fun _ => rfl⟩, fun _ => rfl⟩
theorem bad_num {r : Rd} (h : r.bad = true) : (specNumR r).2.bad = true := by
  rw [specNumR, h]; rfl
theorem bad_word {r : Rd} (h : r.bad = true) : (specTextR r).2.bad = true := by
  rw [specTextR, h]; rfl
theorem good_num {r : Rd} (h : (specNumR r).2.bad = false) : r.bad = false := by
  cases hb : r.bad with
  | false => rfl
  | true => rw [bad_num hb] at h; cases h
theorem good_word {r : Rd} (h : (specTextR r).2.bad = false) : r.bad = false := by
  cases hb : r.bad with
  | false => rfl
  | true => rw [bad_word hb] at h; cases h
theorem like_many {s i : Rd} (h : Like s i) (most : Int) : LikeV (specManyR s most) (implManyR i most) ∧ (specManyR s most).1 = (implManyR i most).1 := by
  have hn := like_num h
  unfold specManyR implManyR
  generalize specNumR s = a at hn ⊢
  generalize implNumR i = b at hn ⊢
  obtain ⟨⟨h1, h2, h3⟩, h4⟩ := hn
  rcases a with ⟨n, t, p, bd⟩
  rcases b with ⟨n', t', p', bd'⟩
  simp only at h1 h2 h3 h4 ⊢
  subst h1 h2
  cases bd with
  | true => simp only [Bool.or_true, sel]; exact ⟨⟨⟨rfl, rfl, fun hh => by cases hh⟩, fun hh => by cases hh⟩, trivial⟩
  | false =>
    have h3 := h3 rfl
    have h4 := h4 rfl
    subst h3 h4
    have e : (decide (n < 0) || decide (n > most)) = !inside n 0 most := by
      rw [Bool.eq_iff_iff]; simp [inside] <;> omega
    rw [e]
    exact ⟨⟨⟨rfl, rfl, fun _ => rfl⟩, fun _ => rfl⟩, rfl⟩
theorem like_step {s i : Rd} (h : Like s i) : LikeV (stepR specRs s) (stepR implRs i) := by
  have a := like_word h
  have b := like_word a.rd
  have c := like_word b.rd
  have x := like_num c.rd
  have y := like_num x.rd
  have z := like_num y.rd
  refine ⟨z.rd, fun hz => ?_⟩
  have gz : (specNumR (specNumR (specNumR (specTextR (specTextR (specTextR s).2).2).2).2).2).2.bad = false := hz
  have gy := good_num gz
  have gx := good_num gy
  have gc := good_num gx
  have gb := good_word gc
  have ga := good_word gb
  show (⟨_, _, _, _, _, _⟩ : Step) = ⟨_, _, _, _, _, _⟩
  simp only [Step.mk.injEq]
  exact ⟨a.val ga, b.val gb, c.val gc, x.val gx, y.val gy, z.val gz⟩
theorem good_step {r : Rd} (h : (stepR specRs r).2.bad = false) : r.bad = false :=
  good_word (good_word (good_word (good_num (good_num (good_num h)))))
theorem good_steps : ∀ {k : Nat} {r : Rd}, (stepsR specRs k r).2.bad = false → r.bad = false
  | 0, r, h => h
  | k + 1, r, h => good_step (good_steps (k := k) h)
theorem like_steps : ∀ (k : Nat) {s i : Rd}, Like s i → LikeV (stepsR specRs k s) (stepsR implRs k i)
  | 0, s, i, h => ⟨h, fun _ => rfl⟩
  | k + 1, s, i, h => by
    have a := like_step h
    have b := like_steps k a.rd
    refine ⟨b.rd, fun hb => ?_⟩
    have hb : (stepsR specRs k (stepR specRs s).2).2.bad = false := hb
    show _ :: _ = _ :: _
    rw [a.val (good_steps hb), b.val hb]
structure DefOut where
  def_ : Def
  code : Int
def noDef : Def := ⟨[], [], 0⟩
def begR (l : List UInt8) : Rd := ⟨l, 0, false⟩
def readAt (R : Readers) (l : List UInt8) : List UInt8 × (Int × Rd) := ((R.word (begR l)).1, R.many (R.word (begR l)).2 8)
def readSt (R : Readers) (l : List UInt8) : List Step × Rd := stepsR R (readAt R l).2.1.toNat (readAt R l).2.2
def readDef (R : Readers) (l : List UInt8) : Def := ⟨(readAt R l).1, (readSt R l).1, (R.num (readSt R l).2).1⟩
def readM (R : Readers) (l : List UInt8) : DefOut := sel (overR (R.num (readSt R l).2).2 && defOk (readDef R l)) ⟨readDef R l, 0⟩ ⟨noDef, 3⟩
theorem read_same (l : List UInt8) : readM specRs l = readM implRs l := by
  have a := like_word (s := begR l) (i := begR l) ⟨rfl, rfl, fun _ => rfl⟩
  obtain ⟨m, hm⟩ := like_many a.rd 8
  have q : LikeV (readSt specRs l) (readSt implRs l) := by
    unfold readSt
    show LikeV (stepsR specRs (specManyR (specTextR (begR l)).2 8).1.toNat _) (stepsR implRs (implManyR (implWordR (begR l)).2 8).1.toNat _)
    rw [hm]
    exact like_steps _ m.rd
  have z := like_num q.rd
  have ez : overR (specNumR (readSt specRs l).2).2 = overR (implNumR (readSt implRs l).2).2 := by
    cases hb : (specNumR (readSt specRs l).2).2.bad with
    | true => rw [overR, overR, ← z.rd.bad, hb]; rfl
    | false => rw [overR, overR, ← z.rd.bad, hb, z.rd.pos hb, z.rd.text]
  unfold readM
  show sel (overR (specNumR (readSt specRs l).2).2 && _) _ _ = sel (overR (implNumR (readSt implRs l).2).2 && _) _ _
  rw [← ez]
  cases ho : overR (specNumR (readSt specRs l).2).2 with
  | false => rfl
  | true =>
    have hz : (specNumR (readSt specRs l).2).2.bad = false := by
      simp only [overR, Bool.and_eq_true, Bool.not_eq_true'] at ho; exact ho.1
    have hq := good_num hz
    have hm2 := good_steps (k := (readAt specRs l).2.1.toNat) hq
    have ha : (specTextR (begR l)).2.bad = false := by
      have hm2 : (specManyR (specTextR (begR l)).2 8).2.bad = false := hm2
      simp only [specManyR, Bool.or_eq_false_iff] at hm2
      exact good_num hm2.2
    have e : readDef specRs l = readDef implRs l := by
      unfold readDef
      rw [q.val hq]
      show (⟨(specTextR (begR l)).1, _, (specNumR (readSt specRs l).2).1⟩ : Def) = ⟨(implWordR (begR l)).1, _, (implNumR (readSt implRs l).2).1⟩
      rw [a.val ha, z.val hz]
    rw [e]
end Go.Pm.Try
