/-
Readers of texts: the reference's and the program's read alike.
-/
import Derived.Test.YtjjnmkhcdbmhoaaCe
namespace Go.Pm.Try
open Go Go.Proofs
set_option linter.unusedVariables false
set_option linter.unusedSimpArgs false
set_option maxRecDepth 100000
structure Like (s i : Rd) : Prop where
  text : s.text = i.text
  bad : s.bad = i.bad
  pos : s.bad = false → s.pos = i.pos
/-- What two readers hand back: alike, and the same where nothing is bad. -/
structure LikeV {α : Type} (s i : α × Rd) : Prop where
  rd : Like s.2 i.2
  val : s.2.bad = false → s.1 = i.1
theorem like_num {s i : Rd} (h : Like s i) : LikeV (specNumR s) (implNumR i) := by
  rcases s with ⟨t, p, b⟩
  rcases i with ⟨t', p', b'⟩
  obtain ⟨h1, h2, h3⟩ := h
  simp only at h1 h2 h3
  subst h1 h2
  cases b with
  | true =>
    refine ⟨⟨rfl, ?_, fun hh => ?_⟩, fun hh => ?_⟩
    · simp only [specNumR, implNumR, specTextR, implWordR, Bool.true_or, sel]
    · cases hh
    · cases hh
  | false =>
    have h3 := h3 rfl
    subst h3
    simp only [specNumR, implNumR, Bool.false_or]
    cases hc : (!decide ((numM t p).code = 0)) with
    | true => exact ⟨⟨rfl, rfl, fun hh => by cases hh⟩, fun hh => by cases hh⟩
    | false => exact ⟨⟨rfl, rfl, fun _ => rfl⟩, fun _ => rfl⟩
theorem like_word {s i : Rd} (h : Like s i) : LikeV (specTextR s) (implWordR i) := by
  rcases s with ⟨t, p, b⟩
  rcases i with ⟨t', p', b'⟩
  obtain ⟨h1, h2, h3⟩ := h
  simp only at h1 h2 h3
  subst h1 h2
  cases b with
  | true =>
    refine ⟨⟨rfl, ?_, fun hh => ?_⟩, fun hh => ?_⟩
    · simp only [specNumR, implNumR, specTextR, implWordR, Bool.true_or, sel]
    · cases hh
    · cases hh
  | false =>
    have h3 := h3 rfl
    subst h3
    simp only [specTextR, implWordR, Bool.false_or]
    cases hc : (!decide ((wordM t p).code = 0)) with
    | true => exact ⟨⟨rfl, rfl, fun hh => by cases hh⟩, fun hh => by cases hh⟩
    | false => exact ⟨⟨rfl, rfl, fun _ => rfl⟩, fun _ => rfl⟩
theorem bad_num {r : Rd} (h : r.bad = true) : (specNumR r).2.bad = true := by
  rw [specNumR, h]; rfl
theorem bad_word {r : Rd} (h : r.bad = true) : (specTextR r).2.bad = true := by
  rw [specTextR, h]; rfl
theorem good_num {r : Rd} (h : (specNumR r).2.bad = false) : r.bad = false := by
  cases hb : r.bad with
  | false => rfl
  | true => rw [bad_num hb] at h; cases h
theorem good_word {r : Rd} (h : (specTextR r).2.bad = false) : r.bad = false := by
  cases hb : r.bad with
  | false => rfl
  | true => rw [bad_word hb] at h; cases h
theorem like_many {s i : Rd} (h : Like s i) (most : Int) : LikeV (specManyR s most) (implManyR i most) ∧ (specManyR s most).1 = (implManyR i most).1 := by
  have hn := like_num h
  unfold specManyR implManyR
  generalize specNumR s = a at hn ⊢
  generalize implNumR i = b at hn ⊢
  obtain ⟨⟨h1, h2, h3⟩, h4⟩ := hn
  rcases a with ⟨n, t, p, bd⟩
  rcases b with ⟨n', t', p', bd'⟩
  simp only at h1 h2 h3 h4 ⊢
  subst h1 h2
  cases bd with
  | true => simp only [Bool.or_true, sel]; exact ⟨⟨⟨rfl, rfl, fun hh => by cases hh⟩, fun hh => by cases hh⟩, trivial⟩
  | false =>
    have h3 := h3 rfl
    have h4 := h4 rfl
    subst h3 h4
    have e : (decide (n < 0) || decide (n > most)) = !inside n 0 most := by
      rw [Bool.eq_iff_iff]; simp [inside] <;> omega
    rw [e]
    exact ⟨⟨⟨rfl, rfl, fun _ => rfl⟩, fun _ => rfl⟩, rfl⟩

structure Same {α : Type} (f g : Rd → α × Rd) : Prop where
  like : ∀ {s i : Rd}, Like s i → LikeV (f s) (g i)
  stickS : ∀ {r : Rd}, (f r).2.bad = false → r.bad = false
  stickI : ∀ {r : Rd}, (g r).2.bad = false → r.bad = false
  textS : ∀ r : Rd, (f r).2.text = r.text
  textI : ∀ r : Rd, (g r).2.text = r.text
def seqR {α β : Type} (f : Rd → α × Rd) (g : Rd → β × Rd) (r : Rd) : (α × β) × Rd := (((f r).1, (g (f r).2).1), (g (f r).2).2)
def mapR {α β : Type} (h : α → β) (f : Rd → α × Rd) (r : Rd) : β × Rd := (h (f r).1, (f r).2)
def listR {α : Type} (f : Rd → α × Rd) : Nat → Rd → List α × Rd
  | 0, r => ([], r)
  | k + 1, r => ((f r).1 :: (listR f k (f r).2).1, (listR f k (f r).2).2)
def timesR {α : Type} (m : Rd → Int × Rd) (f : Rd → α × Rd) (r : Rd) : List α × Rd := listR f (m r).1.toNat (m r).2
section
variable {α β : Type} {f g : Rd → α × Rd} {f' g' : Rd → β × Rd}
theorem Same.bads (h : Same f g) {s i : Rd} (hl : Like s i) (hb : s.bad = true) : (f s).2.bad = true ∧ (g i).2.bad = true := by
  constructor
  · cases e : (f s).2.bad with
    | true => rfl
    | false => rw [h.stickS e] at hb; cases hb
  · cases e : (g i).2.bad with
    | true => rfl
    | false => rw [hl.bad, h.stickI e] at hb; cases hb
theorem Same.map {γ : Type} (h : Same f g) (k : α → γ) : Same (mapR k f) (mapR k g) where
  like hl := ⟨(h.like hl).rd, fun hb => congrArg k ((h.like hl).val hb)⟩
  stickS hb := h.stickS hb
  stickI hb := h.stickI hb
  textS r := h.textS r
  textI r := h.textI r
theorem Same.seq (h : Same f g) (h' : Same f' g') : Same (seqR f f') (seqR g g') where
  like hl := ⟨(h'.like (h.like hl).rd).rd, fun hb => by
    have hb' : (f' (f _).2).2.bad = false := hb
    show (_, _) = (_, _)
    rw [(h.like hl).val (h'.stickS hb'), (h'.like (h.like hl).rd).val hb']⟩
  stickS hb := h.stickS (h'.stickS hb)
  stickI hb := h.stickI (h'.stickI hb)
  textS r := (h'.textS _).trans (h.textS r)
  textI r := (h'.textI _).trans (h.textI r)
theorem list_stickS (h : Same f g) : ∀ {k : Nat} {r : Rd}, (listR f k r).2.bad = false → r.bad = false
  | 0, r, hb => hb
  | k + 1, r, hb => h.stickS (list_stickS h (k := k) hb)
theorem list_stickI (h : Same f g) : ∀ {k : Nat} {r : Rd}, (listR g k r).2.bad = false → r.bad = false
  | 0, r, hb => hb
  | k + 1, r, hb => h.stickI (list_stickI h (k := k) hb)
theorem list_text (h : ∀ r : Rd, (f r).2.text = r.text) : ∀ (k : Nat) (r : Rd), (listR f k r).2.text = r.text
  | 0, r => rfl
  | k + 1, r => (list_text h k _).trans (h r)
theorem list_len : ∀ (k : Nat) (r : Rd), (listR f k r).1.length = k
  | 0, r => rfl
  | k + 1, r => by simp only [listR, List.length_cons, list_len k]
theorem list_mem (h : ∀ r : Rd, (f r).2.text = r.text) : ∀ {k : Nat} {r : Rd} {x : α}, x ∈ (listR f k r).1 → ∃ r' : Rd, r'.text = r.text ∧ x = (f r').1
  | 0, r, x, hx => by cases hx
  | k + 1, r, x, hx => by
    simp only [listR] at hx
    rcases List.mem_cons.1 hx with rfl | hx
    · exact ⟨r, rfl, rfl⟩
    · obtain ⟨r', h1, h2⟩ := list_mem h hx
      exact ⟨r', h1.trans (h r), h2⟩
theorem list_like (h : Same f g) : ∀ (k : Nat) {s i : Rd}, Like s i → LikeV (listR f k s) (listR g k i)
  | 0, s, i, hl => ⟨hl, fun _ => rfl⟩
  | k + 1, s, i, hl => by
    have a := h.like hl
    have b := list_like h k a.rd
    refine ⟨b.rd, fun hb => ?_⟩
    have hb : (listR f k (f s).2).2.bad = false := hb
    show _ :: _ = _ :: _
    rw [a.val (list_stickS h hb), b.val hb]
theorem Same.times {m n : Rd → Int × Rd} (hm : Same m n) (h : Same f g) : Same (timesR m f) (timesR n g) where
  like {s i} hl := by
    have a := hm.like hl
    unfold timesR
    cases hb : (m s).2.bad with
    | false => rw [a.val hb]; exact list_like h _ a.rd
    | true =>
      have hb2 : (n i).2.bad = true := by rw [← a.rd.bad]; exact hb
      have e1 : ∀ k, (listR f k (m s).2).2.bad = true := fun k => by
        cases e : (listR f k (m s).2).2.bad with
        | true => rfl
        | false => rw [list_stickS h e] at hb; cases hb
      have e2 : ∀ k, (listR g k (n i).2).2.bad = true := fun k => by
        cases e : (listR g k (n i).2).2.bad with
        | true => rfl
        | false => rw [list_stickI h e] at hb2; cases hb2
      exact ⟨⟨by rw [list_text h.textS, list_text h.textI]; exact a.rd.text, by rw [e1, e2], fun hh => by rw [e1] at hh; cases hh⟩, fun hh => by rw [e1] at hh; cases hh⟩
  stickS hb := hm.stickS (list_stickS h hb)
  stickI hb := hm.stickI (list_stickI h hb)
  textS r := (list_text h.textS _ _).trans (hm.textS r)
  textI r := (list_text h.textI _ _).trans (hm.textI r)
/-- One step of a loop that reads. -/
theorem list_step {whole : List α × Rd} {ss : List α} {rd : Rd} {j : Nat} (h : whole = (ss ++ (listR f j rd).1, (listR f j rd).2)) (hj : 0 < j) :
    whole = ((ss ++ [(f rd).1]) ++ (listR f (j - 1) (f rd).2).1, (listR f (j - 1) (f rd).2).2) := by
  obtain ⟨i, rfl⟩ : ∃ i, j = i + 1 := ⟨j - 1, by omega⟩
  rw [h, Nat.add_sub_cancel, List.append_assoc]; rfl
theorem list_end {whole : List α × Rd} {ss : List α} {rd : Rd} {j : Nat} (h : whole = (ss ++ (listR f j rd).1, (listR f j rd).2)) (hj : j = 0) : whole = (ss, rd) := by
  subst hj; rw [h]; show (ss ++ [], rd) = _; rw [List.append_nil]
end
theorem same_num : Same specNumR implNumR where
  like := like_num
  stickS := good_num
  stickI {r} hb := by
    cases e : r.bad with
    | false => rfl
    | true => rw [implNumR, e] at hb; cases hb
  textS := specNumR_text
  textI r := rfl
theorem same_word : Same specTextR implWordR where
  like := like_word
  stickS := good_word
  stickI {r} hb := by
    cases e : r.bad with
    | false => rfl
    | true => rw [implWordR, e] at hb; cases hb
  textS := specTextR_text
  textI r := rfl
theorem same_many (most : Int) : Same (specManyR · most) (implManyR · most) where
  like h := (like_many h most).1
  stickS {r} hb := by
    have hb : ((decide ((specNumR r).1 < 0) || decide ((specNumR r).1 > most)) || (specNumR r).2.bad) = false := hb
    exact good_num (Bool.or_eq_false_iff.1 hb).2
  stickI {r} hb := by
    have hb : (!inside (implNumR r).1 0 most || (implNumR r).2.bad) = false := hb
    exact same_num.stickI (Bool.or_eq_false_iff.1 hb).2
  textS r := specNumR_text r
  textI r := rfl
theorem manyS_range (r : Rd) {most : Int} (hm : 0 ≤ most) : 0 ≤ (specManyR r most).1 ∧ (specManyR r most).1 ≤ most := by
  unfold specManyR
  cases h : (decide ((specNumR r).1 < 0) || decide ((specNumR r).1 > most)) with
  | true => simp only [Bool.true_or, sel]; omega
  | false =>
    simp only [Bool.or_eq_false_iff, decide_eq_false_iff_not] at h
    cases (specNumR r).2.bad <;> simp only [Bool.false_or, sel] <;> omega
theorem manyI_range (r : Rd) {most : Int} (hm : 0 ≤ most) : 0 ≤ (implManyR r most).1 ∧ (implManyR r most).1 ≤ most := by
  unfold implManyR
  cases h : inside (implNumR r).1 0 most with
  | false => simp only [Bool.not_false, Bool.true_or, sel]; omega
  | true =>
    have h := (inside_iff _ _ _).1 h
    cases (implNumR r).2.bad <;> simp only [Bool.not_true, Bool.false_or, sel] <;> omega
/-! Truths and lists of numbers. -/
def specTruthR (r : Rd) : Bool × Rd := (decide ((specManyR r 1).1 = 1), (specManyR r 1).2)
def implYesR (r : Rd) : Bool × Rd := (decide ((implNumR r).1 = 1), { (implNumR r).2 with bad := (implNumR r).2.bad || !inside (implNumR r).1 0 1 })
def specNumsR : Rd → List Int × Rd := timesR (specManyR · 10) specNumR
def implListR (most : Int) : Rd → List Int × Rd := timesR (implManyR · most) implNumR
theorem same_yes : Same specTruthR implYesR where
  like {s i} h := by
    have a := (like_many h 1).1
    have e : (implYesR i).2 = (implManyR i 1).2 := by
      unfold implYesR implManyR
      rw [Bool.or_comm]
    refine ⟨by rw [e]; exact a.rd, fun hb => ?_⟩
    have hb : (specManyR s 1).2.bad = false := hb
    have hv := a.val hb
    have hb2 : (implManyR i 1).2.bad = false := by rw [← a.rd.bad]; exact hb
    show decide ((specManyR s 1).1 = 1) = decide ((implNumR i).1 = 1)
    rw [hv]
    have hb2 : (!inside (implNumR i).1 0 1 || (implNumR i).2.bad) = false := hb2
    unfold implManyR
    rw [hb2]; rfl
  stickS hb := (same_many 1).stickS hb
  stickI {r} hb := by
    have hb : ((implNumR r).2.bad || !inside (implNumR r).1 0 1) = false := hb
    exact same_num.stickI (Bool.or_eq_false_iff.1 hb).1
  textS r := specNumR_text r
  textI r := rfl
theorem same_list : Same specNumsR (implListR 10) := (same_many 10).times same_num
def begR (l : List UInt8) : Rd := ⟨l, 0, false⟩
theorem like_beg (l : List UInt8) : Like (begR l) (begR l) := ⟨rfl, rfl, fun _ => rfl⟩
theorem over_like {s i : Rd} (h : Like s i) : overR s = overR i := by
  cases hb : s.bad with
  | true => rw [overR, overR, ← h.bad, hb]; rfl
  | false => rw [overR, overR, ← h.bad, hb, h.pos hb, h.text]
theorem over_good {r : Rd} (h : overR r = true) : r.bad = false := by
  simp only [overR, Bool.and_eq_true, Bool.not_eq_true'] at h; exact h.1
theorem small_max {n : Nat} (h : n ≤ 20000) : n ≤ maxLen := Nat.le_trans h (Nat.le_of_ble_eq_true rfl)
theorem wordM_len (l : List UInt8) (a : Int) : (wordM l a).text.length ≤ l.length := by
  unfold wordM
  split
  · exact Nat.zero_le _
  · split
    · exact Nat.zero_le _
    · split
      · exact Nat.zero_le _
      · show ((l.take _).drop _).length ≤ l.length
        simp only [List.length_drop, List.length_take]; omega
theorem wordS_len (r : Rd) : (specTextR r).1.length ≤ r.text.length := by
  unfold specTextR
  cases (r.bad || !decide ((wordM r.text r.pos).code = 0)) with
  | true => exact Nat.zero_le _
  | false => exact wordM_len _ _
theorem wordI_len (r : Rd) : (implWordR r).1.length ≤ r.text.length := wordM_len _ _
theorem down1 {j : Nat} (hj : 0 < j) (h8 : j ≤ 1000000) : IntKind.i64.wrap ((j : Int) - 1) = ((j - 1 : Nat) : Int) := by rw [wrap_i64_id _ (by omega) (by omega)]; omega
theorem pos_of {j : Nat} (h : decide ((j : Int) > 0) = true) : 0 < j := by have := of_decide_eq_true h; omega
theorem none_of {j : Nat} (h : decide ((j : Int) > 0) = false) : j = 0 := by have := of_decide_eq_false h; omega
theorem mu_down {j : Nat} (hj : 0 < j) (h8 : j ≤ 1000000) : (IntKind.i64.wrap ((j : Int) - 1)).toNat < (j : Int).toNat := by rw [down1 hj h8]; omega
theorem in_loop {i j : Nat} {n : Int} (h : (i : Int) + j = n) (hd : decide ((i : Int) < n) = true) : 0 < j := by have := of_decide_eq_true hd; omega
theorem out_loop {i j : Nat} {n : Int} (h : (i : Int) + j = n) (hd : decide ((i : Int) < n) = false) : j = 0 := by have := of_decide_eq_false hd; omega
theorem room_small {n m b : Nat} (h : n ≤ 1000000) (hm : m ≤ 1000000) (hb : b ≤ 10000) : room (n + m) b := by
  have : maxLen = 9223372036854775807 := rfl
  simp only [room]
  constructor
  · omega
  · have : (n + m) * b ≤ 2000000 * 10000 := Nat.mul_le_mul (by omega) hb
    omega
theorem room_add {n b : Nat} {x : D} (h : n ≤ 1000000) (hb : b ≤ 10000) : room (n + [x].length) b := room_small h (Nat.le_of_ble_eq_true rfl) hb
end Go.Pm.Try
/-
Readers: truths and lists of numbers.
-/
namespace Go.Pm.Try
open Go Go.Proofs
set_option linter.unusedVariables false
set_option linter.unusedSimpArgs false
set_option maxRecDepth 100000
def i64D (n : Int) : D := .i .i64 n
theorem specTruth_ (r : Rd) (hl : r.text.length ≤ 20000) : Ent Try.prog 69 [.ptr 0 0] [.var (rdC r)] (.d (.b (specTruthR r).1)) [.var (rdC (specTruthR r).2)] := by
  have c1 := specMany r hl 1
  unfold specTruthR
  generalize specManyR r 1 = q at *
  refine ent_of tok mixed (f := 69) Try.func69 (by kernel_rfl) (keep := false) ?_
  repeat' ((conv => whnf) <;> (first | ((with_reducible refine isCall ?_) <;> (first | (refine ⟨_, c1, ?_⟩; rintro _ _ ⟨rfl, rfl⟩) | fail)) | ((with_reducible refine isCut ?_) <;> (first | refine ⟨⟨none⟩, ?_⟩)) | ((first | with_reducible refine isEx ?_ | with_reducible refine isAnd ?_ | with_reducible refine isOr ?_) <;> (first | ((with_reducible refine isSmall ?_) <;> (refine ⟨?_, ?_⟩; kernel_rfl)) | refine ⟨rfl, ?_⟩ | refine ⟨Int.natCast_nonneg _, ?_⟩)) | with_reducible refine Both.mk ?_ ?_ | rintro _ rfl | exact rfl | (split <;> (rename_i h; first | (simp only [beq_self_eq_true, eq_self, decide_true, Bool.not_true, Bool.false_eq_true] at h; done) | (try rw [h])))))
theorem implYes (r : Rd) (hl : r.text.length ≤ 20000) : Ent Try.prog 63 [.ptr 0 0] [.var (rdC r)] (.d (.b (implYesR r).1)) [.var (rdC (implYesR r).2)] := by
  have c1 := implNumRd r hl
  unfold implYesR
  generalize implNumR r = q at *
  rcases q with ⟨n, text, pos, bad⟩
  refine ent_of tok mixed (f := 63) Try.func63 (by kernel_rfl) (keep := false) ?_
  cases bad
  all_goals
    repeat' ((conv => whnf) <;> (first | ((with_reducible refine isCall ?_) <;> (first | (refine ⟨_, c1, ?_⟩; rintro _ _ ⟨rfl, rfl⟩) | (refine ⟨_, within _ _ _, ?_⟩; rintro _ _ ⟨rfl, rfl⟩) | fail)) | ((with_reducible refine isCut ?_) <;> (first | refine ⟨⟨none⟩, ?_⟩)) | ((first | with_reducible refine isEx ?_ | with_reducible refine isAnd ?_ | with_reducible refine isOr ?_) <;> (first | ((with_reducible refine isSmall ?_) <;> (refine ⟨?_, ?_⟩; kernel_rfl)) | refine ⟨rfl, ?_⟩ | refine ⟨Int.natCast_nonneg _, ?_⟩)) | with_reducible refine Both.mk ?_ ?_ | rintro _ rfl | exact rfl | (split <;> (rename_i h; first | (simp only [beq_self_eq_true, eq_self, decide_true, Bool.not_true, Bool.false_eq_true] at h; done) | (try rw [h])))))
  all_goals (simp only [*, Bool.false_or, Bool.true_or, Bool.or_false, Bool.or_true, sel]; exact ⟨rfl, rfl⟩)
theorem specNums_ (r : Rd) (hl : r.text.length ≤ 20000) : Ent Try.prog 70 [.ptr 0 0] [.var (rdC r)] (.d (.sl false ((specNumsR r).1.map i64D))) [.var (rdC (specNumsR r).2)] := by
  have c1 := specMany r hl 10
  have hr := manyS_range r (most := 10) (by decide)
  have ht0 : (specManyR r 10).2.text.length ≤ 20000 := by rw [(same_many 10).textS]; exact hl
  have e0 : specNumsR r = ([] ++ (listR specNumR (specManyR r 10).1.toNat (specManyR r 10).2).1, (listR specNumR (specManyR r 10).1.toNat (specManyR r 10).2).2) := rfl
  generalize specManyR r 10 = q at *
  generalize specNumsR r = o at *
  refine ent_of tok mixed (f := 70) Try.func70 (by kernel_rfl) (keep := false) ?_
  repeat' ((conv => whnf) <;> (first | ((with_reducible refine isCall ?_) <;> (first | (refine ⟨_, c1, ?_⟩; rintro _ _ ⟨rfl, rfl⟩) | (refine ⟨_, specNum rd ht, ?_⟩; rintro _ _ ⟨rfl, rfl⟩) | (refine ⟨⟨by decide, rfl, rfl, room_add (by rw [List.length_map]; omega) (by decide)⟩, ?_⟩) | fail)) | ((with_reducible refine isLoop ?_) <;> (first | (refine ⟨[4, 0, 3], [0, 10005], fun st => ∃ (j : Nat) (n : Int) (ss : List Int) (rd : Rd) (xs : List D), n = j ∧ rd.text.length ≤ 20000 ∧ ss.length + j ≤ 10 ∧ o = (ss ++ (listR specNumR j rd).1, (listR specNumR j rd).2) ∧ xs = ss.map i64D ∧ st = ⟨[(4, .d (.i .i64 n)), (0, .ptr 0 0), (3, .own 10005)], [(0, .var (rdC rd)), (10005, .arr 1 false xs)]⟩, fun st => match look 4 st.env with | some (.d (.i _ n)) => n.toNat | _ => 0, rfl, ⟨_, _, [], _, [], (Int.toNat_of_nonneg hr.1).symm, ht0, (by show 0 + _ ≤ 10; omega), e0, rfl, rfl⟩, ?_⟩; rintro st ⟨j, n, ss, rd, xs, rfl, ht, hss, ho, rfl, rfl⟩) | (refine ⟨⟨by decide, rfl, rfl, room_add (by rw [List.length_map]; omega) (by decide)⟩, ?_⟩) | fail)) | ((with_reducible refine isCut ?_) <;> (first | refine ⟨⟨none⟩, ?_⟩)) | ((first | with_reducible refine isEx ?_ | with_reducible refine isAnd ?_ | with_reducible refine isOr ?_) <;> (first | (refine ⟨⟨by decide, rfl, rfl, room_add (by rw [List.length_map]; omega) (by decide)⟩, ?_⟩) | ((with_reducible refine isSmall ?_) <;> (refine ⟨?_, ?_⟩; kernel_rfl)) | refine ⟨rfl, ?_⟩ | refine ⟨Int.natCast_nonneg _, ?_⟩)) | with_reducible refine Both.mk ?_ ?_ | rintro _ rfl | exact rfl | (split <;> (rename_i h; first | (simp only [beq_self_eq_true, eq_self, decide_true, Bool.not_true, Bool.false_eq_true] at h; done) | (try rw [h])))))
  all_goals (conv => whnf)
  · have hj := pos_of h
    refine ⟨⟨j - 1, _, ss ++ [(specNumR rd).1], (specNumR rd).2, _, down1 hj (by omega), (by rw [same_num.textS]; exact ht), ?_, list_step ho hj, ?_, rfl⟩, mu_down hj (by omega)⟩
    · simp only [List.length_append, List.length_cons, List.length_nil]; omega
    · rw [List.map_append]; rfl
  · rw [list_end ho (none_of h)]; exact ⟨rfl, rfl⟩
set_option maxHeartbeats 1000000 in
theorem implList (r : Rd) (hl : r.text.length ≤ 20000) (most : Int) (hm : 0 ≤ most ∧ most ≤ 100000) : Ent Try.prog 64 [.ptr 0 0, .d (.i .i64 most)] [.var (rdC r)] (.own 1) [.var (rdC (implListR most r).2), .arr 1 false ((implListR most r).1.map i64D)] := by
  have c1 := implMany r hl most
  have hr := manyI_range r hm.1
  have ht0 : (implManyR r most).2.text.length ≤ 20000 := hl
  have e0 : implListR most r = ([] ++ (listR implNumR (implManyR r most).1.toNat (implManyR r most).2).1, (listR implNumR (implManyR r most).1.toNat (implManyR r most).2).2) := rfl
  generalize implManyR r most = q at *
  generalize implListR most r = o at *
  refine ent_of (cx := ⟨tab, [], []⟩) tok mixed (f := 64) Try.func64 (by kernel_rfl) (keep := true) ?_
  repeat' ((conv => whnf) <;> (first | ((with_reducible refine isCall ?_) <;> (first | (refine ⟨_, c1, ?_⟩; rintro _ _ ⟨rfl, rfl⟩) | (refine ⟨_, implNumRd rd ht, ?_⟩; rintro _ _ ⟨rfl, rfl⟩) | (refine ⟨⟨by decide, rfl, rfl, room_add (by rw [List.length_map]; omega) (by decide)⟩, ?_⟩) | fail)) | ((with_reducible refine isLoop ?_) <;> (first | (refine ⟨[10, 9, 0, 5], [0, 10006], fun st => ∃ (i j : Nat) (n : Int) (ss : List Int) (rd : Rd) (xs : List D), n = i ∧ (i : Int) + j = q.1 ∧ rd.text.length ≤ 20000 ∧ ss.length + j ≤ 100000 ∧ o = (ss ++ (listR implNumR j rd).1, (listR implNumR j rd).2) ∧ xs = ss.map i64D ∧ st = ⟨[(10, .d (.i .i64 n)), (9, .d (.i .i64 q.1)), (0, .ptr 0 0), (5, .own 10006)], [(0, .var (rdC rd)), (10006, .arr 1 false xs)]⟩, fun st => match look 10 st.env with | some (.d (.i _ n)) => 100000 - n.toNat | _ => 0, rfl, ⟨0, _, _, [], _, [], rfl, (by rw [Int.toNat_of_nonneg hr.1]; exact Int.zero_add _), ht0, (by show 0 + _ ≤ 100000; omega), e0, rfl, rfl⟩, ?_⟩; rintro st ⟨i, j, n, ss, rd, xs, rfl, hij, ht, hss, ho, rfl, rfl⟩) | (refine ⟨⟨by decide, rfl, rfl, room_add (by rw [List.length_map]; omega) (by decide)⟩, ?_⟩) | fail)) | ((with_reducible refine isCut ?_) <;> (first | refine ⟨⟨none⟩, ?_⟩)) | ((first | with_reducible refine isEx ?_ | with_reducible refine isAnd ?_ | with_reducible refine isOr ?_) <;> (first | (refine ⟨⟨by decide, rfl, rfl, room_add (by rw [List.length_map]; omega) (by decide)⟩, ?_⟩) | ((with_reducible refine isSmall ?_) <;> (refine ⟨?_, ?_⟩; kernel_rfl)) | refine ⟨rfl, ?_⟩ | refine ⟨Int.natCast_nonneg _, ?_⟩)) | with_reducible refine Both.mk ?_ ?_ | rintro _ rfl | exact rfl | (split <;> (rename_i h; first | (simp only [beq_self_eq_true, eq_self, decide_true, Bool.not_true, Bool.false_eq_true] at h; done) | (try rw [h])))))
  all_goals (conv => whnf)
  · have hj := in_loop hij h
    refine ⟨⟨i + 1, j - 1, _, ss ++ [(implNumR rd).1], (implNumR rd).2, _, step_up (n := 100000) (by omega) (Nat.le_of_ble_eq_true rfl), (by omega), ht, ?_, list_step ho hj, ?_, rfl⟩, mu_up (n := 100000) (by omega) (Nat.le_of_ble_eq_true rfl)⟩
    · simp only [List.length_append, List.length_cons, List.length_nil]; omega
    · rw [List.map_append]; rfl
  · rw [list_end ho (out_loop hij h)]; rfl
end Go.Pm.Try
