/-
Defs and their bytes: plain laws.
-/
import Derived.Test.YtbenanocioeglaaBg
import Derived.Test.YtbenanocioeglaaBe
import Derived.Test.YtbenanocioeglaaNi
namespace Go.Pm.Try
open Go Go.Proofs
set_option linter.unusedVariables false
set_option linter.unusedSimpArgs false
structure StepPut (s : Step) : Prop where
  l1 : s.name.length ≤ 20000
  l2 : s.act.length ≤ 20000
  l3 : s.undo.length ≤ 20000
  n1 : I64 s.tries
  n2 : I64 s.back
  n3 : I64 s.out
theorem at_step {r : Rd} {s : Step} {q : List UInt8} (hs : StepPut s) (h : At r (stepB s ++ q)) : (stepR specRs r).1 = s ∧ At (stepR specRs r).2 q := by
  simp only [stepB, List.append_assoc] at h
  obtain ⟨e1, h⟩ := at_word hs.l1 h
  obtain ⟨e2, h⟩ := at_word hs.l2 h
  obtain ⟨e3, h⟩ := at_word hs.l3 h
  obtain ⟨e4, h⟩ := at_num hs.n1 h
  obtain ⟨e5, h⟩ := at_num hs.n2 h
  obtain ⟨e6, h⟩ := at_num hs.n3 h
  refine ⟨?_, h⟩
  show (⟨_, _, _, _, _, _⟩ : Step) = s
  rw [show (specRs.word r).1 = s.name from e1, show (specRs.word (specRs.word r).2).1 = s.act from e2, show (specRs.word (specRs.word (specRs.word r).2).2).1 = s.undo from e3,
    show (specRs.num (specRs.word (specRs.word (specRs.word r).2).2).2).1 = s.tries from e4, show (specRs.num (specRs.num (specRs.word (specRs.word (specRs.word r).2).2).2).2).1 = s.back from e5,
    show (specRs.num (specRs.num (specRs.num (specRs.word (specRs.word (specRs.word r).2).2).2).2).2).1 = s.out from e6]
theorem get_step {r : Rd} {rest : List UInt8} (h : At r rest) (hb : (stepR specRs r).2.bad = false) : ∃ s q, StepPut s ∧ rest = stepB s ++ q := by
  have b6 : (specNumR (specNumR (specNumR (specTextR (specTextR (specTextR r).2).2).2).2).2).2.bad = false := hb
  have b5 := good_num b6
  have b4 := good_num b5
  have b3 := good_num b4
  have b2 := good_word b3
  have b1 := good_word b2
  obtain ⟨t1, q1, l1, rfl⟩ := get_word h b1
  obtain ⟨e1, h⟩ := at_word l1 h
  obtain ⟨t2, q2, l2, rfl⟩ := get_word h b2
  obtain ⟨e2, h⟩ := at_word l2 h
  obtain ⟨t3, q3, l3, rfl⟩ := get_word h b3
  obtain ⟨e3, h⟩ := at_word l3 h
  obtain ⟨n1, q4, i1, rfl⟩ := get_num h b4
  obtain ⟨e4, h⟩ := at_num i1 h
  obtain ⟨n2, q5, i2, rfl⟩ := get_num h b5
  obtain ⟨e5, h⟩ := at_num i2 h
  obtain ⟨n3, q6, i3, rfl⟩ := get_num h b6
  exact ⟨⟨t1, t2, t3, n1, n2, n3⟩, q6, ⟨l1, l2, l3, i1, i2, i3⟩, by simp only [stepB, List.append_assoc]⟩
theorem stepsB_cons (s : Step) (ss : List Step) : stepsB (s :: ss) = stepB s ++ stepsB ss := rfl
theorem at_steps : ∀ (ss : List Step) {r : Rd} {q : List UInt8}, (∀ s, s ∈ ss → StepPut s) → At r (stepsB ss ++ q) → (stepsR specRs ss.length r).1 = ss ∧ At (stepsR specRs ss.length r).2 q
  | [], r, q, _, h => ⟨rfl, h⟩
  | s :: ss, r, q, hs, h => by
    rw [stepsB_cons, List.append_assoc] at h
    obtain ⟨e1, h⟩ := at_step (hs s (List.mem_cons_self ..)) h
    obtain ⟨e2, h⟩ := at_steps ss (fun t ht => hs t (List.mem_cons_of_mem _ ht)) h
    refine ⟨?_, h⟩
    show (stepR specRs r).1 :: (stepsR specRs ss.length (stepR specRs r).2).1 = s :: ss
    rw [e1, e2]
theorem get_steps : ∀ (k : Nat) {r : Rd} {rest : List UInt8}, At r rest → (stepsR specRs k r).2.bad = false → ∃ ss q, ss.length = k ∧ (∀ s, s ∈ ss → StepPut s) ∧ rest = stepsB ss ++ q
  | 0, r, rest, h, _ => ⟨[], rest, rfl, (fun s hs => by cases hs), rfl⟩
  | k + 1, r, rest, h, hb => by
    have hb1 : (stepR specRs r).2.bad = false := good_steps (k := k) hb
    obtain ⟨s, q, hs, rfl⟩ := get_step h hb1
    obtain ⟨e1, h⟩ := at_step hs h
    obtain ⟨ss, q2, hl, hss, rfl⟩ := get_steps k h hb
    refine ⟨s :: ss, q2, by rw [List.length_cons, hl], fun t ht => ?_, by rw [stepsB_cons, List.append_assoc]⟩
    rcases List.mem_cons.1 ht with rfl | ht
    · exact hs
    · exact hss t ht
/-- A def whose bytes are read back. -/
structure DefPut (d : Def) : Prop where
  l : d.name.length ≤ 20000
  len : d.steps.length ≤ 8
  p : I64 d.pivot
  steps : ∀ s, s ∈ d.steps → StepPut s
theorem at_beg (l : List UInt8) : At (begR l) l := ⟨rfl, 0, rfl, Nat.zero_le _, rfl⟩
theorem read_put {d : Def} (hd : DefPut d) (hok : defOk d = true) : readM specRs (defBytes d) = ⟨d, 0⟩ := by
  have hl := hd.len
  have e0 : defBytes d = putText d.name ++ (putNum d.steps.length ++ (stepsB d.steps ++ (putNum d.pivot ++ []))) := by
    rw [defBytes_ok hok]; simp only [headB, List.append_assoc, List.append_nil]
  have h := at_beg (defBytes d)
  rw (occs := .pos [2]) [e0] at h
  generalize defBytes d = l at h
  obtain ⟨e1, h⟩ := at_word hd.l h
  obtain ⟨e2, h⟩ := at_many (most := 8) ⟨by omega, by omega⟩ (by omega) (by omega) h
  obtain ⟨e3, h⟩ := at_steps d.steps hd.steps h
  obtain ⟨e4, h⟩ := at_num hd.p h
  have ra : readAt specRs l = (d.name, ((d.steps.length : Int), (specManyR (specTextR (begR l)).2 8).2)) := by
    show ((specTextR (begR l)).1, ((specManyR (specTextR (begR l)).2 8).1, (specManyR (specTextR (begR l)).2 8).2)) = _
    rw [e1, e2]
  have rs : readSt specRs l = stepsR specRs d.steps.length (specManyR (specTextR (begR l)).2 8).2 := by
    unfold readSt; rw [ra, Int.toNat_natCast]
  have rd : readDef specRs l = d := by
    unfold readDef; rw [ra, rs, e3, show (specRs.num (stepsR specRs d.steps.length (specManyR (specTextR (begR l)).2 8).2).2).1 = d.pivot from e4]
  have ho : overR (specRs.num (readSt specRs l).2).2 = true := by rw [rs]; exact at_over h
  unfold readM
  rw [rd, ho, hok]; rfl
theorem good_many {r : Rd} {most : Int} (h : (specManyR r most).2.bad = false) : r.bad = false := by
  simp only [specManyR, Bool.or_eq_false_iff] at h
  exact good_num h.2
theorem over_good {r : Rd} (h : overR r = true) : r.bad = false := by
  simp only [overR, Bool.and_eq_true, Bool.not_eq_true'] at h
  exact h.1
theorem read_get {l : List UInt8} (h : (readM specRs l).code = 0) : defOk (readM specRs l).def_ = true ∧ DefPut (readM specRs l).def_ ∧ l = defBytes (readM specRs l).def_ := by
  have hc : (overR (specRs.num (readSt specRs l).2).2 && defOk (readDef specRs l)) = true := by
    cases e : (overR (specRs.num (readSt specRs l).2).2 && defOk (readDef specRs l)) with
    | true => rfl
    | false => unfold readM at h; rw [e] at h; cases h
  have hr : (readM specRs l).def_ = readDef specRs l := by unfold readM; rw [hc]; rfl
  rw [hr]
  obtain ⟨ho, hok⟩ := Bool.and_eq_true_iff.1 hc
  have b4 : (specNumR (readSt specRs l).2).2.bad = false := over_good ho
  have b3 : (readSt specRs l).2.bad = false := good_num b4
  have b2 : (specManyR (specTextR (begR l)).2 8).2.bad = false := good_steps b3
  have b1 := good_many b2
  have hA := at_beg l
  obtain ⟨t, q1, ht, e1⟩ := get_word hA b1
  rw (occs := .pos [2]) [e1] at hA
  obtain ⟨f1, hA⟩ := at_word ht hA
  obtain ⟨n, q2, hn, n0, n8, e2⟩ := get_many hA b2
  rw [e2] at hA
  obtain ⟨f2, hA⟩ := at_many hn n0 n8 hA
  have rs : readSt specRs l = stepsR specRs n.toNat (specManyR (specTextR (begR l)).2 8).2 := by
    show stepsR specRs (specManyR (specTextR (begR l)).2 8).1.toNat _ = _
    rw [f2]; rfl
  rw [rs] at b3 b4 ho
  obtain ⟨ss, q3, hl, hss, e3⟩ := get_steps _ hA b3
  rw [e3] at hA
  rw [← hl] at rs b3 b4 ho
  obtain ⟨f3, hA⟩ := at_steps ss hss hA
  obtain ⟨p, q4, hp, e4⟩ := get_num hA b4
  rw [e4] at hA
  obtain ⟨f4, hA⟩ := at_num hp hA
  have e5 := get_over hA ho
  have rd : readDef specRs l = ⟨t, ss, p⟩ := by
    unfold readDef
    rw [rs, f3, show (specRs.num (stepsR specRs ss.length (specManyR (specTextR (begR l)).2 8).2).2).1 = p from f4]
    show (⟨(specTextR (begR l)).1, ss, p⟩ : Def) = _
    rw [f1]
  rw [rd] at hok ⊢
  have hn2 : n = (ss.length : Int) := by omega
  refine ⟨hok, ⟨ht, by show ss.length ≤ 8; omega, hp, hss⟩, ?_⟩
  rw [defBytes_ok hok]
  simp only [headB]
  rw [e1, e2, e3, e4, e5, hn2]
  simp only [List.append_assoc, List.append_nil]
theorem nameOk_len {l : List UInt8} (h : nameOk l = true) : l.length ≤ 20 := by
  simp only [nameOk, Bool.and_eq_true, decide_eq_true_eq] at h
  exact h.1.2
theorem stepOk_put {s : Step} (h : stepOk s = true) : StepPut s ∧ (stepB s).length ≤ 120 := by
  simp only [stepOk, nums, inside, Bool.and_eq_true, Bool.or_eq_true, decide_eq_true_eq] at h
  obtain ⟨⟨⟨h1, h2⟩, h3⟩, ⟨h4, h5⟩, ⟨h6, h7⟩, h8, h9⟩ := h
  have l1 := nameOk_len h1
  have l2 := nameOk_len h2
  have l3 : s.undo.length ≤ 20 := by
    rcases h3 with h3 | h3
    · rw [h3]; simp
    · exact nameOk_len h3
  have p : ∀ t : List UInt8, t.length ≤ 20 → (putText t).length ≤ 30 := fun t ht => by
    rw [putText_short (decide_eq_false (by omega)), List.length_append]
    have := putNum_len t.length
    omega
  have := p _ l1; have := p _ l2; have := p _ l3
  have := putNum_len s.tries; have := putNum_len s.back; have := putNum_len s.out
  refine ⟨⟨by omega, by omega, by omega, ⟨by omega, by omega⟩, ⟨by omega, by omega⟩, ⟨by omega, by omega⟩⟩, ?_⟩
  simp only [stepB, List.length_append]; omega
theorem stepsB_short : ∀ (ss : List Step), (∀ s, s ∈ ss → stepOk s = true) → (stepsB ss).length ≤ 120 * ss.length
  | [], _ => by simp [stepsB]
  | s :: ss, h => by
    have := stepsB_short ss (fun t ht => h t (List.mem_cons_of_mem _ ht))
    have := (stepOk_put (h s (List.mem_cons_self ..))).2
    rw [stepsB_cons, List.length_append, List.length_cons]; omega
theorem defOk_put {d : Def} (h : defOk d = true) : DefPut d ∧ (defBytes d).length ≤ 20000 := by
  have hb := defBytes_ok h
  simp only [defOk, inside, Bool.and_eq_true, decide_eq_true_eq] at h
  obtain ⟨⟨⟨h0, h1, h2⟩, h3, h4⟩, h5⟩ := h
  have hall : ∀ s, s ∈ d.steps → stepOk s = true := by
    intro s hs
    obtain ⟨k, hk, e⟩ := List.mem_iff_getElem.1 hs
    exact stepsUpTo_all h5 hk (by rw [List.getElem?_eq_getElem hk, e])
  have l0 := nameOk_len h0
  have l1 := stepsB_short d.steps hall
  refine ⟨⟨by omega, by omega, ⟨by omega, by omega⟩, fun s hs => (stepOk_put (hall s hs)).1⟩, ?_⟩
  rw [hb]
  have e : (putText d.name).length ≤ 30 := by
    rw [putText_short (decide_eq_false (by omega)), List.length_append]
    have := putNum_len d.name.length
    omega
  have := putNum_len d.steps.length; have := putNum_len d.pivot
  simp only [headB, List.length_append]; omega
/-- The def that was put is read back. -/
theorem readAll_put {d : Def} (h : defOk d = true) : readAll (defBytes d) = ⟨d, 0⟩ := by
  obtain ⟨hp, hl⟩ := defOk_put h
  unfold readAll
  rw [decide_eq_true hl, read_put hp h]; rfl
/-- What is read was put. -/
theorem readAll_get {l : List UInt8} (h : (readAll l).code = 0) : defBytes (readAll l).def_ = l := by
  unfold readAll at h ⊢
  cases e : decide (l.length ≤ 20000) with
  | false => rw [e] at h; cases h
  | true =>
    rw [e] at h
    exact (read_get h).2.2.symm
end Go.Pm.Try
