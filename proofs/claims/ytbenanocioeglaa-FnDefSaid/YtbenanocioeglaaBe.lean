/-
Defs as bytes: both sides.
-/
import Derived.Test.YtbenanocioeglaaBa
import Derived.Test.YtbenanocioeglaaBm
namespace Go.Pm.Try
open Go Go.Proofs
set_option linter.unusedVariables false
set_option linter.unusedSimpArgs false
set_option maxRecDepth 100000
def stepB (s : Step) : List UInt8 := ((((putText s.name ++ putText s.act) ++ putText s.undo) ++ putNum s.tries) ++ putNum s.back) ++ putNum s.out
def headB (d : Def) : List UInt8 := putText d.name ++ putNum d.steps.length
def stepsB (ss : List Step) : List UInt8 := ss.flatMap stepB
def defBytes (d : Def) : List UInt8 := match defOk d with | true => (headB d ++ stepsB d.steps) ++ putNum d.pivot | false => []
theorem defBytes_ok {d : Def} (h : defOk d = true) : defBytes d = (headB d ++ stepsB d.steps) ++ putNum d.pivot := by simp only [defBytes, h]
theorem defBytes_bad {d : Def} (h : defOk d = false) : defBytes d = [] := by simp only [defBytes, h]
structure StepFine (s : Step) : Prop where
  fits : s.fits
  t1 : -9223372036854775808 ≤ s.tries
  t2 : s.tries ≤ 9223372036854775807
  b1 : -9223372036854775808 ≤ s.back
  b2 : s.back ≤ 9223372036854775807
  o1 : -9223372036854775808 ≤ s.out
  o2 : s.out ≤ 9223372036854775807
  l1 : (putText s.name).length ≤ 20010
  l2 : (putText s.act).length ≤ 20010
  l3 : (putText s.undo).length ≤ 20010
  l4 : (putNum s.tries).length ≤ 10
  l5 : (putNum s.back).length ≤ 10
  l6 : (putNum s.out).length ≤ 10
theorem step_fine {s : Step} (hs : s.fits) (h : stepOk s = true) : StepFine s := by
  simp only [stepOk, nums, inside, Bool.and_eq_true, decide_eq_true_eq] at h
  obtain ⟨_, ⟨h1, h2⟩, ⟨h3, h4⟩, h5, h6⟩ := h
  exact ⟨hs, by omega, by omega, by omega, by omega, by omega, by omega, putText_len _, putText_len _, putText_len _, putNum_len _, putNum_len _, putNum_len _⟩
theorem stepsUpTo_all {ss : List Step} : ∀ {n : Nat}, stepsUpTo ss n = true → ∀ {k : Nat} {t : Step}, k < n → ss[k]? = some t → stepOk t = true
  | 0, _, k, t, hk, _ => by omega
  | n + 1, h, k, t, hk, ht => by
    simp only [stepsUpTo, Bool.and_eq_true] at h
    by_cases e : k = n
    · subst e
      have h2 := h.2
      simp only [stepAt, ht, Bool.and_eq_true] at h2
      exact h2.1
    · exact stepsUpTo_all h.1 (by omega) ht
structure DefFine (d : Def) : Prop where
  fits : d.fits
  len : d.steps.length ≤ 8
  p1 : -9223372036854775808 ≤ d.pivot
  p2 : d.pivot ≤ 9223372036854775807
  steps : ∀ (k : Nat) (t : Step), d.steps[k]? = some t → StepFine t
theorem def_fine {d : Def} (hd : d.fits) (h : defOk d = true) : DefFine d := by
  simp only [defOk, inside, Bool.and_eq_true, decide_eq_true_eq] at h
  obtain ⟨⟨⟨_, h1, h2⟩, h3, h4⟩, h5⟩ := h
  exact ⟨hd, by omega, by omega, by omega, fun k t ht => step_fine (hd.steps _ (get_mem ht)) (stepsUpTo_all h5 (get_lt ht) ht)⟩
theorem stepB_len {s : Step} (h : StepFine s) : (stepB s).length ≤ 60060 := by
  have := h.l1; have := h.l2; have := h.l3; have := h.l4; have := h.l5; have := h.l6
  simp only [stepB, List.length_append]; omega
theorem take_next {α : Type} {ss : List α} {k : Nat} {t : α} (h : ss[k]? = some t) : ss.take (k + 1) = ss.take k ++ [t] := by
  obtain ⟨hk, rfl⟩ := List.getElem?_eq_some_iff.1 h
  rw [List.take_succ_eq_append_getElem hk]
theorem stepsB_next {ss : List Step} {k : Nat} {t : Step} (h : ss[k]? = some t) : stepsB (ss.take (k + 1)) = stepsB (ss.take k) ++ stepB t := by
  rw [take_next h]; simp [stepsB]
theorem stepsB_len {ss : List Step} (hs : ∀ (k : Nat) (t : Step), ss[k]? = some t → StepFine t) : ∀ {n : Nat}, n ≤ ss.length → (stepsB (ss.take n)).length ≤ 60060 * n
  | 0, _ => by simp [stepsB]
  | n + 1, h => by
    obtain ⟨t, ht⟩ := get_ex (ss := ss) (k := n) (by omega)
    have := stepsB_len hs (n := n) (by omega)
    have := stepB_len (hs n t ht)
    rw [stepsB_next ht, List.length_append]; omega
theorem headB_len (d : Def) : (headB d).length ≤ 20020 := by
  have := putText_len d.name; have := putNum_len d.steps.length
  simp only [headB, List.length_append]; omega
theorem accB_len {d : Def} (hf : DefFine d) {k : Nat} (hk : k ≤ d.steps.length) : (headB d ++ stepsB (d.steps.take k)).length ≤ 500500 := by
  have := headB_len d; have := stepsB_len hf.steps hk; have := hf.len
  rw [List.length_append]; omega
theorem accB_next {d : Def} {k : Nat} {t : Step} (h : d.steps[k]? = some t) : headB d ++ stepsB (d.steps.take (k + 1)) = (headB d ++ stepsB (d.steps.take k)) ++ stepB t := by
  rw [stepsB_next h, List.append_assoc]
theorem accB_zero (d : Def) : headB d = headB d ++ stepsB (d.steps.take 0) := by simp [stepsB]
theorem accB_all {d : Def} {k : Nat} (h : k = d.steps.length) : headB d ++ stepsB (d.steps.take k) = headB d ++ stepsB d.steps := by rw [h, List.take_length]
theorem accB_step {d : Def} {k : Nat} {t : Step} {acc : List UInt8} (hacc : acc = headB d ++ stepsB (d.steps.take k)) (h : d.steps[k]? = some t) :
    (((((acc ++ putText t.name) ++ putText t.act) ++ putText t.undo) ++ putNum t.tries) ++ putNum t.back) ++ putNum t.out = headB d ++ stepsB (d.steps.take (k + 1)) := by
  rw [accB_next h, ← hacc]; simp only [stepB, List.append_assoc]
theorem accB_step2 {d : Def} {k : Nat} {t : Step} {acc : List UInt8} (hacc : acc = headB d ++ stepsB (d.steps.take k)) (h : d.steps[k]? = some t) :
    (acc ++ ((putText t.name ++ putText t.act) ++ putText t.undo)) ++ ((putNum t.tries ++ putNum t.back) ++ putNum t.out) = headB d ++ stepsB (d.steps.take (k + 1)) := by
  rw [accB_next h, ← hacc]; simp only [stepB, List.append_assoc]
theorem accB_ne {d : Def} {k : Nat} {acc : List UInt8} (hacc : acc = headB d ++ stepsB (d.steps.take k)) : acc ≠ [] := by
  intro e
  rw [e] at hacc
  have := congrArg List.length hacc.symm
  simp only [headB, List.length_append, List.length_nil] at this
  have h0 : putNum (d.steps.length : Int) = [] := List.eq_nil_of_length_eq_zero (by omega)
  exact putNum_ne _ h0
set_option maxHeartbeats 4000000 in
theorem specDefBytes (d : Def) (hd : d.fits) : Ent Try.prog 19 [.d (defD d)] [] (.d (.s (defBytes d))) [] := by
  obtain ⟨o, ho⟩ : ∃ o, o = defBytes d := ⟨_, rfl⟩
  rw [← ho]
  have c1 := specDefRight d hd
  cases hok : defOk d with
  | false =>
    rw [hok] at c1
    rw [defBytes_bad hok] at ho
    refine ent_of tok mixed (f := 19) Try.func19 (by kernel_rfl) (keep := false) ?_
    repeat' ((conv => whnf) <;> (first | ((with_reducible refine isCall ?_) <;> (first | (refine ⟨_, c1, ?_⟩; rintro _ _ ⟨rfl, rfl⟩) | fail)) | ((with_reducible refine isCut ?_) <;> (first | refine ⟨⟨none⟩, ?_⟩)) | ((first | with_reducible refine isEx ?_ | with_reducible refine isAnd ?_ | with_reducible refine isOr ?_) <;> (first | ((with_reducible refine isSmall ?_) <;> (refine ⟨?_, ?_⟩; kernel_rfl)) | refine ⟨rfl, ?_⟩ | refine ⟨Int.natCast_nonneg _, ?_⟩)) | with_reducible refine Both.mk ?_ ?_ | rintro _ rfl | exact rfl | (split <;> (rename_i h; first | (simp only [beq_self_eq_true, eq_self, decide_true, Bool.not_true, Bool.false_eq_true] at h; done) | (try rw [h])))))
    all_goals (conv => whnf)
    all_goals (rw [ho]; exact ⟨rfl, rfl⟩)
  | true =>
    rw [hok] at c1
    rw [defBytes_ok hok] at ho
    have hf := def_fine hd hok
    have c2 := specPutText d.name hd.name
    have c3 : Ent Try.prog 64 [.d (.i .i64 ((d.steps.map stepD).length : Int))] [] (.d (.s (putNum d.steps.length))) [] := by
      rw [List.length_map]; exact specPutNum (d.steps.length : Int) (by omega) (by have := hf.len; omega)
    have c4 := specPutNum d.pivot hf.p1 hf.p2
    have h1 := putText_len d.name
    have h2 := putNum_len (d.steps.length : Int)
    have h3 := putNum_len d.pivot
    refine ent_of tok mixed (f := 19) Try.func19 (by kernel_rfl) (keep := false) ?_
    repeat' ((conv => whnf) <;> (first | ((with_reducible refine isCall ?_) <;> (first | (refine ⟨_, c1, ?_⟩; rintro _ _ ⟨rfl, rfl⟩) | (refine ⟨_, c2, ?_⟩; rintro _ _ ⟨rfl, rfl⟩) | (refine ⟨_, c3, ?_⟩; rintro _ _ ⟨rfl, rfl⟩) | (refine ⟨_, c4, ?_⟩; rintro _ _ ⟨rfl, rfl⟩) | (refine ⟨_, specPutText t.name ht2.fits.name, ?_⟩; rintro _ _ ⟨rfl, rfl⟩) | (refine ⟨_, specPutText t.act ht2.fits.act, ?_⟩; rintro _ _ ⟨rfl, rfl⟩) | (refine ⟨_, specPutText t.undo ht2.fits.undo, ?_⟩; rintro _ _ ⟨rfl, rfl⟩) | (refine ⟨_, specPutNum t.tries ht2.t1 ht2.t2, ?_⟩; rintro _ _ ⟨rfl, rfl⟩) | (refine ⟨_, specPutNum t.back ht2.b1 ht2.b2, ?_⟩; rintro _ _ ⟨rfl, rfl⟩) | (refine ⟨_, specPutNum t.out ht2.o1 ht2.o2, ?_⟩; rintro _ _ ⟨rfl, rfl⟩) | (obtain ⟨t, ht⟩ := get_ex (k := k) (lt_of_dec (by assumption)); have ht2 := hf.steps k t ht; have q1 := ht2.l1; have q2 := ht2.l2; have q3 := ht2.l3; have q4 := ht2.l4; have q5 := ht2.l5; have q6 := ht2.l6; refine ⟨_, get_map' ht, ?_⟩) | (refine ⟨(by (try simp only [List.length_append]); omega), ?_⟩) | exact ⟨⟨k + 1, _, _, step_up (get_lt ht) hd.len, get_lt ht, accB_step hacc ht, rfl⟩, mu_up (get_lt ht) hd.len⟩ | fail)) | ((with_reducible refine isLoop ?_) <;> (first | (refine ⟨[1, 3, 4], [10001], fun st => ∃ (k : Nat) (n : Int) (acc : List UInt8), n = k ∧ k ≤ d.steps.length ∧ acc = headB d ++ stepsB (d.steps.take k) ∧ st = ⟨[(1, .ptr 10001 0), (3, .d (.s acc)), (4, .d (.i .i64 n))], [(10001, .var (AV.d (defD d)).cells)]⟩, fun s => match look 4 s.env with | some (.d (.i _ n)) => d.steps.length - n.toNat | _ => 0, rfl, ⟨0, _, _, rfl, Nat.zero_le _, accB_zero d, rfl⟩, ?_⟩; rintro st ⟨k, n, acc, rfl, hk, hacc, rfl⟩; have q7 := accB_len hf hk; rw [← hacc] at q7) | (obtain ⟨t, ht⟩ := get_ex (k := k) (lt_of_dec (by assumption)); have ht2 := hf.steps k t ht; have q1 := ht2.l1; have q2 := ht2.l2; have q3 := ht2.l3; have q4 := ht2.l4; have q5 := ht2.l5; have q6 := ht2.l6; refine ⟨_, get_map' ht, ?_⟩) | (refine ⟨(by (try simp only [List.length_append]); omega), ?_⟩) | exact ⟨⟨k + 1, _, _, step_up (get_lt ht) hd.len, get_lt ht, accB_step hacc ht, rfl⟩, mu_up (get_lt ht) hd.len⟩ | fail)) | ((with_reducible refine isCut ?_) <;> (first | refine ⟨⟨none⟩, ?_⟩)) | ((first | with_reducible refine isEx ?_ | with_reducible refine isAnd ?_ | with_reducible refine isOr ?_) <;> (first | (obtain ⟨t, ht⟩ := get_ex (k := k) (lt_of_dec (by assumption)); have ht2 := hf.steps k t ht; have q1 := ht2.l1; have q2 := ht2.l2; have q3 := ht2.l3; have q4 := ht2.l4; have q5 := ht2.l5; have q6 := ht2.l6; refine ⟨_, get_map' ht, ?_⟩) | (refine ⟨(by (try simp only [List.length_append]); omega), ?_⟩) | exact ⟨⟨k + 1, _, _, step_up (get_lt ht) hd.len, get_lt ht, accB_step hacc ht, rfl⟩, mu_up (get_lt ht) hd.len⟩ | ((with_reducible refine isSmall ?_) <;> (refine ⟨?_, ?_⟩; kernel_rfl)) | refine ⟨rfl, ?_⟩ | refine ⟨Int.natCast_nonneg _, ?_⟩)) | with_reducible refine Both.mk ?_ ?_ | rintro _ rfl | exact rfl | (split <;> (rename_i h; first | (simp only [beq_self_eq_true, eq_self, decide_true, Bool.not_true, Bool.false_eq_true] at h; done) | (try rw [h])))))
    all_goals (conv => whnf)
    all_goals (refine ⟨congrArg (fun t => AV.d (D.s t)) ?_, rfl⟩)
    all_goals (rw [ho, hacc, accB_all (by have := of_decide_eq_false h; rw [List.length_map] at this; omega)])
set_option maxHeartbeats 4000000 in
theorem implDefBytes (d : Def) (hd : d.fits) : Ent Try.prog 20 [.d (defD d)] [] (.d (.s (defBytes d))) [] := by
  obtain ⟨o, ho⟩ : ∃ o, o = defBytes d := ⟨_, rfl⟩
  rw [← ho]
  have c1 := implDefRight d hd
  cases hok : defOk d with
  | false =>
    rw [hok] at c1
    rw [defBytes_bad hok] at ho
    refine ent_of tok mixed (f := 20) Try.func20 (by kernel_rfl) (keep := false) ?_
    repeat' ((conv => whnf) <;> (first | ((with_reducible refine isCall ?_) <;> (first | (refine ⟨_, c1, ?_⟩; rintro _ _ ⟨rfl, rfl⟩) | fail)) | ((with_reducible refine isCut ?_) <;> (first | refine ⟨⟨none⟩, ?_⟩)) | ((first | with_reducible refine isEx ?_ | with_reducible refine isAnd ?_ | with_reducible refine isOr ?_) <;> (first | ((with_reducible refine isSmall ?_) <;> (refine ⟨?_, ?_⟩; kernel_rfl)) | refine ⟨rfl, ?_⟩ | refine ⟨Int.natCast_nonneg _, ?_⟩)) | with_reducible refine Both.mk ?_ ?_ | rintro _ rfl | exact rfl | (split <;> (rename_i h; first | (simp only [beq_self_eq_true, eq_self, decide_true, Bool.not_true, Bool.false_eq_true] at h; done) | (try rw [h])))))
    all_goals (conv => whnf)
    all_goals (rw [ho]; exact ⟨rfl, rfl⟩)
  | true =>
    rw [hok] at c1
    rw [defBytes_ok hok] at ho
    have hf := def_fine hd hok
    have c2 := implPutText d.name hd.name
    have c3 : Ent Try.prog 67 [.d (.i .i64 ((d.steps.map stepD).length : Int))] [] (.d (.s (putNum d.steps.length))) [] := by
      rw [List.length_map]; exact implPutNum (d.steps.length : Int) (by omega) (by have := hf.len; omega)
    have c4 := implPutNum d.pivot hf.p1 hf.p2
    have h1 := putText_len d.name
    have h2 := putNum_len (d.steps.length : Int)
    have h3 := putNum_len d.pivot
    refine ent_of tok mixed (f := 20) Try.func20 (by kernel_rfl) (keep := false) ?_
    repeat' ((conv => whnf) <;> (first | ((with_reducible refine isCall ?_) <;> (first | (refine ⟨_, c1, ?_⟩; rintro _ _ ⟨rfl, rfl⟩) | (refine ⟨_, c2, ?_⟩; rintro _ _ ⟨rfl, rfl⟩) | (refine ⟨_, c3, ?_⟩; rintro _ _ ⟨rfl, rfl⟩) | (refine ⟨_, c4, ?_⟩; rintro _ _ ⟨rfl, rfl⟩) | (refine ⟨_, implPutText t.name ht2.fits.name, ?_⟩; rintro _ _ ⟨rfl, rfl⟩) | (refine ⟨_, implPutText t.act ht2.fits.act, ?_⟩; rintro _ _ ⟨rfl, rfl⟩) | (refine ⟨_, implPutText t.undo ht2.fits.undo, ?_⟩; rintro _ _ ⟨rfl, rfl⟩) | (refine ⟨_, implPutNum t.tries ht2.t1 ht2.t2, ?_⟩; rintro _ _ ⟨rfl, rfl⟩) | (refine ⟨_, implPutNum t.back ht2.b1 ht2.b2, ?_⟩; rintro _ _ ⟨rfl, rfl⟩) | (refine ⟨_, implPutNum t.out ht2.o1 ht2.o2, ?_⟩; rintro _ _ ⟨rfl, rfl⟩) | (refine ⟨_, writeString [] _ (by (try simp only [List.length_append, List.length_nil]); omega), ?_⟩; rintro _ _ ⟨rfl, rfl⟩) | (refine ⟨_, writeString acc _ (by (try simp only [List.length_append]); omega), ?_⟩; rintro _ _ ⟨rfl, rfl⟩) | (refine ⟨_, writeString (acc ++ ((putText t.name ++ putText t.act) ++ putText t.undo)) _ (by (try simp only [List.length_append]); omega), ?_⟩; rintro _ _ ⟨rfl, rfl⟩) | (refine ⟨_, builderString acc (accB_ne hacc), ?_⟩; rintro _ _ ⟨rfl, rfl⟩) | (obtain ⟨t, ht⟩ := get_ex (k := k) (lt_of_dec (by assumption)); have ht2 := hf.steps k t ht; have q1 := ht2.l1; have q2 := ht2.l2; have q3 := ht2.l3; have q4 := ht2.l4; have q5 := ht2.l5; have q6 := ht2.l6; refine ⟨_, get_map' ht, ?_⟩) | (refine ⟨(by (try simp only [List.length_append]); omega), ?_⟩) | exact ⟨⟨k + 1, _, _, step_up (get_lt ht) hd.len, get_lt ht, accB_step2 hacc ht, rfl⟩, mu_up (get_lt ht) hd.len⟩ | fail)) | ((with_reducible refine isLoop ?_) <;> (first | (refine ⟨[1, 3, 19, 20, 21], [10001, 10003], fun st => ∃ (k : Nat) (n : Int) (acc : List UInt8), n = k ∧ k ≤ d.steps.length ∧ acc = headB d ++ stepsB (d.steps.take k) ∧ st = ⟨[(1, .ptr 10001 0), (3, .ptr 10003 0), (19, .d (.sl false (d.steps.map stepD))), (20, .d (.i .i64 ((d.steps.map stepD).length : Int))), (21, .d (.i .i64 n))], [(10001, .var (AV.d (defD d)).cells), (10003, .bld 93 5 acc)]⟩, fun s => match look 21 s.env with | some (.d (.i _ n)) => d.steps.length - n.toNat | _ => 0, rfl, ⟨0, _, _, rfl, Nat.zero_le _, accB_zero d, rfl⟩, ?_⟩; rintro st ⟨k, n, acc, rfl, hk, hacc, rfl⟩; have q7 := accB_len hf hk; rw [← hacc] at q7) | (obtain ⟨t, ht⟩ := get_ex (k := k) (lt_of_dec (by assumption)); have ht2 := hf.steps k t ht; have q1 := ht2.l1; have q2 := ht2.l2; have q3 := ht2.l3; have q4 := ht2.l4; have q5 := ht2.l5; have q6 := ht2.l6; refine ⟨_, get_map' ht, ?_⟩) | (refine ⟨(by (try simp only [List.length_append]); omega), ?_⟩) | exact ⟨⟨k + 1, _, _, step_up (get_lt ht) hd.len, get_lt ht, accB_step2 hacc ht, rfl⟩, mu_up (get_lt ht) hd.len⟩ | fail)) | ((with_reducible refine isCut ?_) <;> (first | refine ⟨⟨none⟩, ?_⟩)) | ((first | with_reducible refine isEx ?_ | with_reducible refine isAnd ?_ | with_reducible refine isOr ?_) <;> (first | (obtain ⟨t, ht⟩ := get_ex (k := k) (lt_of_dec (by assumption)); have ht2 := hf.steps k t ht; have q1 := ht2.l1; have q2 := ht2.l2; have q3 := ht2.l3; have q4 := ht2.l4; have q5 := ht2.l5; have q6 := ht2.l6; refine ⟨_, get_map' ht, ?_⟩) | (refine ⟨(by (try simp only [List.length_append]); omega), ?_⟩) | exact ⟨⟨k + 1, _, _, step_up (get_lt ht) hd.len, get_lt ht, accB_step2 hacc ht, rfl⟩, mu_up (get_lt ht) hd.len⟩ | ((with_reducible refine isSmall ?_) <;> (refine ⟨?_, ?_⟩; kernel_rfl)) | refine ⟨rfl, ?_⟩ | refine ⟨Int.natCast_nonneg _, ?_⟩)) | with_reducible refine Both.mk ?_ ?_ | rintro _ rfl | exact rfl | (split <;> (rename_i h; first | (simp only [beq_self_eq_true, eq_self, decide_true, Bool.not_true, Bool.false_eq_true] at h; done) | (try rw [h])))))
    all_goals (conv => whnf)
    all_goals (refine ⟨congrArg (fun t => AV.d (D.s t)) ?_, rfl⟩)
    all_goals (rw [ho, hacc, accB_all (by have := of_decide_eq_false h; rw [List.length_map] at this; omega)])
theorem defBytesLaw (d : Def) (hd : d.fits) : Ent Try.prog 4 [.d (defD d)] [] (.d (.b true)) [] := by
  obtain ⟨u, hu⟩ : ∃ u, u = defBytes d := ⟨_, rfl⟩
  have c1 := specDefBytes d hd
  have c2 := implDefBytes d hd
  rw [← hu] at c1 c2
  refine ent_of tok mixed (f := 4) Try.func4 (by kernel_rfl) (keep := false) ?_
  repeat' ((conv => whnf) <;> (first | ((with_reducible refine isCall ?_) <;> (first | (refine ⟨_, szDef d hd, ?_⟩; rintro _ _ ⟨r, rfl, rfl, hr⟩) | (refine ⟨_, toDef d (hr (Int.not_lt.1 (of_decide_eq_false (by assumption)))), ?_⟩; rintro _ _ ⟨rfl, rfl⟩) | (refine ⟨_, c1, ?_⟩; rintro _ _ ⟨rfl, rfl⟩) | (refine ⟨_, c2, ?_⟩; rintro _ _ ⟨rfl, rfl⟩) | (refine ⟨_, eqDef d hd, ?_⟩; rintro _ _ ⟨rfl, rfl⟩) | fail)) | ((with_reducible refine isCut ?_) <;> (first | refine ⟨⟨none⟩, ?_⟩)) | ((first | with_reducible refine isEx ?_ | with_reducible refine isAnd ?_ | with_reducible refine isOr ?_) <;> (first | ((with_reducible refine isSmall ?_) <;> (refine ⟨?_, ?_⟩; kernel_rfl)) | refine ⟨rfl, ?_⟩ | refine ⟨Int.natCast_nonneg _, ?_⟩)) | with_reducible refine Both.mk ?_ ?_ | rintro _ rfl | exact rfl | (split <;> (rename_i h; first | (simp only [beq_self_eq_true, eq_self, decide_true, Bool.not_true, Bool.false_eq_true] at h; done) | (try rw [h])))))
  all_goals (conv => whnf)
  all_goals trace_state
end Go.Pm.Try
