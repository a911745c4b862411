import Derived.Test.YtbenanocioeglaaSa
namespace Go.Pm.Try
open Go Go.Proofs
set_option linter.unusedVariables false
set_option linter.unusedSimpArgs false
set_option maxRecDepth 100000
structure Step where
  name : List UInt8
  act : List UInt8
  undo : List UInt8
  tries : Int
  back : Int
  out : Int
def stepD (s : Step) : D := .agg [.s s.name, .s s.act, .s s.undo, .i .i64 s.tries, .i .i64 s.back, .i .i64 s.out]
theorem get_map {α : Type} {f : α → D} {ss : List α} {k : Nat} (h : k < ss.length) : (ss.map f)[k]? = some (f (ss[k]'h)) := by simp [h]
theorem step_up {k n : Nat} (h : k < n) (hn : n ≤ maxLen) : IntKind.i64.wrap ((k : Int) + 1) = ((k + 1 : Nat) : Int) := by
  have : maxLen = 9223372036854775807 := rfl
  rw [wrap_i64_id _ (by omega) (by omega)]; rfl
theorem lt_of_dec {α : Type} {f : α → D} {ss : List α} {k : Nat} (h : decide ((k : Int) < ((ss.map f).length : Int)) = true) : k < ss.length := by
  have := of_decide_eq_true h
  rw [List.length_map] at this
  omega
theorem mu_up {k n : Nat} (h : k < n) (hn : n ≤ maxLen) : n - (IntKind.i64.wrap ((k : Int) + 1)).toNat < n - ((k : Int)).toNat := by
  rw [step_up h hn]; omega
set_option maxHeartbeats 4000000 in
theorem szStepS (ss : List Step) (hs : ss.length ≤ maxLen) (left : Int) : EntQ Try.prog 53 [.d (.sl false (ss.map stepD)), .d (.i .i64 left)] [] (fun R O => ∃ r, R = .d (.i .i64 r) ∧ O = []) := by
  refine ent_of tok mixed (f := 53) Try.func53 (by kernel_rfl) (keep := false) ?_
  repeat' ((conv => whnf) <;> (first
    | (refine ⟨[5, 1, 0, 4], [], fun s => ∃ (k : Nat) (n l : Int), n = k ∧ k ≤ ss.length ∧ s = ⟨[(5, .d (.i .i64 n)), (1, .d (.i .i64 l)), (0, .d (.sl false (ss.map stepD))), (4, .d (.i .i64 0))], []⟩,
        fun s => match look 5 s.env with | some (.d (.i _ n)) => ss.length - n.toNat | _ => 0, rfl, ⟨0, _, _, rfl, Nat.zero_le _, rfl⟩, ?_⟩; rintro s ⟨k, n, l, rfl, hk, rfl⟩)
    | (refine ⟨_, get_map (k := k) (lt_of_dec (by assumption)), ?_⟩)
    | (exact ⟨rfl, ⟨k + 1, _, _, step_up (lt_of_dec (by assumption)) hs, lt_of_dec (by assumption), rfl⟩, mu_up (lt_of_dec (by assumption)) hs⟩)
    | (refine ⟨_, szStep _ _ _ _ _ _ _, ?_⟩; rintro _ _ ⟨r, rfl, rfl⟩)
    | exact ⟨_, rfl, rfl⟩
    | refine ⟨⟨none⟩, ?_⟩
    | refine Both.mk ?_ ?_
    | refine ⟨rfl, ?_⟩
    | refine ⟨Int.natCast_nonneg _, ?_⟩
    | (split <;> (rename_i h; try rw [h]))))
theorem eqStep (s t : Step) : EntQ Try.prog 112 [.d (stepD s), .d (stepD t)] [] (fun R O => ∃ b, R = .d (.b b) ∧ O = [] ∧ (s = t → b = true)) := by
  refine ent_of tok mixed (f := 112) Try.func112 (by kernel_rfl) (keep := false) ?_
  repeat' ((conv => whnf) <;> (first
    | refine ⟨⟨none⟩, ?_⟩
    | refine Both.mk ?_ ?_
    | refine ⟨rfl, ?_⟩
    | (split <;> (rename_i h; try rw [h]))))
  all_goals (conv => whnf)
  all_goals (refine ⟨_, rfl, rfl, ?_⟩; intro e; subst e; simp_all)
set_option maxHeartbeats 4000000 in
theorem eqStepS (ss : List Step) (hs : ss.length ≤ maxLen) : Ent Try.prog 62 [.d (.sl false (ss.map stepD)), .d (.sl false (ss.map stepD))] [] (.d (.b true)) [] := by
  refine ent_of tok mixed (f := 62) Try.func62 (by kernel_rfl) (keep := false) ?_
  repeat' ((conv => whnf) <;> (first
    | (refine ⟨[5, 0, 1, 4], [], fun s => ∃ (k : Nat) (n : Int), n = k ∧ k ≤ ss.length ∧ s = ⟨[(5, .d (.i .i64 n)), (0, .d (.sl false (ss.map stepD))), (1, .d (.sl false (ss.map stepD))), (4, .d (.b false))], []⟩,
        fun s => match look 5 s.env with | some (.d (.i _ n)) => ss.length - n.toNat | _ => 0, rfl, ⟨0, _, rfl, Nat.zero_le _, rfl⟩, ?_⟩; rintro s ⟨k, n, rfl, hk, rfl⟩)
    | (refine ⟨_, get_map (k := k) (lt_of_dec (by assumption)), ?_⟩)
    | (exact ⟨rfl, ⟨k + 1, _, step_up (lt_of_dec (by assumption)) hs, lt_of_dec (by assumption), rfl⟩, mu_up (lt_of_dec (by assumption)) hs⟩)
    | (refine ⟨_, eqStep _ _, ?_⟩; rintro _ _ ⟨b, rfl, rfl, hb⟩; cases hb rfl)
    | refine ⟨⟨none⟩, ?_⟩
    | refine Both.mk ?_ ?_
    | refine ⟨rfl, ?_⟩
    | refine ⟨Int.natCast_nonneg _, ?_⟩
    | (split <;> (rename_i h; first | (simp only [decide_true, Bool.not_true, Bool.false_eq_true] at h; done) | try rw [h]))))
  all_goals (conv => whnf)
  all_goals trace_state
def chOk (i : Nat) (c : Int) : Bool := (decide (97 ≤ c) && decide (c ≤ 122)) || (decide (0 < i) && ((decide (48 ≤ c) && decide (c ≤ 57)) || decide (c = 95)))
def chAt (l : List UInt8) (k : Nat) : Int := ((l.getD k 0).toNat : Int)
def upToOk (l : List UInt8) : Nat → Bool
  | 0 => true
  | k + 1 => upToOk l k && chOk k (chAt l k)
def nameOk (l : List UInt8) : Bool := (decide (1 ≤ l.length) && decide (l.length ≤ 20)) && upToOk l l.length
theorem upToOk_false {l : List UInt8} {k : Nat} (h : chOk k (chAt l k) = false) : ∀ {n : Nat}, k < n → upToOk l n = false
  | 0, hk => by omega
  | n + 1, hk => by
    simp only [upToOk]
    by_cases e : k = n
    · subst e; rw [h, Bool.and_false]
    · rw [upToOk_false h (by omega), Bool.false_and]
theorem lt_of_dec' {n k : Nat} (h : decide ((k : Int) < (n : Int)) = true) : k < n := by
  have := of_decide_eq_true h; omega
set_option maxHeartbeats 4000000 in
theorem specNameRight (l : List UInt8) (hs : l.length ≤ maxLen) : Ent Try.prog 110 [.d (.s l)] [] (.d (.b (nameOk l))) [] := by
  refine ent_of tok mixed (f := 110) Try.func110 (by kernel_rfl) (keep := false) ?_
  repeat' ((conv => whnf) <;> (first
    | (refine ⟨[3, 0], [], fun s => ∃ (k : Nat) (n : Int), n = k ∧ k ≤ l.length ∧ upToOk l k = true ∧ s = ⟨[(3, .d (.i .i64 n)), (0, .d (.s l))], []⟩,
        fun s => match look 3 s.env with | some (.d (.i _ n)) => l.length - n.toNat | _ => 0, rfl, ⟨0, _, rfl, Nat.zero_le _, rfl, rfl⟩, ?_⟩; rintro s ⟨k, n, rfl, hk, hu, rfl⟩)
    | refine ⟨⟨none⟩, ?_⟩
    | refine Both.mk ?_ ?_
    | refine ⟨rfl, ?_⟩
    | refine ⟨⟨Int.natCast_nonneg _, of_decide_eq_true (by assumption)⟩, ?_⟩
    | (split <;> (rename_i h; try rw [h]))))
  all_goals (conv => whnf)
  all_goals first
    | (refine ⟨congrArg (fun b => AV.d (D.b b)) ?_, rfl⟩
       first
       | (have hf : chOk k (chAt l k) = false := by
            simp only [chOk, chAt, Int.toNat_natCast] at *
            simp_all
            try omega
          simp only [nameOk, upToOk_false hf (lt_of_dec' (by assumption)), Bool.and_false]; done)
       | (simp only [nameOk]; simp_all; done)
       | (simp only [nameOk]; simp_all; omega)
       | (simp only [nameOk]; simp_all
          have e : k = l.length := by omega
          subst e
          exact ⟨⟨by omega, by omega⟩, hu⟩))
    | (exact ⟨⟨k + 1, _, step_up (lt_of_dec' (by assumption)) hs, lt_of_dec' (by assumption), by
          have hf : chOk k (chAt l k) = true := by
            simp only [chOk, chAt, Int.toNat_natCast] at *
            simp_all
            try omega
          simp only [upToOk, hu, hf, Bool.and_true], rfl⟩, mu_up (lt_of_dec' (by assumption)) hs⟩)
set_option maxHeartbeats 4000000 in
theorem implNameRight (l : List UInt8) (hs : l.length ≤ maxLen) : Ent Try.prog 96 [.d (.s l)] [] (.d (.b (nameOk l))) [] := by
  refine ent_of tok mixed (f := 96) Try.func96 (by kernel_rfl) (keep := false) ?_
  repeat' ((conv => whnf) <;> (first
    | (refine ⟨[7, 6, 0], [], fun s => ∃ (k : Nat) (n : Int), n = k ∧ k ≤ l.length ∧ upToOk l k = true ∧ s = ⟨[(7, .d (.i .i64 n)), (6, .d (.i .i64 l.length)), (0, .d (.s l))], []⟩,
        fun s => match look 7 s.env with | some (.d (.i _ n)) => l.length - n.toNat | _ => 0, rfl, ⟨0, _, rfl, Nat.zero_le _, rfl, rfl⟩, ?_⟩; rintro s ⟨k, n, rfl, hk, hu, rfl⟩)
    | refine ⟨⟨none⟩, ?_⟩
    | refine Both.mk ?_ ?_
    | refine ⟨rfl, ?_⟩
    | refine ⟨⟨Int.natCast_nonneg _, of_decide_eq_true (by assumption)⟩, ?_⟩
    | (refine ⟨_, within _ _ _, ?_⟩; rintro _ _ ⟨rfl, rfl⟩)
    | (split <;> (rename_i h; try rw [h]))))
  all_goals (conv => whnf)
  all_goals first
    | (refine ⟨congrArg (fun b => AV.d (D.b b)) ?_, rfl⟩
       first
       | (have hf : chOk k (chAt l k) = false := by
            simp only [chOk, chAt, Int.toNat_natCast] at *
            simp_all
            try omega
          simp only [nameOk, upToOk_false hf (lt_of_dec' (by assumption)), Bool.and_false]; done)
       | (have e : k = l.length := by simp at *; omega
          subst e
          simp only [nameOk, hu, Bool.and_true, inside]
          rw [Bool.eq_iff_iff]; simp; omega))
    | (exact ⟨⟨k + 1, _, step_up (lt_of_dec' (by assumption)) hs, lt_of_dec' (by assumption), by
          have hf : chOk k (chAt l k) = true := by
            simp only [chOk, chAt, Int.toNat_natCast] at *
            simp_all
            try omega
          simp only [upToOk, hu, hf, Bool.and_true], rfl⟩, mu_up (lt_of_dec' (by assumption)) hs⟩)
  all_goals trace_state
/-- What the reader tells of a step's strings. -/
structure Step.fits (s : Step) : Prop where
  name : s.name.length ≤ maxLen
  act : s.act.length ≤ maxLen
  undo : s.undo.length ≤ maxLen
def stepOk (s : Step) : Bool := ((nameOk s.name && nameOk s.act) && (decide (s.undo = []) || nameOk s.undo)) && nums s.tries s.back s.out
set_option maxHeartbeats 4000000 in
theorem stepRight (s : Step) (hs : s.fits) : Ent Try.prog 97 [.d (stepD s)] [] (.d (.b (stepOk s))) [] := by
  obtain ⟨u1, hu1⟩ : ∃ u, u = nameOk s.name := ⟨_, rfl⟩
  obtain ⟨u2, hu2⟩ : ∃ u, u = nameOk s.act := ⟨_, rfl⟩
  obtain ⟨u3, hu3⟩ : ∃ u, u = nameOk s.undo := ⟨_, rfl⟩
  obtain ⟨u4, hu4⟩ : ∃ u, u = nums s.tries s.back s.out := ⟨_, rfl⟩
  have c1 := implNameRight s.name hs.name
  have c2 := implNameRight s.act hs.act
  have c3 := implNameRight s.undo hs.undo
  have c4 := numbersRight s.name s.act s.undo s.tries s.back s.out
  rw [← hu1] at c1
  rw [← hu2] at c2
  rw [← hu3] at c3
  rw [← hu4] at c4
  have e : stepOk s = (((u1 && u2) && (decide (s.undo = []) || u3)) && u4) := by rw [stepOk, hu1, hu2, hu3, hu4]
  rw [e]
  refine ent_of tok mixed (f := 97) Try.func97 (by kernel_rfl) (keep := false) ?_
  clear e hu1 hu2 hu3 hu4
  cases u1 <;> cases u2 <;> cases u3 <;> cases u4
  all_goals (repeat' ((conv => whnf) <;> (first
    | refine ⟨⟨none⟩, ?_⟩
    | refine Both.mk ?_ ?_
    | refine ⟨rfl, ?_⟩
    | (refine ⟨_, c1, ?_⟩; rintro _ _ ⟨rfl, rfl⟩)
    | (refine ⟨_, c2, ?_⟩; rintro _ _ ⟨rfl, rfl⟩)
    | (refine ⟨_, c3, ?_⟩; rintro _ _ ⟨rfl, rfl⟩)
    | (refine ⟨_, c4, ?_⟩; rintro _ _ ⟨rfl, rfl⟩)
    | (split <;> (rename_i h; try rw [h])))))
  all_goals (conv => whnf)
  all_goals (refine ⟨congrArg (fun b => AV.d (D.b b)) ?_, rfl⟩; simp_all)
theorem sameName (s t : Step) : Ent Try.prog 99 [.d (stepD s), .ptr 0 0] [.var ((AV.d (stepD t)).cells)] (.d (.b (decide (s.name = t.name)))) [.var ((AV.d (stepD t)).cells)] := by
  refine ent_of tok mixed (f := 99) Try.func99 (by kernel_rfl) (keep := false) ?_
  repeat' ((conv => whnf) <;> (first
    | refine ⟨⟨none⟩, ?_⟩
    | refine Both.mk ?_ ?_
    | refine ⟨rfl, ?_⟩
    | exact rfl
    | (split <;> (rename_i h; try rw [h]))))
theorem any_up {α : Type} {p : α → Bool} {ss : List α} {k : Nat} (h : k < ss.length) (h1 : (ss.take k).any p = false) (h2 : p (ss[k]'h) = false) : (ss.take (k + 1)).any p = false := by
  rw [List.take_succ_eq_append_getElem h, List.any_append, h1]
  simp [h2]
theorem index (ss : List Step) (hs : ss.length ≤ maxLen) (t : Step) : EntQ Try.prog 128 [.d (.sl false (ss.map stepD)), .fn 99 [.ptr 0 0]] [.var ((AV.d (stepD t)).cells)]
    (fun R O => ∃ n : Int, R = .d (.i .i64 n) ∧ O = [.var ((AV.d (stepD t)).cells)] ∧ decide (n ≥ 0) = ss.any (fun s => decide (s.name = t.name))) := by
  refine ent_of tok mixed (f := 128) Try.func128 (by kernel_rfl) (keep := false) ?_
  repeat' ((conv => whnf) <;> (first
    | (refine ⟨[8, 7, 0, 1], [0], fun s => ∃ (k : Nat) (n : Int), n = k ∧ k ≤ ss.length ∧ ((ss.take k).any (fun s => decide (s.name = t.name))) = false ∧ s = ⟨[(8, .d (.i .i64 n)), (7, .d (.i .i64 ((ss.map stepD).length : Int))), (0, .d (.sl false (ss.map stepD))), (1, .fn 99 [.ptr 0 0])], [(0, .var ((AV.d (stepD t)).cells))]⟩,
        fun s => match look 8 s.env with | some (.d (.i _ n)) => ss.length - n.toNat | _ => 0, rfl, ⟨0, _, rfl, Nat.zero_le _, rfl, rfl⟩, ?_⟩; rintro s ⟨k, n, rfl, hk, hu, rfl⟩)
    | (refine ⟨_, get_map (k := k) (lt_of_dec (by assumption)), ?_⟩)
    | refine ⟨⟨none⟩, ?_⟩
    | refine Both.mk ?_ ?_
    | refine ⟨rfl, ?_⟩
    | refine ⟨Int.natCast_nonneg _, ?_⟩
    | (refine ⟨_, sameName _ t, ?_⟩; rintro _ _ ⟨rfl, rfl⟩)
    | (split <;> (rename_i h; try rw [h]))))
  all_goals (conv => whnf)
  · refine ⟨_, rfl, rfl, ?_⟩
    rw [show decide ((k : Int) ≥ 0) = true from decide_eq_true (Int.natCast_nonneg k)]
    symm
    rw [List.any_eq_true]
    exact ⟨ss[k]'(lt_of_dec (by assumption)), List.getElem_mem _, by assumption⟩
  · exact ⟨⟨k + 1, _, step_up (lt_of_dec (by assumption)) hs, lt_of_dec (by assumption), any_up (lt_of_dec (by assumption)) hu (by assumption), rfl⟩, mu_up (lt_of_dec (by assumption)) hs⟩
  · refine ⟨_, rfl, rfl, ?_⟩
    have e : k = ss.length := by
      rename_i h
      have := of_decide_eq_false h
      rw [List.length_map] at this
      omega
    rw [e, List.take_length] at hu
    rw [hu]
    rfl
theorem contains (ss : List Step) (hs : ss.length ≤ maxLen) (t : Step) : Ent Try.prog 98 [.d (.sl false (ss.map stepD)), .fn 99 [.ptr 0 0]] [.var ((AV.d (stepD t)).cells)]
    (.d (.b (ss.any (fun s => decide (s.name = t.name))))) [.var ((AV.d (stepD t)).cells)] := by
  refine ent_of tok mixed (f := 98) Try.func98 (by kernel_rfl) (keep := false) ?_
  repeat' ((conv => whnf) <;> (first
    | (refine ⟨_, index ss hs t, ?_⟩; rintro _ _ ⟨n, rfl, rfl, hn⟩; rw [← hn])
    | refine ⟨⟨none⟩, ?_⟩
    | refine Both.mk ?_ ?_
    | refine ⟨rfl, ?_⟩
    | exact rfl
    | (split <;> (rename_i h; try rw [h]))))
end Go.Pm.Try
