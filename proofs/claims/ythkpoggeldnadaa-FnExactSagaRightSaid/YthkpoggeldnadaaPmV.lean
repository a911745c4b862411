import Derived.Test.YthkpoggeldnadaaPmZ
namespace Go.Pm.Try
open Go Go.Proofs
set_option linter.unusedVariables false
set_option maxRecDepth 100000
/-- What the reader tells of a step's strings. -/
structure Step.fits (s : Step) : Prop where
  name : s.name.length ≤ maxLen
  act : s.act.length ≤ maxLen
  undo : s.undo.length ≤ maxLen
def stepOk (s : Step) : Bool := ((nameOk s.name && nameOk s.act) && (decide (s.undo = []) || nameOk s.undo)) && nums s.tries s.back s.out
set_option maxHeartbeats 4000000 in
theorem stepRight (s : Step) (hs : s.fits) : Ent Try.prog 46 [.d (stepD s)] [] (.d (.b (stepOk s))) [] := by
  obtain ⟨u1, hu1⟩ : ∃ u, u = nameOk s.name := ⟨_, rfl⟩
  obtain ⟨u2, hu2⟩ : ∃ u, u = nameOk s.act := ⟨_, rfl⟩
  obtain ⟨u3, hu3⟩ : ∃ u, u = nameOk s.undo := ⟨_, rfl⟩
  obtain ⟨u4, hu4⟩ : ∃ u, u = nums s.tries s.back s.out := ⟨_, rfl⟩
  have c1 := implNameRight s.name hs.name
  have c2 := implNameRight s.act hs.act
  have c3 := implNameRight s.undo hs.undo
  have c4 := numbersRight s.name s.act s.undo s.tries s.back s.out
  rw [← hu1] at c1
  rw [← hu2] at c2
  rw [← hu3] at c3
  rw [← hu4] at c4
  have e : stepOk s = (((u1 && u2) && (decide (s.undo = []) || u3)) && u4) := by rw [stepOk, hu1, hu2, hu3, hu4]
  rw [e]
  refine ent_of tok mixed (f := 46) Try.func46 (by kernel_rfl) (keep := false) ?_
  clear e hu1 hu2 hu3 hu4
  cases u1 <;> cases u2 <;> cases u3 <;> cases u4
  all_goals (repeat' ((conv => whnf) <;> (first
    | refine ⟨rfl, ?_⟩
    | (refine ⟨_, c1, ?_⟩; rintro _ _ ⟨rfl, rfl⟩)
    | (refine ⟨_, c2, ?_⟩; rintro _ _ ⟨rfl, rfl⟩)
    | (refine ⟨_, c3, ?_⟩; rintro _ _ ⟨rfl, rfl⟩)
    | (refine ⟨_, c4, ?_⟩; rintro _ _ ⟨rfl, rfl⟩)
    | (split <;> (rename_i h; try rw [h])))))
  all_goals (conv => whnf)
  all_goals (refine ⟨congrArg (fun b => AV.d (D.b b)) ?_, rfl⟩; simp_all)
theorem sameName (s t : Step) : Ent Try.prog 48 [.d (stepD s), .ptr 0 0] [.var ((AV.d (stepD t)).cells)] (.d (.b (decide (s.name = t.name)))) [.var ((AV.d (stepD t)).cells)] := by
  refine ent_of tok mixed (f := 48) Try.func48 (by kernel_rfl) (keep := false) ?_
  repeat' ((conv => whnf) <;> (first
    | refine ⟨rfl, ?_⟩
    | exact rfl
    | (split <;> (rename_i h; try rw [h]))))
theorem any_up {α : Type} {p : α → Bool} {ss : List α} {k : Nat} (h : k < ss.length) (h1 : (ss.take k).any p = false) (h2 : p (ss[k]'h) = false) : (ss.take (k + 1)).any p = false := by
  rw [List.take_succ_eq_append_getElem h, List.any_append, h1]
  simp [h2]
theorem index (ss : List Step) (hs : ss.length ≤ maxLen) (t : Step) : EntQ Try.prog 56 [.d (.sl false (ss.map stepD)), .fn 48 [.ptr 0 0]] [.var ((AV.d (stepD t)).cells)]
    (fun R O => ∃ n : Int, R = .d (.i .i64 n) ∧ O = [.var ((AV.d (stepD t)).cells)] ∧ decide (n ≥ 0) = ss.any (fun s => decide (s.name = t.name))) := by
  refine ent_of tok mixed (f := 56) Try.func56 (by kernel_rfl) (keep := false) ?_
  repeat' ((conv => whnf) <;> (first
    | (refine ⟨[8, 7, 0, 1], [0], fun s => ∃ (k : Nat) (n : Int), n = k ∧ k ≤ ss.length ∧ ((ss.take k).any (fun s => decide (s.name = t.name))) = false ∧ s = ⟨[(8, .d (.i .i64 n)), (7, .d (.i .i64 ((ss.map stepD).length : Int))), (0, .d (.sl false (ss.map stepD))), (1, .fn 48 [.ptr 0 0])], [(0, .var ((AV.d (stepD t)).cells))]⟩,
        fun s => match look 8 s.env with | some (.d (.i _ n)) => ss.length - n.toNat | _ => 0, rfl, ⟨0, _, rfl, Nat.zero_le _, rfl, rfl⟩, ?_⟩; rintro s ⟨k, n, rfl, hk, hu, rfl⟩)
    | (refine ⟨_, get_map (k := k) (lt_of_dec (by assumption)), ?_⟩)
    | refine ⟨rfl, ?_⟩
    | refine ⟨Int.natCast_nonneg _, ?_⟩
    | (refine ⟨_, sameName _ t, ?_⟩; rintro _ _ ⟨rfl, rfl⟩)
    | (split <;> (rename_i h; try rw [h]))))
  all_goals (conv => whnf)
  · refine ⟨_, rfl, rfl, ?_⟩
    rw [show decide ((k : Int) ≥ 0) = true from decide_eq_true (Int.natCast_nonneg k)]
    symm
    rw [List.any_eq_true]
    exact ⟨ss[k]'(lt_of_dec (by assumption)), List.getElem_mem _, by assumption⟩
  · exact ⟨⟨k + 1, _, step_up (lt_of_dec (by assumption)) hs, lt_of_dec (by assumption), any_up (lt_of_dec (by assumption)) hu (by assumption), rfl⟩, mu_up (lt_of_dec (by assumption)) hs⟩
  · refine ⟨_, rfl, rfl, ?_⟩
    have e : k = ss.length := by
      rename_i h
      have := of_decide_eq_false h
      rw [List.length_map] at this
      omega
    rw [e, List.take_length] at hu
    rw [hu]
    rfl
theorem contains (ss : List Step) (hs : ss.length ≤ maxLen) (t : Step) : Ent Try.prog 47 [.d (.sl false (ss.map stepD)), .fn 48 [.ptr 0 0]] [.var ((AV.d (stepD t)).cells)]
    (.d (.b (ss.any (fun s => decide (s.name = t.name))))) [.var ((AV.d (stepD t)).cells)] := by
  refine ent_of tok mixed (f := 47) Try.func47 (by kernel_rfl) (keep := false) ?_
  repeat' ((conv => whnf) <;> (first
    | (refine ⟨_, index ss hs t, ?_⟩; rintro _ _ ⟨n, rfl, rfl, hn⟩; rw [← hn])
    | refine ⟨rfl, ?_⟩
    | exact rfl
    | (split <;> (rename_i h; try rw [h]))))
end Go.Pm.Try
