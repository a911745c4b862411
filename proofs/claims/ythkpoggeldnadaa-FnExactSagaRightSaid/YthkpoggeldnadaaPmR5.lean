import Derived.Test.YthkpoggeldnadaaPmR4
namespace Go.Pm.Try
open Go Go.Proofs
set_option linter.unusedVariables false
theorem eqDef (d : Def) (hd : d.fits) : Ent Try.prog 29 [.d (defD d), .d (defD d)] [] (.d (.b true)) [] := by
  refine ent_of tok mixed (f := 29) Try.func29 (by kernel_rfl) (keep := false) ?_
  repeat' ((conv => whnf) <;> (first
    | (refine ⟨_, eqStepS d.steps hd.len, ?_⟩; rintro _ _ ⟨rfl, rfl⟩)
    | refine ⟨rfl, ?_⟩
    | exact rfl
    | (split <;> (rename_i h; try rw [h]))))
  all_goals (conv => whnf)
  all_goals (refine ⟨congrArg (fun b => AV.d (D.b b)) ?_, rfl⟩; simp_all)
/-! Elements by number. -/
theorem get_ex {α : Type} {ss : List α} {k : Nat} (h : k < ss.length) : ∃ t, ss[k]? = some t := ⟨_, List.getElem?_eq_getElem h⟩
theorem get_map' {α : Type} {f : α → D} {ss : List α} {k : Nat} {t : α} (h : ss[k]? = some t) : (ss.map f)[k]? = some (f t) := by simp [h]
theorem get_lt {α : Type} {ss : List α} {k : Nat} {t : α} (h : ss[k]? = some t) : k < ss.length := (List.getElem?_eq_some_iff.1 h).1
theorem get_mem {α : Type} {ss : List α} {k : Nat} {t : α} (h : ss[k]? = some t) : t ∈ ss := List.mem_of_getElem? h
theorem any_up' {α : Type} {p : α → Bool} {ss : List α} {k : Nat} {t : α} (h : ss[k]? = some t) (h1 : (ss.take k).any p = false) (h2 : p t = false) : (ss.take (k + 1)).any p = false := by
  obtain ⟨hk, rfl⟩ := List.getElem?_eq_some_iff.1 h
  exact any_up hk h1 h2
theorem any_at {α : Type} {p : α → Bool} {ss : List α} {k m : Nat} {t : α} (h : ss[m]? = some t) (hm : m < k) (h2 : p t = true) : (ss.take k).any p = true := by
  rw [List.any_eq_true]
  refine ⟨t, ?_, h2⟩
  refine List.mem_of_getElem? (i := m) ?_
  rw [List.getElem?_take, if_pos hm]; exact h
theorem inner_done {α : Type} {p : α → Bool} {ss : List α} {k m : Nat} (hm : m ≤ k) (h : (ss.take m).any p = false) (h1 : decide ((m : Int) < (k : Int)) = false) : (ss.take k).any p = false := by
  have := of_decide_eq_false h1
  have e : m = k := by omega
  rw [← e]; exact h
theorem wrap_len1 {n : Nat} (h : n ≤ maxLen) : IntKind.i64.wrap ((n : Int) - 1) = (n : Int) - 1 := by
  have : maxLen = 9223372036854775807 := rfl
  exact wrap_i64_id _ (by omega) (by omega)
def stepAt (ss : List Step) (k : Nat) : Bool := match ss[k]? with | none => true | some s => stepOk s && !((ss.take k).any (fun t => decide (t.name = s.name)))
def stepsUpTo (ss : List Step) : Nat → Bool
  | 0 => true
  | k + 1 => stepsUpTo ss k && stepAt ss k
def defOk (d : Def) : Bool := ((nameOk d.name && inside d.steps.length 1 8) && inside d.pivot (-1) (d.steps.length - 1)) && stepsUpTo d.steps d.steps.length
theorem stepsUpTo_false {ss : List Step} {k : Nat} (h : stepAt ss k = false) : ∀ {n : Nat}, k < n → stepsUpTo ss n = false
  | 0, hk => by omega
  | n + 1, hk => by
    simp only [stepsUpTo]
    by_cases e : k = n
    · subst e; rw [h, Bool.and_false]
    · rw [stepsUpTo_false h (by omega), Bool.false_and]
theorem stepD_cells (ss : List Step) : ∀ x, x ∈ ss.map stepD → x.cells.length = 6 := by
  intro x hx
  obtain ⟨t, _, rfl⟩ := List.mem_map.1 hx
  rfl
theorem contains_take (ss : List Step) (hs : ss.length ≤ maxLen) (k : Nat) (t : Step) : Ent Try.prog 47 [.d (.sl false ((ss.map stepD).take k)), .fn 48 [.ptr 0 0]] [.var ((AV.d (stepD t)).cells)]
    (.d (.b ((ss.take k).any (fun s => decide (s.name = t.name))))) [.var ((AV.d (stepD t)).cells)] := by
  rw [← List.map_take]
  exact contains (ss.take k) (Nat.le_trans (List.length_take_le' _ _) hs) t
theorem stepsUpTo_up {ss : List Step} {k : Nat} {t : Step} (h : stepsUpTo ss k = true) (ht : ss[k]? = some t) (h1 : stepOk t = true)
    (h2 : (ss.take k).any (fun s => decide (s.name = t.name)) = false) : stepsUpTo ss (k + 1) = true := by
  simp only [stepsUpTo, h, Bool.true_and, stepAt, ht, h1, h2, Bool.not_false]
theorem not_ok {b : Bool} (h : (!b) = false) : b = true := by simpa using h
theorem not_ok' {b : Bool} (h : (!b) = true) : b = false := by simpa using h
theorem defOk_bad1 {d : Def} {k : Nat} {t : Step} (ht : d.steps[k]? = some t) (h : stepOk t = false) : false = defOk d := by
  rw [defOk, stepsUpTo_false (k := k) (by simp only [stepAt, ht, h, Bool.false_and]) (get_lt ht), Bool.and_false]
theorem defOk_bad2 {d : Def} {k : Nat} {t : Step} (ht : d.steps[k]? = some t) (h : (d.steps.take k).any (fun s => decide (s.name = t.name)) = true) : false = defOk d := by
  rw [defOk, stepsUpTo_false (k := k) (by simp only [stepAt, ht, h, Bool.not_true, Bool.and_false]) (get_lt ht), Bool.and_false]
set_option maxHeartbeats 4000000 in
theorem implDefRight (d : Def) (hd : d.fits) : Ent Try.prog 28 [.d (defD d)] [] (.d (.b (defOk d))) [] := by
  obtain ⟨u1, hu1⟩ : ∃ u, u = nameOk d.name := ⟨_, rfl⟩
  have c1 := implNameRight d.name hd.name
  rw [← hu1] at c1
  refine ent_of tok mixed (f := 28) Try.func28 (by kernel_rfl) (keep := false) ?_
  repeat' ((conv => whnf) <;> (first
    | (refine ⟨[29, 28, 27, 1], [10001], fun s => ∃ (k : Nat) (n : Int), n = k ∧ k ≤ d.steps.length ∧ stepsUpTo d.steps k = true ∧ s = ⟨[(29, .d (.i .i64 n)), (28, .d (.i .i64 ((d.steps.map stepD).length : Int))), (27, .d (.sl false (d.steps.map stepD))), (1, .ptr 10001 0)], [(10001, .var (AV.d (defD d)).cells)]⟩,
        fun s => match look 29 s.env with | some (.d (.i _ n)) => d.steps.length - n.toNat | _ => 0, rfl, ⟨0, _, rfl, Nat.zero_le _, rfl, rfl⟩, ?_⟩; rintro s ⟨k, n, rfl, hk, hu, rfl⟩)
    | (obtain ⟨t, ht⟩ := get_ex (k := k) (lt_of_dec (by assumption)); refine ⟨_, get_map' ht, ?_⟩)
    | (refine ⟨_, c1, ?_⟩; rintro _ _ ⟨rfl, rfl⟩)
    | (refine ⟨_, within _ _ _, ?_⟩; rintro _ _ ⟨rfl, rfl⟩)
    | (refine ⟨_, stepRight t (hd.steps _ (get_mem ht)), ?_⟩; rintro _ _ ⟨rfl, rfl⟩)
    | (refine ⟨_, contains_take d.steps hd.len k t, ?_⟩; rintro _ _ ⟨rfl, rfl⟩)
    | exact ⟨rfl, ⟨k + 1, _, step_up (get_lt ht) hd.len, get_lt ht, stepsUpTo_up hu ht (not_ok (by assumption)) (by assumption), rfl⟩, mu_up (get_lt ht) hd.len⟩
    | refine ⟨rfl, ?_⟩
    | refine ⟨⟨stepD_cells _, Nat.le_of_ble_eq_true rfl⟩, ?_⟩
    | refine ⟨Int.natCast_nonneg _, ?_⟩
    | refine ⟨⟨Int.natCast_nonneg _, (by rw [List.length_map]; have := lt_of_dec (by assumption); omega)⟩, ?_⟩
    | (split <;> (rename_i h; try rw [h]))))
  all_goals (conv => whnf)
  all_goals (refine ⟨congrArg (fun b => AV.d (D.b b)) ?_, rfl⟩)
  all_goals first
    | exact defOk_bad1 ht (not_ok' (by assumption))
    | exact defOk_bad2 ht (by assumption)
    | skip
  all_goals try simp only [wrap_len1 hd.len, List.length_map] at *
  · simp_all [defOk]
  · simp_all [defOk]
  · simp_all [defOk]
  · have e : k = d.steps.length := by have := of_decide_eq_false h; omega
    subst e
    simp_all [defOk]
set_option maxHeartbeats 4000000 in
theorem specDefRight (d : Def) (hd : d.fits) : Ent Try.prog 26 [.d (defD d)] [] (.d (.b (defOk d))) [] := by
  obtain ⟨u1, hu1⟩ : ∃ u, u = nameOk d.name := ⟨_, rfl⟩
  have c1 := specNameRight d.name hd.name
  rw [← hu1] at c1
  refine ent_of tok mixed (f := 26) Try.func26 (by kernel_rfl) (keep := false) ?_
  repeat' ((conv => whnf) <;> (first
    | (refine ⟨[4, 3, 1], [10001], fun s => ∃ (k : Nat) (n : Int), n = k ∧ k ≤ d.steps.length ∧ stepsUpTo d.steps k = true ∧ s = ⟨[(4, .d (.i .i64 n)), (3, .d (.i .i64 ((d.steps.map stepD).length : Int))), (1, .ptr 10001 0)], [(10001, .var (AV.d (defD d)).cells)]⟩,
        fun s => match look 4 s.env with | some (.d (.i _ n)) => d.steps.length - n.toNat | _ => 0, rfl, ⟨0, _, rfl, Nat.zero_le _, rfl, rfl⟩, ?_⟩; rintro s ⟨k, n, rfl, hk, hu, rfl⟩)
    | (refine ⟨[6, 5, 4, 3, 1], [10001, 10005], fun s => ∃ (m : Nat) (n : Int), n = m ∧ m ≤ k ∧ ((d.steps.take m).any (fun s => decide (s.name = t.name))) = false ∧ s = ⟨[(6, .d (.i .i64 n)), (5, .ptr 10005 0), (4, .d (.i .i64 (k : Int))), (3, .d (.i .i64 ((d.steps.map stepD).length : Int))), (1, .ptr 10001 0)], [(10001, .var (AV.d (defD d)).cells), (10005, .var (AV.d (stepD t)).cells)]⟩,
        fun s => match look 6 s.env with | some (.d (.i _ n)) => k - n.toNat | _ => 0, rfl, ⟨0, _, rfl, Nat.zero_le _, rfl, rfl⟩, ?_⟩; rintro s ⟨m, n, rfl, hm, hv, rfl⟩)
    | (obtain ⟨t2, ht2⟩ := get_ex (k := m) (Nat.lt_trans (lt_of_dec' (by assumption)) (get_lt ht)); refine ⟨_, get_map' ht2, ?_⟩)
    | (obtain ⟨t, ht⟩ := get_ex (k := k) (lt_of_dec (by assumption)); refine ⟨_, get_map' ht, ?_⟩)
    | (refine ⟨_, c1, ?_⟩; rintro _ _ ⟨rfl, rfl⟩)
    | (refine ⟨_, specNameRight _ (hd.steps _ (get_mem ht)).name, ?_⟩; rintro _ _ ⟨rfl, rfl⟩)
    | (refine ⟨_, specNameRight _ (hd.steps _ (get_mem ht)).act, ?_⟩; rintro _ _ ⟨rfl, rfl⟩)
    | (refine ⟨_, specNameRight _ (hd.steps _ (get_mem ht)).undo, ?_⟩; rintro _ _ ⟨rfl, rfl⟩)
    | (refine ⟨_, l12Nums _ _ _ _ _ _, ?_⟩; rintro _ _ ⟨rfl, rfl⟩)
    | exact ⟨rfl, ⟨m + 1, _, step_up (lt_of_dec' (by assumption)) (Nat.le_of_lt (Nat.lt_of_lt_of_le (get_lt ht) hd.len)), lt_of_dec' (by assumption), any_up' ht2 hv (by assumption), rfl⟩, mu_up (lt_of_dec' (by assumption)) (Nat.le_of_lt (Nat.lt_of_lt_of_le (get_lt ht) hd.len))⟩
    | (refine ⟨rfl, ⟨k + 1, _, step_up (get_lt ht) hd.len, get_lt ht, stepsUpTo_up hu ht ?_ (inner_done hm hv (by assumption)), rfl⟩, mu_up (get_lt ht) hd.len⟩
       simp_all [stepOk]; done)
    | refine ⟨rfl, ?_⟩
    | refine ⟨Int.natCast_nonneg _, ?_⟩
    | (split <;> (rename_i h; try rw [h]))))
  all_goals (conv => whnf)
  all_goals (refine ⟨congrArg (fun b => AV.d (D.b b)) ?_, rfl⟩)
  all_goals first
    | exact defOk_bad2 ht (any_at ht2 (lt_of_dec' (by assumption)) (by assumption))
    | exact defOk_bad1 ht (by simp_all [stepOk])
    | skip
  all_goals try simp only [List.length_map] at *
  · simp_all [defOk]
  · simp_all [defOk, inside]
    intros; omega
  · simp_all [defOk, inside]
    intros; omega
  · simp_all [defOk, inside]
    intros; omega
  · simp_all [defOk, inside]
    intros; omega
  · have e : k = d.steps.length := by have := of_decide_eq_false h; omega
    subst e
    simp_all [defOk, inside]
    omega
end Go.Pm.Try
