import Derived.Test.YtbenanocioeglaaSb
namespace Go.Pm.Try
open Go Go.Proofs
set_option linter.unusedVariables false
set_option linter.unusedSimpArgs false
set_option maxRecDepth 100000
def stepZ : D := .agg [.s [], .s [], .s [], .i .i64 (Int.ofNat 0), .i .i64 (Int.ofNat 0), .i .i64 (Int.ofNat 0)]
def filled (ss : List Step) (k : Nat) : List D := (ss.take k).map stepD ++ List.replicate (ss.length - k) stepZ
theorem filled_zero (ss : List Step) : List.replicate (ss.length) stepZ = filled ss 0 := by simp [filled]
theorem filled_all (ss : List Step) : filled ss ss.length = ss.map stepD := by simp [filled]
theorem filled_up (ss : List Step) {k : Nat} (h : k < ss.length) : (filled ss k).set k (stepD (ss[k]'h)) = filled ss (k + 1) := by
  unfold filled
  rw [List.set_append_right _ _ (by simp; omega)]
  rw [List.take_succ_eq_append_getElem h, List.map_append, List.append_assoc]
  congr 1
  have e : ss.length - k = (ss.length - (k + 1)) + 1 := by omega
  rw [e, List.replicate_succ]
  simp [Nat.min_eq_left (Nat.le_of_lt h)]
theorem filled_len (ss : List Step) {k : Nat} (h : k ≤ ss.length) : (filled ss k).length = ss.length := by simp [filled]; omega
set_option maxHeartbeats 4000000 in
theorem toStepS (ss : List Step) (hs : ss.length ≤ 1048576) : Ent Try.prog 57 [.d (.sl false (ss.map stepD))] [] (.d (.sl false (ss.map stepD))) [] := by
  have hm : ss.length ≤ maxLen := Nat.le_trans hs (by decide)
  refine ent_of tok mixed (f := 57) Try.func57 (by kernel_rfl) (keep := false) ?_
  repeat' ((conv => whnf) <;> (first
    | (refine ⟨[4, 3, 0, 2], [10007], fun s => ∃ (k : Nat) (n : Int) (zs : List D), n = k ∧ k ≤ ss.length ∧ zs = filled ss k ∧ s = ⟨[(4, .d (.i .i64 n)), (3, .own 10007), (0, .d (.sl false (ss.map stepD))), (2, .snil)], [(10007, .arr 6 false zs)]⟩,
        fun s => match look 4 s.env with | some (.d (.i _ n)) => ss.length - n.toNat | _ => 0, rfl, ⟨0, _, _, rfl, Nat.zero_le _, ?_, rfl⟩, ?_⟩; rotate_left; rintro s ⟨k, n, zs, rfl, hk, hz, rfl⟩)
    | (refine ⟨_, get_map (k := k) (lt_of_dec (by assumption)), ?_⟩)
    | exact ⟨rfl, ⟨k + 1, _, _, step_up (lt_of_dec (by assumption)) hm, lt_of_dec (by assumption), (by rw [hz]; exact filled_up ss (lt_of_dec (by assumption))), rfl⟩, mu_up (lt_of_dec (by assumption)) hm⟩
    | refine ⟨⟨(by rw [hz]; show k < _; rw [filled_len ss hk]; exact lt_of_dec (by assumption)), rfl⟩, ?_⟩
    | refine ⟨⟨none⟩, ?_⟩
    | refine Both.mk ?_ ?_
    | refine ⟨rfl, ?_⟩
    | refine ⟨Int.natCast_nonneg _, ?_⟩
    | refine ⟨⟨rfl, Int.natCast_nonneg _, (by rw [List.length_map]; show (ss.length : Int) * ((72 : Nat) : Int) ≤ 281474976710656; omega), (by rw [List.length_map]; have : ((maxLen : Nat) : Int) = 9223372036854775807 := rfl; omega)⟩, ?_⟩
    | refine ⟨⟨Int.natCast_nonneg _, (by rw [hz, filled_len ss hk]; have := lt_of_dec (by assumption); omega)⟩, ?_⟩
    | (refine ⟨_, toStep _ _ _ _ _ _, ?_⟩; rintro _ _ ⟨rfl, rfl⟩)
    | (split <;> (rename_i h; try rw [h]))))
  · conv => whnf
    refine ⟨congrArg (fun x => AV.d (D.sl false x)) ?_, rfl⟩
    have e : k = ss.length := by
      rename_i h
      have := of_decide_eq_false h
      rw [List.length_map] at this
      omega
    rw [hz, e, filled_all]
  · rw [List.length_map]; exact filled_zero ss
theorem sub_small {a : Int} {n : Nat} (h0 : 0 ≤ a) (h1 : a ≤ 1048576) (hn : n ≤ maxLen) : IntKind.i64.wrap (a - (n : Int)) = a - n := by
  have : maxLen = 9223372036854775807 := rfl
  exact wrap_i64_id _ (by omega) (by omega)
theorem szStepB (s : Step) (hs : s.fits) (left : Int) (h0 : 0 ≤ left) (h1 : left ≤ 1048576) : EntQ Try.prog 109 [.d (stepD s), .d (.i .i64 left)] [] (fun R O => ∃ r, R = .d (.i .i64 r) ∧ O = [] ∧ r ≤ left) := by
  have e1 := sub_small h0 h1 hs.name
  refine ent_of tok mixed (f := 109) Try.func109 (by kernel_rfl) (keep := false) ?_
  repeat' ((conv => whnf) <;> (first
    | refine ⟨⟨none⟩, ?_⟩
    | refine Both.mk ?_ ?_
    | refine ⟨rfl, ?_⟩
    | (split <;> (rename_i h; try rw [h]))))
  all_goals ((conv => whnf); refine ⟨_, rfl, rfl, ?_⟩)
  all_goals first
    | (show (-1 : Int) ≤ left; omega)
    | (rename_i g1 _ g2 _
       have f1 := of_decide_eq_false g1
       have f2 := of_decide_eq_false g2
       rw [e1] at f1 f2
       have e2 := sub_small (a := left - s.name.length) (n := s.act.length) (by omega) (by omega) hs.act
       rw [e2] at f2
       have e3 := sub_small (a := left - s.name.length - s.act.length) (n := s.undo.length) (by omega) (by omega) hs.undo
       rw [e1, e2, e3]
       omega)
set_option maxHeartbeats 4000000 in
theorem szStepSB (ss : List Step) (hs : ss.length ≤ maxLen) (hf : ∀ s, s ∈ ss → s.fits) (left : Int) (h0 : 0 ≤ left) (h1 : left ≤ 1048576) :
    EntQ Try.prog 53 [.d (.sl false (ss.map stepD)), .d (.i .i64 left)] [] (fun R O => ∃ r, R = .d (.i .i64 r) ∧ O = [] ∧ r ≤ left ∧ (0 ≤ r → (ss.length : Int) ≤ left)) := by
  have e1 := sub_small (n := (ss.map stepD).length) h0 h1 (by rw [List.length_map]; exact hs)
  refine ent_of tok mixed (f := 53) Try.func53 (by kernel_rfl) (keep := false) ?_
  repeat' ((conv => whnf) <;> (first
    | (refine ⟨[5, 1, 0, 4], [], fun s => ∃ (k : Nat) (n l : Int), n = k ∧ k ≤ ss.length ∧ (0 ≤ l ∧ l ≤ left ∧ (ss.length : Int) ≤ left) ∧ s = ⟨[(5, .d (.i .i64 n)), (1, .d (.i .i64 l)), (0, .d (.sl false (ss.map stepD))), (4, .d (.i .i64 0))], []⟩,
        fun s => match look 5 s.env with | some (.d (.i _ n)) => ss.length - n.toNat | _ => 0, rfl, ⟨0, _, _, rfl, Nat.zero_le _, (by
          have := of_decide_eq_false (by assumption)
          rw [e1, List.length_map] at this ⊢
          omega), rfl⟩, ?_⟩; rintro s ⟨k, n, l, rfl, hk, hl, rfl⟩)
    | (refine ⟨_, get_map (k := k) (lt_of_dec (by assumption)), ?_⟩)
    | exact ⟨rfl, ⟨k + 1, _, _, step_up (lt_of_dec (by assumption)) hs, lt_of_dec (by assumption), ⟨Int.not_lt.1 (of_decide_eq_false (by assumption)), Int.le_trans hr hl.2.1, hl.2.2⟩, rfl⟩, mu_up (lt_of_dec (by assumption)) hs⟩
    | (refine ⟨_, szStepB _ (hf _ (List.getElem_mem (lt_of_dec (by assumption)))) _ hl.1 (Int.le_trans hl.2.1 h1), ?_⟩; rintro _ _ ⟨r, rfl, rfl, hr⟩)
    | refine ⟨⟨none⟩, ?_⟩
    | refine Both.mk ?_ ?_
    | refine ⟨rfl, ?_⟩
    | refine ⟨Int.natCast_nonneg _, ?_⟩
    | (split <;> (rename_i h; try rw [h]))))
  all_goals (conv => whnf)
  all_goals first
    | exact ⟨_, rfl, rfl, by omega, fun h => by omega⟩
    | exact ⟨_, rfl, rfl, hl.2.1, fun _ => hl.2.2⟩
  all_goals trace_state
structure Def where
  name : List UInt8
  steps : List Step
  pivot : Int
def defD (d : Def) : D := .agg [.s d.name, .sl false (d.steps.map stepD), .i .i64 d.pivot]
structure Def.fits (d : Def) : Prop where
  name : d.name.length ≤ maxLen
  len : d.steps.length ≤ maxLen
  steps : ∀ s, s ∈ d.steps → s.fits
theorem szDef (d : Def) (hd : d.fits) : EntQ Try.prog 13 [.d (defD d), .d (.i .i64 1048576)] [] (fun R O => ∃ r, R = .d (.i .i64 r) ∧ O = [] ∧ (0 ≤ r → d.steps.length ≤ 1048576)) := by
  have e1 := sub_small (a := 1048576) (n := d.name.length) (by omega) (by omega) hd.name
  refine ent_of tok mixed (f := 13) Try.func13 (by kernel_rfl) (keep := false) ?_
  repeat' ((conv => whnf) <;> (first
    | refine ⟨⟨none⟩, ?_⟩
    | refine Both.mk ?_ ?_
    | refine ⟨rfl, ?_⟩
    | (refine ⟨_, szStepSB d.steps hd.len hd.steps _ (Int.not_lt.1 (of_decide_eq_false (by assumption))) (by rw [e1]; omega), ?_⟩; rintro _ _ ⟨r, rfl, rfl, hr1, hr2⟩)
    | (split <;> (rename_i h; try rw [h]))))
  all_goals (conv => whnf)
  all_goals first
    | exact ⟨_, rfl, rfl, fun h => by omega⟩
    | exact ⟨_, rfl, rfl, fun h => by have := hr2 h; rw [e1] at this; omega⟩
theorem toDef (d : Def) (hd : d.steps.length ≤ 1048576) : Ent Try.prog 15 [.d (defD d)] [] (.d (defD d)) [] := by
  refine ent_of tok mixed (f := 15) Try.func15 (by kernel_rfl) (keep := false) ?_
  repeat' ((conv => whnf) <;> (first
    | refine ⟨⟨none⟩, ?_⟩
    | refine Both.mk ?_ ?_
    | refine ⟨rfl, ?_⟩
    | exact rfl
    | (refine ⟨_, toStepS d.steps hd, ?_⟩; rintro _ _ ⟨rfl, rfl⟩)
    | (split <;> (rename_i h; try rw [h]))))
  all_goals trace_state
theorem eqDef (d : Def) (hd : d.fits) : Ent Try.prog 18 [.d (defD d), .d (defD d)] [] (.d (.b true)) [] := by
  refine ent_of tok mixed (f := 18) Try.func18 (by kernel_rfl) (keep := false) ?_
  repeat' ((conv => whnf) <;> (first
    | (refine ⟨_, eqStepS d.steps hd.len, ?_⟩; rintro _ _ ⟨rfl, rfl⟩)
    | refine ⟨⟨none⟩, ?_⟩
    | refine Both.mk ?_ ?_
    | refine ⟨rfl, ?_⟩
    | exact rfl
    | (split <;> (rename_i h; try rw [h]))))
  all_goals (conv => whnf)
  all_goals (refine ⟨congrArg (fun b => AV.d (D.b b)) ?_, rfl⟩; simp_all)
/-! Elements by number. -/
theorem get_ex {α : Type} {ss : List α} {k : Nat} (h : k < ss.length) : ∃ t, ss[k]? = some t := ⟨_, List.getElem?_eq_getElem h⟩
theorem get_map' {α : Type} {f : α → D} {ss : List α} {k : Nat} {t : α} (h : ss[k]? = some t) : (ss.map f)[k]? = some (f t) := by simp [h]
theorem get_lt {α : Type} {ss : List α} {k : Nat} {t : α} (h : ss[k]? = some t) : k < ss.length := (List.getElem?_eq_some_iff.1 h).1
theorem get_mem {α : Type} {ss : List α} {k : Nat} {t : α} (h : ss[k]? = some t) : t ∈ ss := List.mem_of_getElem? h
theorem any_up' {α : Type} {p : α → Bool} {ss : List α} {k : Nat} {t : α} (h : ss[k]? = some t) (h1 : (ss.take k).any p = false) (h2 : p t = false) : (ss.take (k + 1)).any p = false := by
  obtain ⟨hk, rfl⟩ := List.getElem?_eq_some_iff.1 h
  exact any_up hk h1 h2
theorem any_at {α : Type} {p : α → Bool} {ss : List α} {k m : Nat} {t : α} (h : ss[m]? = some t) (hm : m < k) (h2 : p t = true) : (ss.take k).any p = true := by
  rw [List.any_eq_true]
  refine ⟨t, ?_, h2⟩
  refine List.mem_of_getElem? (i := m) ?_
  rw [List.getElem?_take, if_pos hm]; exact h
theorem inner_done {α : Type} {p : α → Bool} {ss : List α} {k m : Nat} (hm : m ≤ k) (h : (ss.take m).any p = false) (h1 : decide ((m : Int) < (k : Int)) = false) : (ss.take k).any p = false := by
  have := of_decide_eq_false h1
  have e : m = k := by omega
  rw [← e]; exact h
theorem wrap_len1 {n : Nat} (h : n ≤ maxLen) : IntKind.i64.wrap ((n : Int) - 1) = (n : Int) - 1 := by
  have : maxLen = 9223372036854775807 := rfl
  exact wrap_i64_id _ (by omega) (by omega)
def stepAt (ss : List Step) (k : Nat) : Bool := match ss[k]? with | none => true | some s => stepOk s && !((ss.take k).any (fun t => decide (t.name = s.name)))
def stepsUpTo (ss : List Step) : Nat → Bool
  | 0 => true
  | k + 1 => stepsUpTo ss k && stepAt ss k
def defOk (d : Def) : Bool := ((nameOk d.name && inside d.steps.length 1 8) && inside d.pivot (-1) (d.steps.length - 1)) && stepsUpTo d.steps d.steps.length
theorem stepsUpTo_false {ss : List Step} {k : Nat} (h : stepAt ss k = false) : ∀ {n : Nat}, k < n → stepsUpTo ss n = false
  | 0, hk => by omega
  | n + 1, hk => by
    simp only [stepsUpTo]
    by_cases e : k = n
    · subst e; rw [h, Bool.and_false]
    · rw [stepsUpTo_false h (by omega), Bool.false_and]
theorem stepD_cells (ss : List Step) : ∀ x, x ∈ ss.map stepD → x.cells.length = 6 := by
  intro x hx
  obtain ⟨t, _, rfl⟩ := List.mem_map.1 hx
  rfl
theorem contains_take (ss : List Step) (hs : ss.length ≤ maxLen) (k : Nat) (t : Step) : Ent Try.prog 98 [.d (.sl false ((ss.map stepD).take k)), .fn 99 [.ptr 0 0]] [.var ((AV.d (stepD t)).cells)]
    (.d (.b ((ss.take k).any (fun s => decide (s.name = t.name))))) [.var ((AV.d (stepD t)).cells)] := by
  rw [← List.map_take]
  exact contains (ss.take k) (Nat.le_trans (List.length_take_le' _ _) hs) t
theorem stepsUpTo_up {ss : List Step} {k : Nat} {t : Step} (h : stepsUpTo ss k = true) (ht : ss[k]? = some t) (h1 : stepOk t = true)
    (h2 : (ss.take k).any (fun s => decide (s.name = t.name)) = false) : stepsUpTo ss (k + 1) = true := by
  simp only [stepsUpTo, h, Bool.true_and, stepAt, ht, h1, h2, Bool.not_false]
theorem not_ok {b : Bool} (h : (!b) = false) : b = true := by simpa using h
theorem not_ok' {b : Bool} (h : (!b) = true) : b = false := by simpa using h
theorem defOk_bad1 {d : Def} {k : Nat} {t : Step} (ht : d.steps[k]? = some t) (h : stepOk t = false) : false = defOk d := by
  rw [defOk, stepsUpTo_false (k := k) (by simp only [stepAt, ht, h, Bool.false_and]) (get_lt ht), Bool.and_false]
theorem defOk_bad2 {d : Def} {k : Nat} {t : Step} (ht : d.steps[k]? = some t) (h : (d.steps.take k).any (fun s => decide (s.name = t.name)) = true) : false = defOk d := by
  rw [defOk, stepsUpTo_false (k := k) (by simp only [stepAt, ht, h, Bool.not_true, Bool.and_false]) (get_lt ht), Bool.and_false]
set_option maxHeartbeats 4000000 in
theorem implDefRight (d : Def) (hd : d.fits) : Ent Try.prog 45 [.d (defD d)] [] (.d (.b (defOk d))) [] := by
  obtain ⟨u1, hu1⟩ : ∃ u, u = nameOk d.name := ⟨_, rfl⟩
  have c1 := implNameRight d.name hd.name
  rw [← hu1] at c1
  refine ent_of tok mixed (f := 45) Try.func45 (by kernel_rfl) (keep := false) ?_
  repeat' ((conv => whnf) <;> (first
    | (refine ⟨[29, 28, 27, 1], [10001], fun s => ∃ (k : Nat) (n : Int), n = k ∧ k ≤ d.steps.length ∧ stepsUpTo d.steps k = true ∧ s = ⟨[(29, .d (.i .i64 n)), (28, .d (.i .i64 ((d.steps.map stepD).length : Int))), (27, .d (.sl false (d.steps.map stepD))), (1, .ptr 10001 0)], [(10001, .var (AV.d (defD d)).cells)]⟩,
        fun s => match look 29 s.env with | some (.d (.i _ n)) => d.steps.length - n.toNat | _ => 0, rfl, ⟨0, _, rfl, Nat.zero_le _, rfl, rfl⟩, ?_⟩; rintro s ⟨k, n, rfl, hk, hu, rfl⟩)
    | (obtain ⟨t, ht⟩ := get_ex (k := k) (lt_of_dec (by assumption)); refine ⟨_, get_map' ht, ?_⟩)
    | (refine ⟨_, c1, ?_⟩; rintro _ _ ⟨rfl, rfl⟩)
    | (refine ⟨_, within _ _ _, ?_⟩; rintro _ _ ⟨rfl, rfl⟩)
    | (refine ⟨_, stepRight t (hd.steps _ (get_mem ht)), ?_⟩; rintro _ _ ⟨rfl, rfl⟩)
    | (refine ⟨_, contains_take d.steps hd.len k t, ?_⟩; rintro _ _ ⟨rfl, rfl⟩)
    | exact ⟨rfl, ⟨k + 1, _, step_up (get_lt ht) hd.len, get_lt ht, stepsUpTo_up hu ht (not_ok (by assumption)) (by assumption), rfl⟩, mu_up (get_lt ht) hd.len⟩
    | refine ⟨⟨none⟩, ?_⟩
    | refine Both.mk ?_ ?_
    | refine ⟨rfl, ?_⟩
    | refine ⟨⟨stepD_cells _, Nat.le_of_ble_eq_true rfl⟩, ?_⟩
    | refine ⟨Int.natCast_nonneg _, ?_⟩
    | refine ⟨⟨Int.natCast_nonneg _, (by rw [List.length_map]; have := lt_of_dec (by assumption); omega)⟩, ?_⟩
    | (split <;> (rename_i h; try rw [h]))))
  all_goals (conv => whnf)
  all_goals (refine ⟨congrArg (fun b => AV.d (D.b b)) ?_, rfl⟩)
  all_goals first
    | exact defOk_bad1 ht (not_ok' (by assumption))
    | exact defOk_bad2 ht (by assumption)
    | skip
  all_goals try simp only [wrap_len1 hd.len, List.length_map] at *
  · simp_all [defOk]
  · simp_all [defOk]
  · simp_all [defOk]
  · have e : k = d.steps.length := by have := of_decide_eq_false h; omega
    subst e
    simp_all [defOk]
set_option maxHeartbeats 4000000 in
theorem specDefRight (d : Def) (hd : d.fits) : Ent Try.prog 54 [.d (defD d)] [] (.d (.b (defOk d))) [] := by
  obtain ⟨u1, hu1⟩ : ∃ u, u = nameOk d.name := ⟨_, rfl⟩
  have c1 := specNameRight d.name hd.name
  rw [← hu1] at c1
  refine ent_of tok mixed (f := 54) Try.func54 (by kernel_rfl) (keep := false) ?_
  repeat' ((conv => whnf) <;> (first
    | (refine ⟨[4, 3, 1], [10001], fun s => ∃ (k : Nat) (n : Int), n = k ∧ k ≤ d.steps.length ∧ stepsUpTo d.steps k = true ∧ s = ⟨[(4, .d (.i .i64 n)), (3, .d (.i .i64 ((d.steps.map stepD).length : Int))), (1, .ptr 10001 0)], [(10001, .var (AV.d (defD d)).cells)]⟩,
        fun s => match look 4 s.env with | some (.d (.i _ n)) => d.steps.length - n.toNat | _ => 0, rfl, ⟨0, _, rfl, Nat.zero_le _, rfl, rfl⟩, ?_⟩; rintro s ⟨k, n, rfl, hk, hu, rfl⟩)
    | (refine ⟨[6, 5, 4, 3, 1], [10001, 10005], fun s => ∃ (m : Nat) (n : Int), n = m ∧ m ≤ k ∧ ((d.steps.take m).any (fun s => decide (s.name = t.name))) = false ∧ s = ⟨[(6, .d (.i .i64 n)), (5, .ptr 10005 0), (4, .d (.i .i64 (k : Int))), (3, .d (.i .i64 ((d.steps.map stepD).length : Int))), (1, .ptr 10001 0)], [(10001, .var (AV.d (defD d)).cells), (10005, .var (AV.d (stepD t)).cells)]⟩,
        fun s => match look 6 s.env with | some (.d (.i _ n)) => k - n.toNat | _ => 0, rfl, ⟨0, _, rfl, Nat.zero_le _, rfl, rfl⟩, ?_⟩; rintro s ⟨m, n, rfl, hm, hv, rfl⟩)
    | (obtain ⟨t2, ht2⟩ := get_ex (k := m) (Nat.lt_trans (lt_of_dec' (by assumption)) (get_lt ht)); refine ⟨_, get_map' ht2, ?_⟩)
    | (obtain ⟨t, ht⟩ := get_ex (k := k) (lt_of_dec (by assumption)); refine ⟨_, get_map' ht, ?_⟩)
    | (refine ⟨_, c1, ?_⟩; rintro _ _ ⟨rfl, rfl⟩)
    | (refine ⟨_, specNameRight _ (hd.steps _ (get_mem ht)).name, ?_⟩; rintro _ _ ⟨rfl, rfl⟩)
    | (refine ⟨_, specNameRight _ (hd.steps _ (get_mem ht)).act, ?_⟩; rintro _ _ ⟨rfl, rfl⟩)
    | (refine ⟨_, specNameRight _ (hd.steps _ (get_mem ht)).undo, ?_⟩; rintro _ _ ⟨rfl, rfl⟩)
    | (refine ⟨_, l12Nums _ _ _ _ _ _, ?_⟩; rintro _ _ ⟨rfl, rfl⟩)
    | exact ⟨rfl, ⟨m + 1, _, step_up (lt_of_dec' (by assumption)) (Nat.le_of_lt (Nat.lt_of_lt_of_le (get_lt ht) hd.len)), lt_of_dec' (by assumption), any_up' ht2 hv (by assumption), rfl⟩, mu_up (lt_of_dec' (by assumption)) (Nat.le_of_lt (Nat.lt_of_lt_of_le (get_lt ht) hd.len))⟩
    | (refine ⟨rfl, ⟨k + 1, _, step_up (get_lt ht) hd.len, get_lt ht, stepsUpTo_up hu ht ?_ (inner_done hm hv (by assumption)), rfl⟩, mu_up (get_lt ht) hd.len⟩
       simp_all [stepOk]; done)
    | refine ⟨⟨none⟩, ?_⟩
    | refine Both.mk ?_ ?_
    | refine ⟨rfl, ?_⟩
    | refine ⟨Int.natCast_nonneg _, ?_⟩
    | (split <;> (rename_i h; try rw [h]))))
  all_goals (conv => whnf)
  all_goals (refine ⟨congrArg (fun b => AV.d (D.b b)) ?_, rfl⟩)
  all_goals first
    | exact defOk_bad2 ht (any_at ht2 (lt_of_dec' (by assumption)) (by assumption))
    | exact defOk_bad1 ht (by simp_all [stepOk])
    | skip
  all_goals try simp only [List.length_map] at *
  · simp_all [defOk]
  · simp_all [defOk, inside]
    intros; omega
  · simp_all [defOk, inside]
    intros; omega
  · simp_all [defOk, inside]
    intros; omega
  · simp_all [defOk, inside]
    intros; omega
  · have e : k = d.steps.length := by have := of_decide_eq_false h; omega
    subst e
    simp_all [defOk, inside]
    omega
theorem ex_map {α : Type} {f : α → D} {q : α → Prop} : ∀ {xs : List D}, (∀ y, y ∈ xs → ∃ s, y = f s ∧ q s) → ∃ ss : List α, xs = ss.map f ∧ ∀ s, s ∈ ss → q s
  | [], _ => ⟨[], rfl, fun s h => by cases h⟩
  | x :: xs, h => by
    obtain ⟨s, rfl, hs⟩ := h x (List.mem_cons_self ..)
    obtain ⟨ss, rfl, hss⟩ := ex_map (xs := xs) fun y hy => h y (List.mem_cons_of_mem _ hy)
    refine ⟨s :: ss, rfl, fun t ht => ?_⟩
    rcases List.mem_cons.1 ht with rfl | ht
    · exact hs
    · exact hss t ht
def stepSh : Sh := .agg [.str, .str, .str, .int .i64, .int .i64, .int .i64]
theorem step_of {y : D} (h : stepSh.of y) : ∃ s : Step, y = stepD s ∧ s.fits := by
  simp only [stepSh, Sh.of, ofL] at h
  obtain ⟨cs, rfl, x0, r0, rfl, ⟨a, rfl, ha⟩, x1, r1, rfl, ⟨b, rfl, hb⟩, x2, r2, rfl, ⟨c, rfl, hc⟩, x3, r3, rfl, ⟨d, rfl, _⟩, x4, r4, rfl, ⟨e, rfl, _⟩, x5, r5, rfl, ⟨f, rfl, _⟩, rfl⟩ := h
  exact ⟨⟨a, b, c, d, e, f⟩, rfl, ⟨ha, hb, hc⟩⟩
theorem def_of {y : D} (h : (Sh.agg [.str, .sl stepSh, .int .i64]).of y) : ∃ d : Def, y = defD d ∧ d.fits := by
  simp only [Sh.of, ofL] at h
  obtain ⟨cs, rfl, x0, r0, rfl, ⟨a, rfl, ha⟩, x1, r1, rfl, ⟨b, rfl, hb, hl⟩, x2, r2, rfl, ⟨c, rfl, hc⟩, rfl⟩ := h
  obtain ⟨ss, rfl, hss⟩ := ex_map fun y hy => step_of (hb y hy)
  exact ⟨⟨a, ss, c⟩, rfl, ⟨ha, by simpa using hl, hss⟩⟩
end Go.Pm.Try
