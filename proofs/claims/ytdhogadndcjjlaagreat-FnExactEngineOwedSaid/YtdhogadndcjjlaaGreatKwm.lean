/-
A part of the proof (packed).
-/
import Derived.Test.YtdhogadndcjjlaaGreatKwl
namespace Go.Pm.Tryz
open Go Go.Proofs
set_option linter.unusedVariables false
set_option linter.unusedSimpArgs false
set_option maxRecDepth 100000
theorem bless_trans : ∀ {a b c : List UInt8}, Op.bytesLess a b = true → Op.bytesLess b c = true → Op.bytesLess a c = true
  | _, b, [], _, h => by cases b <;> simp [Op.bytesLess] at h
  | a, [], _ :: _, h, _ => by cases a <;> simp [Op.bytesLess] at h
  | [], _ :: _, _ :: _, _, _ => by simp [Op.bytesLess]
  | x :: a, y :: b, z :: c, h1, h2 => by
    simp only [Op.bytesLess, Bool.or_eq_true, Bool.and_eq_true, decide_eq_true_eq, beq_iff_eq] at h1 h2 ⊢
    rcases h1 with h1 | ⟨rfl, h1⟩
    · rcases h2 with h2 | ⟨rfl, h2⟩
      · exact .inl (UInt8.lt_trans h1 h2)
      · exact .inl h1
    · rcases h2 with h2 | ⟨rfl, h2⟩
      · exact .inl h2
      · exact .inr ⟨rfl, bless_trans h1 h2⟩
theorem cmpS_neg {a b : List UInt8} : cmpS a b < 0 ↔ Op.bytesLess a b = true := by
  unfold cmpS
  split
  · rename_i h; simp [h]
  · rename_i h
    split <;> simp [h]
theorem cmpI_neg {a b : Int} : cmpI a b < 0 ↔ a < b := by
  unfold cmpI
  split
  · rename_i h; simp [h]
  · rename_i h
    split <;> simp [h]
theorem cmpV_neg {a b : Val} : cmpV a b < 0 ↔ a.kind < b.kind ∨ (a.kind = b.kind ∧ (a.n < b.n ∨ (a.n = b.n ∧ Op.bytesLess a.text b.text = true))) := by
  have k0 := @cmpI_zero a.kind b.kind
  have n0 := @cmpI_zero a.n b.n
  have t0 := @cmpS_zero a.text b.text
  have k1 := @cmpI_neg a.kind b.kind
  have n1 := @cmpI_neg a.n b.n
  have t1 := @cmpS_neg a.text b.text
  simp only [cmpV, orI]
  by_cases h1 : cmpI a.kind b.kind = 0
  · rw [if_pos h1]
    have h1 := k0.1 h1
    by_cases h2 : cmpI a.n b.n = 0
    · rw [if_pos h2]
      have h2 := n0.1 h2
      by_cases h3 : cmpS a.text b.text = 0
      · rw [if_pos h3]
        have h3 := t0.1 h3
        rw [h3, less_irrefl]
        simp; omega
      · rw [if_neg h3, t1]
        constructor
        · exact fun h => .inr ⟨h1, .inr ⟨h2, h⟩⟩
        · rintro (h | ⟨_, h | ⟨_, h⟩⟩)
          · omega
          · omega
          · exact h
    · rw [if_neg h2, n1]
      constructor
      · exact fun h => .inr ⟨h1, .inl h⟩
      · rintro (h | ⟨_, h | ⟨h, _⟩⟩)
        · omega
        · exact h
        · exact absurd (n0.2 h) h2
  · rw [if_neg h1, k1]
    constructor
    · exact fun h => .inl h
    · rintro (h | ⟨h, _⟩)
      · exact h
      · exact absurd (k0.2 h) h1
theorem cmpV_trans {a b c : Val} (h1 : cmpV a b < 0) (h2 : cmpV b c < 0) : cmpV a c < 0 := by
  rw [cmpV_neg] at h1 h2 ⊢
  rcases h1 with h1 | ⟨e1, h1⟩
  · rcases h2 with h2 | ⟨e2, h2⟩
    · exact .inl (by omega)
    · exact .inl (by omega)
  · rcases h2 with h2 | ⟨e2, h2⟩
    · exact .inl (by omega)
    · refine .inr ⟨by omega, ?_⟩
      rcases h1 with h1 | ⟨e3, h1⟩
      · rcases h2 with h2 | ⟨e4, h2⟩
        · exact .inl (by omega)
        · exact .inl (by omega)
      · rcases h2 with h2 | ⟨e4, h2⟩
        · exact .inl (by omega)
        · exact .inr ⟨by omega, bless_trans h1 h2⟩
theorem cmpL_trans : ∀ {a b c : List Val}, cmpL a b < 0 → cmpL b c < 0 → cmpL a c < 0
  | _, b, [], _, h => by cases b <;> simp [cmpL] at h
  | a, [], _ :: _, h, _ => by cases a <;> simp [cmpL] at h
  | [], _ :: _, _ :: _, _, _ => by simp [cmpL]
  | x :: a, y :: b, z :: c, h1, h2 => by
    simp only [cmpL] at h1 h2 ⊢
    by_cases e1 : cmpV x y = 0
    · rw [if_pos e1] at h1
      have e1 := cmpV_zero.1 e1
      subst e1
      by_cases e2 : cmpV x z = 0
      · rw [if_pos e2] at h2 ⊢; exact cmpL_trans h1 h2
      · rw [if_neg e2] at h2 ⊢; exact h2
    · rw [if_neg e1] at h1
      by_cases e2 : cmpV y z = 0
      · have e2 := cmpV_zero.1 e2
        subst e2
        rw [if_neg e1]; exact h1
      · rw [if_neg e2] at h2
        have := cmpV_trans h1 h2
        rw [if_neg (by omega)]; exact this
def placeM (ks : List Int) (key : List Val) : List (List Val) → Nat → Nat
  | [], k => k
  | r :: rs, k => match decide (cmpL (pickM r ks) key < 0) with | true => placeM ks key rs (k + 1) | false => k
def atB (ks : List Int) (key : List Val) (rows : List (List Val)) (p : Nat) : Bool := match rows[p]? with | some r => decide (cmpL (pickM r ks) key = 0) | none => false
theorem place_next {ks : List Int} {key : List Val} {rows : List (List Val)} {k : Nat} {r : List Val} (hr : rows[k]? = some r) (h : decide (cmpL (pickM r ks) key < 0) = true) : placeM ks key (rows.drop k) k = placeM ks key (rows.drop (k + 1)) (k + 1) := by
  obtain ⟨hk, rfl⟩ := List.getElem?_eq_some_iff.1 hr
  rw [List.drop_eq_getElem_cons hk, placeM, h]
theorem place_here {ks : List Int} {key : List Val} {rows : List (List Val)} {k : Nat} {r : List Val} (hr : rows[k]? = some r) (h : decide (cmpL (pickM r ks) key < 0) = false) : placeM ks key (rows.drop k) k = k := by
  obtain ⟨hk, rfl⟩ := List.getElem?_eq_some_iff.1 hr
  rw [List.drop_eq_getElem_cons hk, placeM, h]
theorem place_end {ks : List Int} {key : List Val} {rows : List (List Val)} {k : Nat} (h : rows.length ≤ k) : placeM ks key (rows.drop k) k = k := by
  rw [List.drop_of_length_le h]; rfl
set_option maxHeartbeats 4000000 in
theorem specPlace (t : Tab) (ht : tableP t) (key : List Val) (hk : key.length ≤ maxLen) : Ent Tryz.prog 85 [.d (tabD t), .d (.sl false (key.map valD))] [] (.tup [.d (.i .i64 (placeM t.sch.keys key t.rows 0 : Nat)), .d (.b (atB t.sch.keys key t.rows (placeM t.sch.keys key t.rows 0)))]) [] := by
  obtain ⟨o, ho⟩ : ∃ o, o = placeM t.sch.keys key t.rows 0 := ⟨_, rfl⟩
  rw [← ho]
  have hl : t.rows.length ≤ maxLen := Nat.le_trans ht.most (by decide)
  have hkl := keys_len ht.sch
  have hin : ∀ {r : List Val} {k : Nat}, t.rows[k]? = some r → inRow r t.sch.keys := fun {r k} h => keys_in ht.sch (ht.rows k r h).bef.fit
  have hpm := pick_max ht.sch
  refine ent_of tok mixed (f := 85) Tryz.func85 (by kernel_rfl) (keep := false) ?_
  repeat' ((conv => whnf) <;> (first | ((with_reducible refine isCall ?_) <;> (first | (refine ⟨_, (specKey t.sch x hkl (hin hx)), ?_⟩; rintro _ _ ⟨rfl, rfl⟩) | (refine ⟨_, (l02Compare (pickM x t.sch.keys) key (hpm x) hk), ?_⟩; rintro _ _ ⟨rfl, rfl⟩) | (refine ⟨Int.natCast_nonneg _, ?_⟩) | fail)) | ((with_reducible refine isLoop ?_) <;> (first | (refine ⟨[1, 2, 6], [10002], fun st => ∃ (k : Nat) (i : Int), i = k ∧ o = placeM t.sch.keys key (t.rows.drop k) k ∧ st = ⟨[(1, .d (.sl false (key.map valD))), (2, .ptr 10002 0), (6, .d (.i .i64 i))], [(10002, .var (tabC t))]⟩, fun s' => match look 6 s'.env with | some (.d (.i _ n)) => t.rows.length - n.toNat | _ => 0, rfl, ⟨0, _, rfl, ho, rfl⟩, ?_⟩; rintro st ⟨k, i, rfl, hu, rfl⟩) | (refine ⟨Int.natCast_nonneg _, ?_⟩) | fail)) | ((with_reducible refine isCut ?_) <;> (first | refine ⟨⟨none⟩, ?_⟩)) | ((first | with_reducible refine isEx ?_ | with_reducible refine isAnd ?_ | with_reducible refine isOr ?_) <;> (first | ((with_reducible refine isGet (xs := t.rows.map rowD) (i := ((k : Nat) : Int).toNat) ?_); first | refine ⟨_, get_map' hx, ?_⟩ | (obtain ⟨x, hx⟩ := get_ex (ss := t.rows) (k := k) (lt_of_dec (by assumption)); refine ⟨_, get_map' hx, ?_⟩)) | (refine ⟨Int.natCast_nonneg _, ?_⟩) | ((with_reducible refine isSmall ?_) <;> (refine ⟨?_, ?_⟩; kernel_rfl)) | refine ⟨rfl, ?_⟩ | refine ⟨Int.natCast_nonneg _, ?_⟩)) | with_reducible refine Both.mk ?_ ?_ | rintro _ rfl | exact rfl | (split <;> (rename_i h; first | (simp only [beq_self_eq_true, eq_self, decide_true, Bool.not_true, Bool.false_eq_true] at h; done) | (try rw [h])))))
  all_goals try (exact absurd ((by assumption : decide ((k : Int) < ((t.rows.map rowD).length : Int)) = true).symm.trans (by assumption : decide ((k : Int) < ((t.rows.map rowD).length : Int)) = false)) (by decide))
  all_goals try (conv => whnf)
  all_goals first
    | exact ⟨⟨k + 1, _, step_up (get_lt hx) hl, hu.trans (place_next hx (by assumption)), rfl⟩, mu_up (get_lt hx) hl⟩
    | (rw [hu, place_here hx (by assumption), atB, hx]; exact ⟨rfl, rfl⟩)
    | (have hh := of_decide_eq_false (by assumption : decide ((k : Int) < ((t.rows.map rowD).length : Int)) = false)
       rw [List.length_map] at hh
       rw [hu, place_end (by omega), atB, List.getElem?_eq_none (by omega)]; exact ⟨rfl, rfl⟩)
    | trace_state
end Go.Pm.Tryz
namespace Go.Pm.Tryz
open Go Go.Proofs
set_option linter.unusedVariables false
set_option linter.unusedSimpArgs false
set_option maxRecDepth 100000
theorem l12In (x lo hi : Int) : Ent Tryz.prog 65 [.d (.i .i64 x), .d (.i .i64 lo), .d (.i .i64 hi)] [] (.d (.b (inside x lo hi))) [] := by
  refine ent_of tok mixed (f := 65) Tryz.func65 (by kernel_rfl) (keep := false) ?_
  repeat' ((conv => whnf) <;> (first
    | refine ⟨⟨none⟩, ?_⟩
    | refine Both.mk ?_ ?_
    | refine ⟨rfl, ?_⟩
    | (split <;> (rename_i h; try rw [h]))))
  all_goals (conv => whnf)
  all_goals (refine ⟨congrArg (fun b => AV.d (D.b b)) ?_, rfl⟩; simp [inside, *])
def nums (x y z : Int) : Bool := inside x 1 10 && (inside y 0 1000 && inside z 1 1000)
theorem l12Nums (a b c : List UInt8) (x y z : Int) : Ent Tryz.prog 105 [.d (.agg [.s a, .s b, .s c, .i .i64 x, .i .i64 y, .i .i64 z])] [] (.d (.b (nums x y z))) [] := by
  refine ent_of tok mixed (f := 105) Tryz.func105 (by kernel_rfl) (keep := false) ?_
  repeat' ((conv => whnf) <;> (first
    | refine ⟨⟨none⟩, ?_⟩
    | refine Both.mk ?_ ?_
    | refine ⟨rfl, ?_⟩
    | (refine ⟨_, l12In _ _ _, ?_⟩; rintro _ _ ⟨rfl, rfl⟩)
    | (split <;> (rename_i h; try rw [h]))))
  all_goals (conv => whnf)
  all_goals (refine ⟨congrArg (fun b => AV.d (D.b b)) ?_, rfl⟩; simp [nums, *])
theorem numbersRight (a b c : List UInt8) (x y z : Int) : Ent Tryz.prog 187 [.d (.agg [.s a, .s b, .s c, .i .i64 x, .i .i64 y, .i .i64 z])] [] (.d (.b (nums x y z))) [] := by
  refine ent_of tok mixed (f := 187) Tryz.func187 (by kernel_rfl) (keep := false) ?_
  repeat' ((conv => whnf) <;> (first
    | refine ⟨⟨none⟩, ?_⟩
    | refine Both.mk ?_ ?_
    | refine ⟨rfl, ?_⟩
    | (refine ⟨_, within _ _ _, ?_⟩; rintro _ _ ⟨rfl, rfl⟩)
    | (split <;> (rename_i h; try rw [h]))))
  all_goals (conv => whnf)
  all_goals (refine ⟨congrArg (fun b => AV.d (D.b b)) ?_, rfl⟩; simp [nums, *])
structure Step where
  name : List UInt8
  act : List UInt8
  undo : List UInt8
  tries : Int
  back : Int
  out : Int
def stepD (s : Step) : D := .agg [.s s.name, .s s.act, .s s.undo, .i .i64 s.tries, .i .i64 s.back, .i .i64 s.out]
structure Step.fits (s : Step) : Prop where
  name : s.name.length ≤ maxLen
  act : s.act.length ≤ maxLen
  undo : s.undo.length ≤ maxLen
def stepOk (s : Step) : Bool := ((nameOk s.name && nameOk s.act) && (decide (s.undo = []) || nameOk s.undo)) && nums s.tries s.back s.out
set_option maxHeartbeats 4000000 in
theorem stepRight (s : Step) (hs : s.fits) : Ent Tryz.prog 155 [.d (stepD s)] [] (.d (.b (stepOk s))) [] := by
  obtain ⟨u1, hu1⟩ : ∃ u, u = nameOk s.name := ⟨_, rfl⟩
  obtain ⟨u2, hu2⟩ : ∃ u, u = nameOk s.act := ⟨_, rfl⟩
  obtain ⟨u3, hu3⟩ : ∃ u, u = nameOk s.undo := ⟨_, rfl⟩
  obtain ⟨u4, hu4⟩ : ∃ u, u = nums s.tries s.back s.out := ⟨_, rfl⟩
  have c1 := implNameRight s.name hs.name
  have c2 := implNameRight s.act hs.act
  have c3 := implNameRight s.undo hs.undo
  have c4 := numbersRight s.name s.act s.undo s.tries s.back s.out
  rw [← hu1] at c1
  rw [← hu2] at c2
  rw [← hu3] at c3
  rw [← hu4] at c4
  have e : stepOk s = (((u1 && u2) && (decide (s.undo = []) || u3)) && u4) := by rw [stepOk, hu1, hu2, hu3, hu4]
  rw [e]
  refine ent_of tok mixed (f := 155) Tryz.func155 (by kernel_rfl) (keep := false) ?_
  clear e hu1 hu2 hu3 hu4
  cases u1 <;> cases u2 <;> cases u3 <;> cases u4
  all_goals (repeat' ((conv => whnf) <;> (first
    | refine ⟨⟨none⟩, ?_⟩
    | refine Both.mk ?_ ?_
    | refine ⟨rfl, ?_⟩
    | (refine ⟨_, c1, ?_⟩; rintro _ _ ⟨rfl, rfl⟩)
    | (refine ⟨_, c2, ?_⟩; rintro _ _ ⟨rfl, rfl⟩)
    | (refine ⟨_, c3, ?_⟩; rintro _ _ ⟨rfl, rfl⟩)
    | (refine ⟨_, c4, ?_⟩; rintro _ _ ⟨rfl, rfl⟩)
    | (split <;> (rename_i h; try rw [h])))))
  all_goals (conv => whnf)
  all_goals (refine ⟨congrArg (fun b => AV.d (D.b b)) ?_, rfl⟩; simp_all)
theorem sameName (s t : Step) : Ent Tryz.prog 157 [.d (stepD s), .ptr 0 0] [.var ((AV.d (stepD t)).cells)] (.d (.b (decide (s.name = t.name)))) [.var ((AV.d (stepD t)).cells)] := by
  refine ent_of tok mixed (f := 157) Tryz.func157 (by kernel_rfl) (keep := false) ?_
  repeat' ((conv => whnf) <;> (first
    | refine ⟨⟨none⟩, ?_⟩
    | refine Both.mk ?_ ?_
    | refine ⟨rfl, ?_⟩
    | exact rfl
    | (split <;> (rename_i h; try rw [h]))))
theorem index (ss : List Step) (hs : ss.length ≤ maxLen) (t : Step) : EntQ Tryz.prog 188 [.d (.sl false (ss.map stepD)), .fn 157 [.ptr 0 0]] [.var ((AV.d (stepD t)).cells)]
    (fun R O => ∃ n : Int, R = .d (.i .i64 n) ∧ O = [.var ((AV.d (stepD t)).cells)] ∧ decide (n ≥ 0) = ss.any (fun s => decide (s.name = t.name))) := by
  refine ent_of tok mixed (f := 188) Tryz.func188 (by kernel_rfl) (keep := false) ?_
  repeat' ((conv => whnf) <;> (first
    | (refine ⟨[8, 7, 0, 1], [0], fun s => ∃ (k : Nat) (n : Int), n = k ∧ k ≤ ss.length ∧ ((ss.take k).any (fun s => decide (s.name = t.name))) = false ∧ s = ⟨[(8, .d (.i .i64 n)), (7, .d (.i .i64 ((ss.map stepD).length : Int))), (0, .d (.sl false (ss.map stepD))), (1, .fn 157 [.ptr 0 0])], [(0, .var ((AV.d (stepD t)).cells))]⟩,
        fun s => match look 8 s.env with | some (.d (.i _ n)) => ss.length - n.toNat | _ => 0, rfl, ⟨0, _, rfl, Nat.zero_le _, rfl, rfl⟩, ?_⟩; rintro s ⟨k, n, rfl, hk, hu, rfl⟩)
    | (refine ⟨_, get_map (k := k) (lt_of_dec (by assumption)), ?_⟩)
    | refine ⟨⟨none⟩, ?_⟩
    | refine Both.mk ?_ ?_
    | refine ⟨rfl, ?_⟩
    | refine ⟨Int.natCast_nonneg _, ?_⟩
    | (refine ⟨_, sameName _ t, ?_⟩; rintro _ _ ⟨rfl, rfl⟩)
    | (split <;> (rename_i h; try rw [h]))))
  all_goals (conv => whnf)
  · refine ⟨_, rfl, rfl, ?_⟩
    rw [show decide ((k : Int) ≥ 0) = true from decide_eq_true (Int.natCast_nonneg k)]
    symm
    rw [List.any_eq_true]
    exact ⟨ss[k]'(lt_of_dec (by assumption)), List.getElem_mem _, by assumption⟩
  · exact ⟨⟨k + 1, _, step_up (lt_of_dec (by assumption)) hs, lt_of_dec (by assumption), any_up (lt_of_dec (by assumption)) hu (by assumption), rfl⟩, mu_up (lt_of_dec (by assumption)) hs⟩
  · refine ⟨_, rfl, rfl, ?_⟩
    have e : k = ss.length := by
      rename_i h
      have := of_decide_eq_false h
      rw [List.length_map] at this
      omega
    rw [e, List.take_length] at hu
    rw [hu]
    rfl
theorem contains (ss : List Step) (hs : ss.length ≤ maxLen) (t : Step) : Ent Tryz.prog 156 [.d (.sl false (ss.map stepD)), .fn 157 [.ptr 0 0]] [.var ((AV.d (stepD t)).cells)]
    (.d (.b (ss.any (fun s => decide (s.name = t.name))))) [.var ((AV.d (stepD t)).cells)] := by
  refine ent_of tok mixed (f := 156) Tryz.func156 (by kernel_rfl) (keep := false) ?_
  repeat' ((conv => whnf) <;> (first
    | (refine ⟨_, index ss hs t, ?_⟩; rintro _ _ ⟨n, rfl, rfl, hn⟩; rw [← hn])
    | refine ⟨⟨none⟩, ?_⟩
    | refine Both.mk ?_ ?_
    | refine ⟨rfl, ?_⟩
    | exact rfl
    | (split <;> (rename_i h; try rw [h]))))
structure Def where
  name : List UInt8
  steps : List Step
  pivot : Int
def defD (d : Def) : D := .agg [.s d.name, .sl false (d.steps.map stepD), .i .i64 d.pivot]
structure Def.fits (d : Def) : Prop where
  name : d.name.length ≤ maxLen
  len : d.steps.length ≤ maxLen
  steps : ∀ s, s ∈ d.steps → s.fits
theorem any_at {α : Type} {p : α → Bool} {ss : List α} {k m : Nat} {t : α} (h : ss[m]? = some t) (hm : m < k) (h2 : p t = true) : (ss.take k).any p = true := by
  rw [List.any_eq_true]
  refine ⟨t, ?_, h2⟩
  refine List.mem_of_getElem? (i := m) ?_
  rw [List.getElem?_take, if_pos hm]; exact h
theorem inner_done {α : Type} {p : α → Bool} {ss : List α} {k m : Nat} (hm : m ≤ k) (h : (ss.take m).any p = false) (h1 : decide ((m : Int) < (k : Int)) = false) : (ss.take k).any p = false := by
  have := of_decide_eq_false h1
  have e : m = k := by omega
  rw [← e]; exact h
theorem wrap_len1 {n : Nat} (h : n ≤ maxLen) : IntKind.i64.wrap ((n : Int) - 1) = (n : Int) - 1 := by
  have : maxLen = 9223372036854775807 := rfl
  exact wrap_i64_id _ (by omega) (by omega)
def stepAt (ss : List Step) (k : Nat) : Bool := match ss[k]? with | none => true | some s => stepOk s && !((ss.take k).any (fun t => decide (t.name = s.name)))
def stepsUpTo (ss : List Step) : Nat → Bool
  | 0 => true
  | k + 1 => stepsUpTo ss k && stepAt ss k
def defOk (d : Def) : Bool := ((nameOk d.name && inside d.steps.length 1 8) && inside d.pivot (-1) (d.steps.length - 1)) && stepsUpTo d.steps d.steps.length
theorem stepsUpTo_false {ss : List Step} {k : Nat} (h : stepAt ss k = false) : ∀ {n : Nat}, k < n → stepsUpTo ss n = false
  | 0, hk => by omega
  | n + 1, hk => by
    simp only [stepsUpTo]
    by_cases e : k = n
    · subst e; rw [h, Bool.and_false]
    · rw [stepsUpTo_false h (by omega), Bool.false_and]
theorem stepD_cells (ss : List Step) : ∀ x, x ∈ ss.map stepD → x.cells.length = 6 := by
  intro x hx
  obtain ⟨t, _, rfl⟩ := List.mem_map.1 hx
  rfl
theorem contains_take (ss : List Step) (hs : ss.length ≤ maxLen) (k : Nat) (t : Step) : Ent Tryz.prog 156 [.d (.sl false ((ss.map stepD).take k)), .fn 157 [.ptr 0 0]] [.var ((AV.d (stepD t)).cells)]
    (.d (.b ((ss.take k).any (fun s => decide (s.name = t.name))))) [.var ((AV.d (stepD t)).cells)] := by
  rw [← List.map_take]
  exact contains (ss.take k) (Nat.le_trans (List.length_take_le' _ _) hs) t
theorem stepsUpTo_up {ss : List Step} {k : Nat} {t : Step} (h : stepsUpTo ss k = true) (ht : ss[k]? = some t) (h1 : stepOk t = true)
    (h2 : (ss.take k).any (fun s => decide (s.name = t.name)) = false) : stepsUpTo ss (k + 1) = true := by
  simp only [stepsUpTo, h, Bool.true_and, stepAt, ht, h1, h2, Bool.not_false]
theorem defOk_bad1 {d : Def} {k : Nat} {t : Step} (ht : d.steps[k]? = some t) (h : stepOk t = false) : false = defOk d := by
  rw [defOk, stepsUpTo_false (k := k) (by simp only [stepAt, ht, h, Bool.false_and]) (get_lt ht), Bool.and_false]
theorem defOk_bad2 {d : Def} {k : Nat} {t : Step} (ht : d.steps[k]? = some t) (h : (d.steps.take k).any (fun s => decide (s.name = t.name)) = true) : false = defOk d := by
  rw [defOk, stepsUpTo_false (k := k) (by simp only [stepAt, ht, h, Bool.not_true, Bool.and_false]) (get_lt ht), Bool.and_false]
set_option maxHeartbeats 4000000 in
theorem implDefRight (d : Def) (hd : d.fits) : Ent Tryz.prog 125 [.d (defD d)] [] (.d (.b (defOk d))) [] := by
  obtain ⟨u1, hu1⟩ : ∃ u, u = nameOk d.name := ⟨_, rfl⟩
  have c1 := implNameRight d.name hd.name
  rw [← hu1] at c1
  refine ent_of tok mixed (f := 125) Tryz.func125 (by kernel_rfl) (keep := false) ?_
  repeat' ((conv => whnf) <;> (first
    | (refine ⟨[29, 28, 27, 1], [10001], fun s => ∃ (k : Nat) (n : Int), n = k ∧ k ≤ d.steps.length ∧ stepsUpTo d.steps k = true ∧ s = ⟨[(29, .d (.i .i64 n)), (28, .d (.i .i64 ((d.steps.map stepD).length : Int))), (27, .d (.sl false (d.steps.map stepD))), (1, .ptr 10001 0)], [(10001, .var (AV.d (defD d)).cells)]⟩,
        fun s => match look 29 s.env with | some (.d (.i _ n)) => d.steps.length - n.toNat | _ => 0, rfl, ⟨0, _, rfl, Nat.zero_le _, rfl, rfl⟩, ?_⟩; rintro s ⟨k, n, rfl, hk, hu, rfl⟩)
    | (obtain ⟨t, ht⟩ := get_ex (k := k) (lt_of_dec (by assumption)); refine ⟨_, get_map' ht, ?_⟩)
    | (refine ⟨_, c1, ?_⟩; rintro _ _ ⟨rfl, rfl⟩)
    | (refine ⟨_, within _ _ _, ?_⟩; rintro _ _ ⟨rfl, rfl⟩)
    | (refine ⟨_, stepRight t (hd.steps _ (get_mem ht)), ?_⟩; rintro _ _ ⟨rfl, rfl⟩)
    | (refine ⟨_, contains_take d.steps hd.len k t, ?_⟩; rintro _ _ ⟨rfl, rfl⟩)
    | exact ⟨rfl, ⟨k + 1, _, step_up (get_lt ht) hd.len, get_lt ht, stepsUpTo_up hu ht (not_ok (by assumption)) (by assumption), rfl⟩, mu_up (get_lt ht) hd.len⟩
    | refine ⟨⟨none⟩, ?_⟩
    | refine Both.mk ?_ ?_
    | refine ⟨rfl, ?_⟩
    | refine ⟨⟨stepD_cells _, Nat.le_of_ble_eq_true rfl⟩, ?_⟩
    | refine ⟨Int.natCast_nonneg _, ?_⟩
    | refine ⟨⟨Int.natCast_nonneg _, (by rw [List.length_map]; have := lt_of_dec (by assumption); omega)⟩, ?_⟩
    | (split <;> (rename_i h; try rw [h]))))
  all_goals (conv => whnf)
  all_goals (refine ⟨congrArg (fun b => AV.d (D.b b)) ?_, rfl⟩)
  all_goals first
    | exact defOk_bad1 ht (not_ok' (by assumption))
    | exact defOk_bad2 ht (by assumption)
    | skip
  all_goals try simp only [wrap_len1 hd.len, List.length_map] at *
  · simp_all [defOk]
  · simp_all [defOk]
  · simp_all [defOk]
  · have e : k = d.steps.length := by have := of_decide_eq_false h; omega
    subst e
    simp_all [defOk]
set_option maxHeartbeats 4000000 in
theorem specDefRight (d : Def) (hd : d.fits) : Ent Tryz.prog 63 [.d (defD d)] [] (.d (.b (defOk d))) [] := by
  obtain ⟨u1, hu1⟩ : ∃ u, u = nameOk d.name := ⟨_, rfl⟩
  have c1 := specNameRight d.name hd.name
  rw [← hu1] at c1
  refine ent_of tok mixed (f := 63) Tryz.func63 (by kernel_rfl) (keep := false) ?_
  repeat' ((conv => whnf) <;> (first
    | (refine ⟨[4, 3, 1], [10001], fun s => ∃ (k : Nat) (n : Int), n = k ∧ k ≤ d.steps.length ∧ stepsUpTo d.steps k = true ∧ s = ⟨[(4, .d (.i .i64 n)), (3, .d (.i .i64 ((d.steps.map stepD).length : Int))), (1, .ptr 10001 0)], [(10001, .var (AV.d (defD d)).cells)]⟩,
        fun s => match look 4 s.env with | some (.d (.i _ n)) => d.steps.length - n.toNat | _ => 0, rfl, ⟨0, _, rfl, Nat.zero_le _, rfl, rfl⟩, ?_⟩; rintro s ⟨k, n, rfl, hk, hu, rfl⟩)
    | (refine ⟨[6, 5, 4, 3, 1], [10001, 10005], fun s => ∃ (m : Nat) (n : Int), n = m ∧ m ≤ k ∧ ((d.steps.take m).any (fun s => decide (s.name = t.name))) = false ∧ s = ⟨[(6, .d (.i .i64 n)), (5, .ptr 10005 0), (4, .d (.i .i64 (k : Int))), (3, .d (.i .i64 ((d.steps.map stepD).length : Int))), (1, .ptr 10001 0)], [(10001, .var (AV.d (defD d)).cells), (10005, .var (AV.d (stepD t)).cells)]⟩,
        fun s => match look 6 s.env with | some (.d (.i _ n)) => k - n.toNat | _ => 0, rfl, ⟨0, _, rfl, Nat.zero_le _, rfl, rfl⟩, ?_⟩; rintro s ⟨m, n, rfl, hm, hv, rfl⟩)
    | (obtain ⟨t2, ht2⟩ := get_ex (k := m) (Nat.lt_trans (lt_of_dec' (by assumption)) (get_lt ht)); refine ⟨_, get_map' ht2, ?_⟩)
    | (obtain ⟨t, ht⟩ := get_ex (k := k) (lt_of_dec (by assumption)); refine ⟨_, get_map' ht, ?_⟩)
    | (refine ⟨_, c1, ?_⟩; rintro _ _ ⟨rfl, rfl⟩)
    | (refine ⟨_, specNameRight _ (hd.steps _ (get_mem ht)).name, ?_⟩; rintro _ _ ⟨rfl, rfl⟩)
    | (refine ⟨_, specNameRight _ (hd.steps _ (get_mem ht)).act, ?_⟩; rintro _ _ ⟨rfl, rfl⟩)
    | (refine ⟨_, specNameRight _ (hd.steps _ (get_mem ht)).undo, ?_⟩; rintro _ _ ⟨rfl, rfl⟩)
    | (refine ⟨_, l12Nums _ _ _ _ _ _, ?_⟩; rintro _ _ ⟨rfl, rfl⟩)
    | exact ⟨rfl, ⟨m + 1, _, step_up (lt_of_dec' (by assumption)) (Nat.le_of_lt (Nat.lt_of_lt_of_le (get_lt ht) hd.len)), lt_of_dec' (by assumption), any_up' ht2 hv (by assumption), rfl⟩, mu_up (lt_of_dec' (by assumption)) (Nat.le_of_lt (Nat.lt_of_lt_of_le (get_lt ht) hd.len))⟩
    | (refine ⟨rfl, ⟨k + 1, _, step_up (get_lt ht) hd.len, get_lt ht, stepsUpTo_up hu ht ?_ (inner_done hm hv (by assumption)), rfl⟩, mu_up (get_lt ht) hd.len⟩
       simp_all [stepOk]; done)
    | refine ⟨⟨none⟩, ?_⟩
    | refine Both.mk ?_ ?_
    | refine ⟨rfl, ?_⟩
    | refine ⟨Int.natCast_nonneg _, ?_⟩
    | (split <;> (rename_i h; try rw [h]))))
  all_goals (conv => whnf)
  all_goals (refine ⟨congrArg (fun b => AV.d (D.b b)) ?_, rfl⟩)
  all_goals first
    | exact defOk_bad2 ht (any_at ht2 (lt_of_dec' (by assumption)) (by assumption))
    | exact defOk_bad1 ht (by simp_all [stepOk])
    | skip
  all_goals try simp only [List.length_map] at *
  · simp_all [defOk]
  · simp_all [defOk, inside]
    intros; omega
  · simp_all [defOk, inside]
    intros; omega
  · simp_all [defOk, inside]
    intros; omega
  · simp_all [defOk, inside]
    intros; omega
  · have e : k = d.steps.length := by have := of_decide_eq_false h; omega
    subst e
    simp_all [defOk, inside]
    omega
end Go.Pm.Tryz
namespace Go.Pm.Tryz
open Go Go.Proofs
set_option linter.unusedVariables false
set_option linter.unusedSimpArgs false
set_option maxRecDepth 100000
structure Saga where
  ph : Int
  done : Int
  pos : Int
  tries : Int
  waits : Bool
  clock : Int
def sagaD (s : Saga) : D := .agg [.i .i64 s.ph, .i .i64 s.done, .i .i64 s.pos, .i .i64 s.tries, .b s.waits, .i .i64 s.clock]
def owing (t : Step) (s : Saga) : Bool := (inside s.clock 0 2000000000 && inside s.tries 1 t.tries) && (s.waits || decide (s.tries < t.tries))
theorem specTries (d : Def) (s : Saga) (t : Step) (h0 : 0 ≤ s.pos) (ht : d.steps[s.pos.toNat]? = some t) : Ent Tryz.prog 106 [.d (defD d), .d (sagaD s)] [] (.d (.b (owing t s))) [] := by
  refine ent_of tok mixed (f := 106) Tryz.func106 (by kernel_rfl) (keep := false) ?_
  repeat' ((conv => whnf) <;> (first
    | refine ⟨⟨none⟩, ?_⟩
    | refine Both.mk ?_ ?_
    | refine ⟨rfl, ?_⟩
    | exact rfl
    | (refine ⟨_, get_map' ht, ?_⟩)
    | refine ⟨h0, ?_⟩
    | (refine ⟨_, l12In _ _ _, ?_⟩; rintro _ _ ⟨rfl, rfl⟩)
    | (split <;> (rename_i h; try rw [h]))))
  all_goals (conv => whnf)
  all_goals (refine ⟨congrArg (fun b => AV.d (D.b b)) ?_, rfl⟩)
  all_goals simp_all [owing]
theorem implOwing (d : Def) (s : Saga) (t : Step) (h0 : 0 ≤ s.pos) (ht : d.steps[s.pos.toNat]? = some t) (hr : stepOk t = true) : Ent Tryz.prog 126 [.d (defD d), .d (sagaD s)] [] (.d (.b (owing t s))) [] := by
  have e1 : IntKind.i64.wrap (t.tries - 1) = t.tries - 1 := by
    simp only [stepOk, nums, inside, Bool.and_eq_true, decide_eq_true_eq] at hr
    exact wrap_i64_id _ (by omega) (by omega)
  refine ent_of tok mixed (f := 126) Tryz.func126 (by kernel_rfl) (keep := false) ?_
  repeat' ((conv => whnf) <;> (first
    | refine ⟨⟨none⟩, ?_⟩
    | refine Both.mk ?_ ?_
    | refine ⟨rfl, ?_⟩
    | exact rfl
    | (refine ⟨_, get_map' ht, ?_⟩)
    | refine ⟨h0, ?_⟩
    | (refine ⟨_, within _ _ _, ?_⟩; rintro _ _ ⟨rfl, rfl⟩)
    | (split <;> (rename_i h; try rw [h]))))
  all_goals (conv => whnf)
  all_goals (refine ⟨congrArg (fun b => AV.d (D.b b)) ?_, rfl⟩)
  all_goals simp only [e1] at *
  all_goals simp_all [owing, inside]
  all_goals first | omega | (rw [Bool.eq_iff_iff]; simp; omega)
def undoAt (d : Def) (k : Int) : Bool := match d.steps[k.toNat]? with | some t => !decide (t.undo = []) | none => false
def turned (d : Def) (s : Saga) : Bool := inside s.done 0 ((d.steps.length : Int) - 1) && (decide (d.pivot < 0) || decide (s.done ≤ d.pivot))
def back (d : Def) (s : Saga) : Bool := (turned d s && inside s.pos 0 (s.done - 1)) && undoAt d s.pos
theorem undoAt_get {d : Def} {k : Int} {t : Step} (h : d.steps[k.toNat]? = some t) : undoAt d k = !decide (t.undo = []) := by simp only [undoAt, h]
theorem specBack (d : Def) (s : Saga) : Ent Tryz.prog 107 [.d (defD d), .d (sagaD s)] [] (.d (.b (back d s))) [] := by
  refine ent_of tok mixed (f := 107) Tryz.func107 (by kernel_rfl) (keep := false) ?_
  repeat' ((conv => whnf) <;> (first
    | refine ⟨⟨none⟩, ?_⟩
    | refine Both.mk ?_ ?_
    | refine ⟨rfl, ?_⟩
    | exact rfl
    | (obtain ⟨t, ht⟩ := get_ex (ss := d.steps) (k := s.pos.toNat) (by simp only [List.length_map, decide_eq_true_eq] at *; omega); refine ⟨_, get_map' ht, ?_⟩)
    | refine ⟨by simp only [decide_eq_true_eq] at *; omega, ?_⟩
    | (split <;> (rename_i h; try rw [h]))))
  all_goals (conv => whnf)
  all_goals (refine ⟨congrArg (fun b => AV.d (D.b b)) ?_, rfl⟩)
  all_goals try simp only [List.length_map] at *
  all_goals simp_all [back, turned, inside, undoAt]
  all_goals (intros; omega)
theorem implTurned (d : Def) (s : Saga) (hd : d.steps.length ≤ maxLen) : Ent Tryz.prog 128 [.d (defD d), .d (sagaD s)] [] (.d (.b (turned d s))) [] := by
  refine ent_of tok mixed (f := 128) Tryz.func128 (by kernel_rfl) (keep := false) ?_
  repeat' ((conv => whnf) <;> (first
    | refine ⟨⟨none⟩, ?_⟩
    | refine Both.mk ?_ ?_
    | refine ⟨rfl, ?_⟩
    | exact rfl
    | (refine ⟨_, within _ _ _, ?_⟩; rintro _ _ ⟨rfl, rfl⟩)
    | (split <;> (rename_i h; try rw [h]))))
  all_goals (conv => whnf)
  all_goals (refine ⟨congrArg (fun b => AV.d (D.b b)) ?_, rfl⟩)
  all_goals simp only [wrap_len1 hd, List.length_map] at *
  all_goals simp_all [turned]
  all_goals (intros; omega)
theorem implBack (d : Def) (s : Saga) (hd : d.steps.length ≤ maxLen) : Ent Tryz.prog 127 [.d (defD d), .d (sagaD s)] [] (.d (.b (back d s))) [] := by
  obtain ⟨u, hu⟩ : ∃ u, u = turned d s := ⟨_, rfl⟩
  have c1 := implTurned d s hd
  rw [← hu] at c1
  have e1 : u = true → IntKind.i64.wrap (s.done - 1) = s.done - 1 := by
    intro h
    rw [h] at hu
    have hu := hu.symm
    simp only [turned, inside, Bool.and_eq_true, decide_eq_true_eq] at hu
    have : maxLen = 9223372036854775807 := rfl
    exact wrap_i64_id _ (by omega) (by omega)
  refine ent_of tok mixed (f := 127) Tryz.func127 (by kernel_rfl) (keep := false) ?_
  repeat' ((conv => whnf) <;> (first
    | refine ⟨⟨none⟩, ?_⟩
    | refine Both.mk ?_ ?_
    | refine ⟨rfl, ?_⟩
    | exact rfl
    | (obtain ⟨t, ht⟩ := get_ex (ss := d.steps) (k := s.pos.toNat) (by simp_all [turned, inside]; omega); refine ⟨_, get_map' ht, ?_⟩)
    | (refine ⟨_, c1, ?_⟩; rintro _ _ ⟨rfl, rfl⟩)
    | (refine ⟨_, within _ _ _, ?_⟩; rintro _ _ ⟨rfl, rfl⟩)
    | (refine ⟨(?_ : 0 ≤ s.pos), ?_⟩; · simp_all [inside])
    | (split <;> (rename_i h; try rw [h]))))
  all_goals (conv => whnf)
  all_goals (refine ⟨congrArg (fun b => AV.d (D.b b)) ?_, rfl⟩)
  all_goals simp_all [back, inside, undoAt]
  all_goals (intros; omega)
def quiet (s : Saga) : Bool := (decide (s.tries = 0) && decide (s.clock = 0)) && !s.waits
def owingAt (d : Def) (s : Saga) : Bool := match d.steps[s.pos.toNat]? with | some t => owing t s | none => false
def sagaOk1 (d : Def) (s : Saga) : Bool :=
  if s.ph = 1 then (decide (s.pos = s.done) && inside s.pos 0 ((d.steps.length : Int) - 1)) && owingAt d s
  else if s.ph = 2 then back d s && owingAt d s
  else if s.ph = 3 then (decide (s.done = d.steps.length) && decide (s.pos = 0)) && quiet s
  else if s.ph = 4 then (turned d s && decide (s.pos = 0)) && quiet s
  else if s.ph = 5 then (((decide (s.pos = s.done) && decide (d.pivot ≥ 0)) && inside s.pos (d.pivot + 1) ((d.steps.length : Int) - 1)) || back d s) && quiet s
  else false
theorem owingAt_get {d : Def} {s : Saga} {t : Step} (h : d.steps[s.pos.toNat]? = some t) : owingAt d s = owing t s := by simp only [owingAt, h]
theorem back_pos {d : Def} {s : Saga} (h : back d s = true) : 0 ≤ s.pos ∧ s.pos < d.steps.length := by
  simp only [back, turned, inside, Bool.and_eq_true, decide_eq_true_eq] at h
  omega
theorem step_at {d : Def} {s : Saga} (h0 : 0 ≤ s.pos) (h1 : s.pos < d.steps.length) : ∃ t, d.steps[s.pos.toNat]? = some t := get_ex (by omega)
theorem specTries' {d : Def} {s : Saga} (h0 : 0 ≤ s.pos) (h1 : s.pos < d.steps.length) : Ent Tryz.prog 106 [.d (defD d), .d (sagaD s)] [] (.d (.b (owingAt d s))) [] := by
  obtain ⟨t, ht⟩ := step_at h0 h1
  rw [owingAt_get ht]
  exact specTries d s t h0 ht
theorem stepOk_of {d : Def} (hd : defOk d = true) {k : Nat} {t : Step} (ht : d.steps[k]? = some t) : stepOk t = true := by
  cases h : stepOk t with
  | true => rfl
  | false => rw [← defOk_bad1 ht h] at hd; cases hd
theorem implOwing' {d : Def} {s : Saga} (hd : defOk d = true) (h0 : 0 ≤ s.pos) (h1 : s.pos < d.steps.length) : Ent Tryz.prog 126 [.d (defD d), .d (sagaD s)] [] (.d (.b (owingAt d s))) [] := by
  obtain ⟨t, ht⟩ := step_at h0 h1
  rw [owingAt_get ht]
  exact implOwing d s t h0 ht (stepOk_of hd ht)
set_option maxHeartbeats 4000000 in
theorem specSaga (d : Def) (s : Saga) : Ent Tryz.prog 64 [.d (defD d), .d (sagaD s)] [] (.d (.b (sagaOk1 d s))) [] := by
  obtain ⟨u, hu⟩ : ∃ u, u = back d s := ⟨_, rfl⟩
  have c1 := specBack d s
  rw [← hu] at c1
  obtain ⟨u2, hu2⟩ : ∃ u, u = owingAt d s := ⟨_, rfl⟩
  have c2 : 0 ≤ s.pos → s.pos < d.steps.length → Ent Tryz.prog 106 [.d (defD d), .d (sagaD s)] [] (.d (.b u2)) [] := by rw [hu2]; exact specTries'
  refine ent_of tok mixed (f := 64) Tryz.func64 (by kernel_rfl) (keep := false) ?_
  repeat' ((conv => whnf) <;> (first
    | refine ⟨⟨none⟩, ?_⟩
    | refine Both.mk ?_ ?_
    | refine ⟨rfl, ?_⟩
    | exact rfl
    | (refine ⟨_, c1, ?_⟩; rintro _ _ ⟨rfl, rfl⟩)
    | (refine ⟨_, c2 (back_pos hu.symm).1 (back_pos hu.symm).2, ?_⟩; rintro _ _ ⟨rfl, rfl⟩)
    | (refine ⟨_, c2 (by simp only [List.length_map, decide_eq_true_eq] at *; omega) (by simp only [List.length_map, decide_eq_true_eq] at *; omega), ?_⟩; rintro _ _ ⟨rfl, rfl⟩)
    | (split <;> (rename_i h; try rw [h]))))
  all_goals (conv => whnf)
  all_goals (refine ⟨congrArg (fun b => AV.d (D.b b)) ?_, rfl⟩)
  all_goals clear c1 c2
  all_goals try simp only [List.length_map] at *
  all_goals simp_all [sagaOk1, inside, turned, quiet]
  all_goals try omega
set_option maxHeartbeats 4000000 in
theorem implSaga (d : Def) (s : Saga) (hd : defOk d = true) : Ent Tryz.prog 77 [.d (defD d), .d (sagaD s)] [] (.d (.b (sagaOk1 d s))) [] := by
  have hn : 1 ≤ d.steps.length ∧ d.steps.length ≤ 8 ∧ -1 ≤ d.pivot ∧ d.pivot ≤ 7 := by
    simp only [defOk, inside, Bool.and_eq_true, decide_eq_true_eq] at hd
    omega
  have hm : d.steps.length ≤ maxLen := Nat.le_trans hn.2.1 (Nat.le_of_ble_eq_true rfl)
  have e1 : IntKind.i64.wrap (d.pivot + 1) = d.pivot + 1 := wrap_i64_id _ (by omega) (by omega)
  obtain ⟨u, hu⟩ : ∃ u, u = back d s := ⟨_, rfl⟩
  have c1 := implBack d s hm
  rw [← hu] at c1
  obtain ⟨u2, hu2⟩ : ∃ u, u = owingAt d s := ⟨_, rfl⟩
  have c2 : 0 ≤ s.pos → s.pos < d.steps.length → Ent Tryz.prog 126 [.d (defD d), .d (sagaD s)] [] (.d (.b u2)) [] := by rw [hu2]; exact implOwing' hd
  obtain ⟨u3, hu3⟩ : ∃ u, u = turned d s := ⟨_, rfl⟩
  have c3 := implTurned d s hm
  rw [← hu3] at c3
  refine ent_of tok mixed (f := 77) Tryz.func77 (by kernel_rfl) (keep := false) ?_
  repeat' ((conv => whnf) <;> (first
    | refine ⟨⟨none⟩, ?_⟩
    | refine Both.mk ?_ ?_
    | refine ⟨rfl, ?_⟩
    | exact rfl
    | (refine ⟨_, c1, ?_⟩; rintro _ _ ⟨rfl, rfl⟩)
    | (refine ⟨_, c3, ?_⟩; rintro _ _ ⟨rfl, rfl⟩)
    | (refine ⟨_, within _ _ _, ?_⟩; rintro _ _ ⟨rfl, rfl⟩)
    | (refine ⟨_, c2 (back_pos hu.symm).1 (back_pos hu.symm).2, ?_⟩; rintro _ _ ⟨rfl, rfl⟩)
    | (refine ⟨_, c2 ?_ ?_, ?_⟩; rotate_left 2; rintro _ _ ⟨rfl, rfl⟩; rotate_left; all_goals try (simp only [wrap_len1 hm, List.length_map, inside_iff, decide_eq_true_eq] at *; omega))
    | (split <;> (rename_i h; try rw [h]))))
  all_goals (conv => whnf)
  all_goals (refine ⟨congrArg (fun b => AV.d (D.b b)) ?_, rfl⟩)
  all_goals clear c1 c2 c3
  all_goals try simp only [wrap_len1 hm, e1, List.length_map] at *
  all_goals clear hd
  all_goals simp_all [sagaOk1, inside, quiet]
  all_goals omega
end Go.Pm.Tryz
namespace Go.Pm.Tryz
open Go Go.Proofs
set_option linter.unusedVariables false
set_option linter.unusedSimpArgs false
set_option maxRecDepth 100000
def vz : Val := ⟨0, 0, []⟩
def txtA (r : List Val) (i : Nat) : List UInt8 := (r.getD i vz).text
def numA (r : List Val) (i : Nat) : Int := (r.getD i vz).n
def textV (t : List UInt8) : Val := ⟨3, 0, t⟩
def intV (n : Int) : Val := ⟨2, n, []⟩
def stepR (s : List Val) : Step := ⟨txtA s 2, txtA s 3, txtA s 4, numA s 5, numA s 6, numA s 7⟩
def sameN (nm : List UInt8) (s : List Val) : Bool := decide (txtA s 0 = nm)
def stepsN (d : List (List Val)) (nm : List UInt8) : List Step := (d.filter (sameN nm)).map stepR
structure Command where
  step : Int
  undo : Bool
  try' : Int
def comD (c : Command) : D := .agg [.i .i64 c.step, .b c.undo, .i .i64 c.try']
def comR (r : List Val) : Command := ⟨numA r 2, decide (numA r 3 = 1), numA r 4⟩
def comS (s : Saga) : Command := ⟨s.pos, decide (s.ph = 2), s.tries⟩
def sagaR (r : List Val) : Saga := ⟨numA r 2, numA r 3, numA r 4, numA r 5, decide (numA r 6 = 1), numA r 7⟩
def engTs (a b c d : List (List Val)) : List Tab := [⟨defsS, a⟩, ⟨outboxS, b⟩, ⟨sagasS, c⟩, ⟨stepsS, d⟩]
structure EngP (a b c d : List (List Val)) : Prop where
  defs : tableP ⟨defsS, a⟩
  outs : tableP ⟨outboxS, b⟩
  sagas : tableP ⟨sagasS, c⟩
  steps : tableP ⟨stepsS, d⟩
def defAt (a : List (List Val)) (nm : List UInt8) : Nat := placeM [0] [textV nm] a 0
def defIs (a : List (List Val)) (nm : List UInt8) : Bool := atB [0] [textV nm] a (defAt a nm)
def defM (a d : List (List Val)) (nm : List UInt8) : Def := match defIs a nm with
  | true => ⟨nm, stepsN d nm, numA (a.getD (defAt a nm) []) 1⟩
  | false => ⟨[], [], 0⟩
theorem cell_at {r : List Val} {n k : Nat} (hl : r.length = n) (h : Nat.blt k n = true) : r[k]? = some (r.getD k vz) := by
  have : k + 1 ≤ n := Nat.le_of_ble_eq_true h
  rw [List.getD_eq_getElem?_getD, List.getElem?_eq_getElem (by omega)]; rfl
theorem row_len {t : Tab} (h : tableP t) {r : List Val} {k : Nat} (hr : t.rows[k]? = some r) : r.length = t.sch.cols.length := (h.rows k r hr).bef.fit.1
theorem atB_get {ks : List Int} {key : List Val} {rows : List (List Val)} {p : Nat} (h : atB ks key rows p = true) : ∃ r, rows[p]? = some r ∧ pickM r ks = key := by
  unfold atB at h
  split at h
  · rename_i r hr; exact ⟨r, hr, cmpL_zero.1 (of_decide_eq_true h)⟩
  · cases h
theorem textE (t : List UInt8) : Ent Tryz.prog 86 [.d (.s t)] [] (.d (valD (textV t))) [] := by
  refine ent_of tok mixed (f := 86) Tryz.func86 (by kernel_rfl) (keep := false) ?_
  repeat' ((conv => whnf) <;> (first | ((with_reducible refine isCall ?_) <;> (first | fail)) | ((with_reducible refine isCut ?_) <;> (first | refine ⟨⟨none⟩, ?_⟩)) | ((first | with_reducible refine isEx ?_ | with_reducible refine isAnd ?_ | with_reducible refine isOr ?_) <;> (first | ((with_reducible refine isSmall ?_) <;> (refine ⟨?_, ?_⟩; kernel_rfl)) | refine ⟨rfl, ?_⟩ | refine ⟨Int.natCast_nonneg _, ?_⟩)) | with_reducible refine Both.mk ?_ ?_ | rintro _ rfl | exact rfl | (split <;> (rename_i h; first | (simp only [beq_self_eq_true, eq_self, decide_true, Bool.not_true, Bool.false_eq_true] at h; done) | (try rw [h])))))
theorem intE (n : Int) : Ent Tryz.prog 87 [.d (.i .i64 n)] [] (.d (valD (intV n))) [] := by
  refine ent_of tok mixed (f := 87) Tryz.func87 (by kernel_rfl) (keep := false) ?_
  repeat' ((conv => whnf) <;> (first | ((with_reducible refine isCall ?_) <;> (first | fail)) | ((with_reducible refine isCut ?_) <;> (first | refine ⟨⟨none⟩, ?_⟩)) | ((first | with_reducible refine isEx ?_ | with_reducible refine isAnd ?_ | with_reducible refine isOr ?_) <;> (first | ((with_reducible refine isSmall ?_) <;> (refine ⟨?_, ?_⟩; kernel_rfl)) | refine ⟨rfl, ?_⟩ | refine ⟨Int.natCast_nonneg _, ?_⟩)) | with_reducible refine Both.mk ?_ ?_ | rintro _ rfl | exact rfl | (split <;> (rename_i h; first | (simp only [beq_self_eq_true, eq_self, decide_true, Bool.not_true, Bool.false_eq_true] at h; done) | (try rw [h])))))
theorem steps_next {d : List (List Val)} {nm : List UInt8} {k : Nat} {x : List Val} (hx : d[k]? = some x) (h : decide (txtA x 0 = nm) = true) : (((d.take k).filter (sameN nm)).map stepR).map stepD ++ [stepD (stepR x)] = (((d.take (k + 1)).filter (sameN nm)).map stepR).map stepD := by
  rw [take_up hx, List.filter_append, List.map_append, List.map_append, List.filter_cons, if_pos (by exact h)]; rfl
theorem steps_skip {d : List (List Val)} {nm : List UInt8} {k : Nat} {x : List Val} (hx : d[k]? = some x) (h : decide (txtA x 0 = nm) = false) : (((d.take k).filter (sameN nm)).map stepR).map stepD = (((d.take (k + 1)).filter (sameN nm)).map stepR).map stepD := by
  rw [take_up hx, List.filter_append, List.filter_cons, if_neg (by have := of_decide_eq_false h; simpa [sameN] using this)]
  simp
set_option maxHeartbeats 8000000 in
theorem specDef {a b c d : List (List Val)} (hE : EngP a b c d) (nm : List UInt8) : Ent Tryz.prog 42 [.d (dbArg (engTs a b c d)), .d (.s nm)] [] (.tup [.d (defD (defM a d nm)), .d (.b (defIs a nm))]) [] := by
  have c1 := textE nm
  have c2 := specPlace ⟨defsS, a⟩ hE.defs [textV nm] (Nat.le_of_ble_eq_true rfl : 1 ≤ maxLen)
  have hl : d.length ≤ maxLen := Nat.le_trans hE.steps.most (by decide)
  have hl60 : d.length ≤ 60 := hE.steps.most
  obtain ⟨p, hp⟩ : ∃ p, p = defAt a nm := ⟨_, rfl⟩
  obtain ⟨u, hu⟩ : ∃ u, u = defIs a nm := ⟨_, rfl⟩
  unfold defM
  have hp' : p = placeM [0] [textV nm] a 0 := hp
  have hu' : u = atB [0] [textV nm] a p := by rw [hu, hp]; rfl
  rw [show placeM (Tab.sch ⟨defsS, a⟩).keys [textV nm] (Tab.rows ⟨defsS, a⟩) 0 = p from hp'.symm, show atB (Tab.sch ⟨defsS, a⟩).keys [textV nm] (Tab.rows ⟨defsS, a⟩) p = u from hu'.symm] at c2
  rw [← hu, ← hp]
  cases u with
  | false =>
    refine ent_of tok mixed (f := 42) Tryz.func42 (by kernel_rfl) (keep := false) ?_
    repeat' ((conv => whnf) <;> (first | ((with_reducible refine isCall ?_) <;> (first | (refine ⟨_, c1, ?_⟩; rintro _ _ ⟨rfl, rfl⟩) | (refine ⟨_, c2, ?_⟩; rintro _ _ ⟨rfl, rfl⟩) | (refine ⟨_, rfl, ?_⟩) | (refine ⟨by decide, ?_⟩) | fail)) | ((with_reducible refine isCut ?_) <;> (first | refine ⟨⟨none⟩, ?_⟩)) | ((first | with_reducible refine isEx ?_ | with_reducible refine isAnd ?_ | with_reducible refine isOr ?_) <;> (first | (refine ⟨_, rfl, ?_⟩) | (refine ⟨by decide, ?_⟩) | ((with_reducible refine isSmall ?_) <;> (refine ⟨?_, ?_⟩; kernel_rfl)) | refine ⟨rfl, ?_⟩ | refine ⟨Int.natCast_nonneg _, ?_⟩)) | with_reducible refine Both.mk ?_ ?_ | rintro _ rfl | exact rfl | (split <;> (rename_i h; first | (simp only [beq_self_eq_true, eq_self, decide_true, Bool.not_true, Bool.false_eq_true] at h; done) | (try rw [h])))))
    all_goals try (conv => whnf)
    all_goals trace_state
  | true =>
    obtain ⟨r, hr, hkey⟩ := atB_get hu'.symm
    have hrl : r.length = 2 := row_len hE.defs hr
    have hrd : a.getD p [] = r := by rw [List.getD_eq_getElem?_getD, hr]; rfl
    have hr2 : (a.map rowD)[(p : Int).toNat]? = some (rowD r) := get_map' hr
    simp only [hrd]
    refine ent_of tok mixed (f := 42) Tryz.func42 (by kernel_rfl) (keep := false) ?_
    repeat' ((conv => whnf) <;> (first | ((with_reducible refine isCall ?_) <;> (first | (refine ⟨_, c1, ?_⟩; rintro _ _ ⟨rfl, rfl⟩) | (refine ⟨_, c2, ?_⟩; rintro _ _ ⟨rfl, rfl⟩) | (refine ⟨_, get_map' (cell_at hxl rfl), ?_⟩) | (refine ⟨_, hr2, ?_⟩) | (refine ⟨_, get_map' (cell_at hrl rfl), ?_⟩) | (refine ⟨_, rfl, ?_⟩) | (refine ⟨Int.natCast_nonneg _, ?_⟩) | (refine ⟨by decide, ?_⟩) | (refine ⟨⟨by decide, rfl, rfl, room_add (by rw [hxs]; simp only [List.length_map]; have := List.length_filter_le (sameN nm) (d.take k); rw [List.length_take] at this; omega) (by decide)⟩, ?_⟩) | fail)) | ((with_reducible refine isLoop ?_) <;> (first | (refine ⟨[1, 4, 9, 10, 11], [10004, 10009, 10010, .cell 10088 6 false 10009 1], fun st => ∃ (k : Nat) (i : Int) (xs : List D), i = k ∧ xs = (((d.take k).filter (sameN nm)).map stepR).map stepD ∧ st = ⟨[(1, .d (.s nm)), (4, .ptr 10004 0), (9, .ptr 10009 0), (10, .ptr 10010 0), (11, .d (.i .i64 i))], [(10004, .var [.d (.s []), .snil, .d (.i .i64 0)]), (10009, .var [.d (.s nm), .own 10088, .d (.i .i64 (numA r 1))]), (10010, .var (tabC ⟨stepsS, d⟩)), (10088, .arr 6 false xs)]⟩, fun s' => match look 11 s'.env with | some (.d (.i _ n)) => d.length - n.toNat | _ => 0, ?_, ⟨0, _, _, rfl, rfl, ?_⟩, ?_⟩; kernel_rfl; kernel_rfl; rintro st ⟨k, i, xs, rfl, hxs, rfl⟩) | (refine ⟨_, get_map' (cell_at hxl rfl), ?_⟩) | (refine ⟨_, hr2, ?_⟩) | (refine ⟨_, get_map' (cell_at hrl rfl), ?_⟩) | (refine ⟨_, rfl, ?_⟩) | (refine ⟨Int.natCast_nonneg _, ?_⟩) | (refine ⟨by decide, ?_⟩) | (refine ⟨⟨by decide, rfl, rfl, room_add (by rw [hxs]; simp only [List.length_map]; have := List.length_filter_le (sameN nm) (d.take k); rw [List.length_take] at this; omega) (by decide)⟩, ?_⟩) | fail)) | ((with_reducible refine isCut ?_) <;> (first | refine ⟨⟨none⟩, ?_⟩)) | ((first | with_reducible refine isEx ?_ | with_reducible refine isAnd ?_ | with_reducible refine isOr ?_) <;> (first | ((with_reducible refine isGet (xs := d.map rowD) (i := ((k : Nat) : Int).toNat) ?_); obtain ⟨x, hx⟩ := get_ex (ss := d) (k := k) (lt_of_dec (by assumption)); have hxl : x.length = 8 := row_len hE.steps hx; refine ⟨_, get_map' hx, ?_⟩) | (refine ⟨_, get_map' (cell_at hxl rfl), ?_⟩) | (refine ⟨_, hr2, ?_⟩) | (refine ⟨_, get_map' (cell_at hrl rfl), ?_⟩) | (refine ⟨_, rfl, ?_⟩) | (refine ⟨Int.natCast_nonneg _, ?_⟩) | (refine ⟨by decide, ?_⟩) | (refine ⟨⟨by decide, rfl, rfl, room_add (by rw [hxs]; simp only [List.length_map]; have := List.length_filter_le (sameN nm) (d.take k); rw [List.length_take] at this; omega) (by decide)⟩, ?_⟩) | ((with_reducible refine isSmall ?_) <;> (refine ⟨?_, ?_⟩; kernel_rfl)) | refine ⟨rfl, ?_⟩ | refine ⟨Int.natCast_nonneg _, ?_⟩)) | with_reducible refine Both.mk ?_ ?_ | rintro _ rfl | exact rfl | (split <;> (rename_i h; first | (simp only [beq_self_eq_true, eq_self, decide_true, Bool.not_true, Bool.false_eq_true] at h; done) | (try rw [h])))))
    all_goals try (conv => whnf)
    all_goals try (exact absurd h (by decide))
    all_goals first
      | exact ⟨⟨k + 1, _, _, step_up (get_lt hx) hl, (by rw [hxs]; exact steps_next hx (by assumption)), rfl⟩, mu_up (get_lt hx) hl⟩
      | exact ⟨⟨k + 1, _, _, step_up (get_lt hx) hl, (by rw [hxs]; exact steps_skip hx (by assumption)), rfl⟩, mu_up (get_lt hx) hl⟩
      | (have e : xs = ((d.filter (sameN nm)).map stepR).map stepD := by
           have hh : ¬ (k : Int) < ((d.map rowD).length : Int) := of_decide_eq_false (by assumption)
           rw [List.length_map] at hh
           rw [hxs, List.take_of_length_le (by omega)]
         clear hxs
         subst e
         exact ⟨rfl, rfl⟩)
      | trace_state
end Go.Pm.Tryz
namespace Go.Pm.Tryz
open Go Go.Proofs
set_option linter.unusedVariables false
set_option linter.unusedSimpArgs false
set_option maxRecDepth 100000
def idxP {α : Type} (p : α → Bool) : List α → Nat → Int
  | [], _ => -1
  | x :: xs, k => match p x with | true => (k : Int) | false => idxP p xs (k + 1)
section
variable {α : Type} {p : α → Bool} {xs : List α} {k : Nat} {x : α}
theorem idx_here (hx : xs[k]? = some x) (h : p x = true) : idxP p (xs.drop k) k = (k : Int) := by
  obtain ⟨hk, rfl⟩ := List.getElem?_eq_some_iff.1 hx
  rw [List.drop_eq_getElem_cons hk, idxP, h]
theorem idx_next (hx : xs[k]? = some x) (h : p x = false) : idxP p (xs.drop k) k = idxP p (xs.drop (k + 1)) (k + 1) := by
  obtain ⟨hk, rfl⟩ := List.getElem?_eq_some_iff.1 hx
  rw [List.drop_eq_getElem_cons hk, idxP, h]
theorem idx_end (h : xs.length ≤ k) : idxP p (xs.drop k) k = -1 := by rw [List.drop_of_length_le h]; rfl
end
theorem idx_some {α : Type} {p : α → Bool} : ∀ (xs : List α) (k : Nat), ¬ idxP p xs k < 0 → ∃ (j : Nat) (x : α), idxP p xs k = ((k + j : Nat) : Int) ∧ xs[j]? = some x ∧ p x = true
  | [], k, h => by simp [idxP] at h
  | x :: xs, k, h => by
    rw [idxP] at h ⊢
    cases hp : p x with
    | true => exact ⟨0, x, rfl, rfl, hp⟩
    | false =>
      rw [hp] at h
      obtain ⟨j, y, h1, h2, h3⟩ := idx_some xs (k + 1) h
      exact ⟨j + 1, y, by simp only; rw [h1]; omega, by simpa using h2, h3⟩
theorem idx_none {α : Type} {p : α → Bool} : ∀ (xs : List α) (k : Nat), idxP p xs k < 0 → ∀ x, x ∈ xs → p x = false
  | [], k, _, x, hx => by cases hx
  | y :: xs, k, h, x, hx => by
    rw [idxP] at h
    cases hp : p y with
    | true => rw [hp] at h; simp only at h; omega
    | false =>
      rw [hp] at h
      rcases List.mem_cons.1 hx with rfl | hx
      · exact hp
      · exact idx_none xs (k + 1) h x hx
def ofSaga (id : Int) (r : List Val) : Bool := decide (numA r 1 = id)
set_option maxHeartbeats 4000000 in
theorem specOut {a b c d : List (List Val)} (hE : EngP a b c d) (id : Int) : Ent Tryz.prog 66 [.d (dbArg (engTs a b c d)), .d (.i .i64 id)] [] (.d (.i .i64 (idxP (ofSaga id) b 0))) [] := by
  have hl : b.length ≤ maxLen := Nat.le_trans hE.outs.most (by decide)
  obtain ⟨o, ho⟩ : ∃ o, o = idxP (ofSaga id) b 0 := ⟨_, rfl⟩
  rw [← ho]
  refine ent_of tok mixed (f := 66) Tryz.func66 (by kernel_rfl) (keep := false) ?_
  repeat' ((conv => whnf) <;> (first | ((with_reducible refine isCall ?_) <;> (first | (refine ⟨_, get_map' (cell_at hxl rfl), ?_⟩) | (refine ⟨_, rfl, ?_⟩) | (refine ⟨Int.natCast_nonneg _, ?_⟩) | (refine ⟨by decide, ?_⟩) | fail)) | ((with_reducible refine isLoop ?_) <;> (first | (refine ⟨[1, 2, 5], [10002], fun st => ∃ (k : Nat) (i : Int), i = k ∧ o = idxP (ofSaga id) (b.drop k) k ∧ st = ⟨[(1, .d (.i .i64 id)), (2, .ptr 10002 0), (5, .d (.i .i64 i))], [(10002, .var [.d (.sl false ((engTs a b c d).map tabD))])]⟩, fun s' => match look 5 s'.env with | some (.d (.i _ n)) => b.length - n.toNat | _ => 0, rfl, ⟨0, _, rfl, ho, rfl⟩, ?_⟩; rintro st ⟨k, i, rfl, hu, rfl⟩) | (refine ⟨_, get_map' (cell_at hxl rfl), ?_⟩) | (refine ⟨_, rfl, ?_⟩) | (refine ⟨Int.natCast_nonneg _, ?_⟩) | (refine ⟨by decide, ?_⟩) | fail)) | ((with_reducible refine isCut ?_) <;> (first | refine ⟨⟨none⟩, ?_⟩)) | ((first | with_reducible refine isEx ?_ | with_reducible refine isAnd ?_ | with_reducible refine isOr ?_) <;> (first | ((with_reducible refine isGet (xs := b.map rowD) (i := ((k : Nat) : Int).toNat) ?_); obtain ⟨x, hx⟩ := get_ex (ss := b) (k := k) (lt_of_dec (by assumption)); have hxl : x.length = 8 := row_len hE.outs hx; refine ⟨_, get_map' hx, ?_⟩) | (refine ⟨_, get_map' (cell_at hxl rfl), ?_⟩) | (refine ⟨_, rfl, ?_⟩) | (refine ⟨Int.natCast_nonneg _, ?_⟩) | (refine ⟨by decide, ?_⟩) | ((with_reducible refine isSmall ?_) <;> (refine ⟨?_, ?_⟩; kernel_rfl)) | refine ⟨rfl, ?_⟩ | refine ⟨Int.natCast_nonneg _, ?_⟩)) | with_reducible refine Both.mk ?_ ?_ | rintro _ rfl | exact rfl | (split <;> (rename_i h; first | (simp only [beq_self_eq_true, eq_self, decide_true, Bool.not_true, Bool.false_eq_true] at h; done) | (try rw [h])))))
  all_goals try (conv => whnf)
  all_goals first
    | exact ⟨⟨k + 1, _, step_up (get_lt hx) hl, hu.trans (idx_next hx (by assumption)), rfl⟩, mu_up (get_lt hx) hl⟩
    | (rw [hu, idx_here hx (by assumption)]; exact ⟨rfl, rfl⟩)
    | (have hh : ¬ (k : Int) < ((b.map rowD).length : Int) := of_decide_eq_false (by assumption)
       rw [List.length_map] at hh
       rw [hu, idx_end (by omega)]; exact ⟨rfl, rfl⟩)
    | trace_state
theorem specSagaR (r : List Val) (hl : r.length = 9) : Ent Tryz.prog 49 [.d (.sl false (r.map valD))] [] (.d (sagaD (sagaR r))) [] := by
  refine ent_of tok mixed (f := 49) Tryz.func49 (by kernel_rfl) (keep := false) ?_
  repeat' ((conv => whnf) <;> (first | ((with_reducible refine isCall ?_) <;> (first | (refine ⟨_, get_map' (cell_at hl rfl), ?_⟩) | (refine ⟨by decide, ?_⟩) | fail)) | ((with_reducible refine isCut ?_) <;> (first | refine ⟨⟨none⟩, ?_⟩)) | ((first | with_reducible refine isEx ?_ | with_reducible refine isAnd ?_ | with_reducible refine isOr ?_) <;> (first | (refine ⟨_, get_map' (cell_at hl rfl), ?_⟩) | (refine ⟨by decide, ?_⟩) | ((with_reducible refine isSmall ?_) <;> (refine ⟨?_, ?_⟩; kernel_rfl)) | refine ⟨rfl, ?_⟩ | refine ⟨Int.natCast_nonneg _, ?_⟩)) | with_reducible refine Both.mk ?_ ?_ | rintro _ rfl | exact rfl | (split <;> (rename_i h; first | (simp only [beq_self_eq_true, eq_self, decide_true, Bool.not_true, Bool.false_eq_true] at h; done) | (try rw [h])))))
theorem specComR (r : List Val) (hl : r.length = 8) : Ent Tryz.prog 41 [.d (.sl false (r.map valD))] [] (.d (comD (comR r))) [] := by
  refine ent_of tok mixed (f := 41) Tryz.func41 (by kernel_rfl) (keep := false) ?_
  repeat' ((conv => whnf) <;> (first | ((with_reducible refine isCall ?_) <;> (first | (refine ⟨_, get_map' (cell_at hl rfl), ?_⟩) | (refine ⟨by decide, ?_⟩) | fail)) | ((with_reducible refine isCut ?_) <;> (first | refine ⟨⟨none⟩, ?_⟩)) | ((first | with_reducible refine isEx ?_ | with_reducible refine isAnd ?_ | with_reducible refine isOr ?_) <;> (first | (refine ⟨_, get_map' (cell_at hl rfl), ?_⟩) | (refine ⟨by decide, ?_⟩) | ((with_reducible refine isSmall ?_) <;> (refine ⟨?_, ?_⟩; kernel_rfl)) | refine ⟨rfl, ?_⟩ | refine ⟨Int.natCast_nonneg _, ?_⟩)) | with_reducible refine Both.mk ?_ ?_ | rintro _ rfl | exact rfl | (split <;> (rename_i h; first | (simp only [beq_self_eq_true, eq_self, decide_true, Bool.not_true, Bool.false_eq_true] at h; done) | (try rw [h])))))
theorem specComS (s : Saga) : Ent Tryz.prog 67 [.d (sagaD s)] [] (.d (comD (comS s))) [] := by
  refine ent_of tok mixed (f := 67) Tryz.func67 (by kernel_rfl) (keep := false) ?_
  repeat' ((conv => whnf) <;> (first | ((with_reducible refine isCall ?_) <;> (first | fail)) | ((with_reducible refine isCut ?_) <;> (first | refine ⟨⟨none⟩, ?_⟩)) | ((first | with_reducible refine isEx ?_ | with_reducible refine isAnd ?_ | with_reducible refine isOr ?_) <;> (first | ((with_reducible refine isSmall ?_) <;> (refine ⟨?_, ?_⟩; kernel_rfl)) | refine ⟨rfl, ?_⟩ | refine ⟨Int.natCast_nonneg _, ?_⟩)) | with_reducible refine Both.mk ?_ ?_ | rintro _ rfl | exact rfl | (split <;> (rename_i h; first | (simp only [beq_self_eq_true, eq_self, decide_true, Bool.not_true, Bool.false_eq_true] at h; done) | (try rw [h])))))
theorem implComS (s : Saga) : Ent Tryz.prog 78 [.d (sagaD s)] [] (.d (comD (comS s))) [] := by
  refine ent_of tok mixed (f := 78) Tryz.func78 (by kernel_rfl) (keep := false) ?_
  repeat' ((conv => whnf) <;> (first | ((with_reducible refine isCall ?_) <;> (first | fail)) | ((with_reducible refine isCut ?_) <;> (first | refine ⟨⟨none⟩, ?_⟩)) | ((first | with_reducible refine isEx ?_ | with_reducible refine isAnd ?_ | with_reducible refine isOr ?_) <;> (first | ((with_reducible refine isSmall ?_) <;> (refine ⟨?_, ?_⟩; kernel_rfl)) | refine ⟨rfl, ?_⟩ | refine ⟨Int.natCast_nonneg _, ?_⟩)) | with_reducible refine Both.mk ?_ ?_ | rintro _ rfl | exact rfl | (split <;> (rename_i h; first | (simp only [beq_self_eq_true, eq_self, decide_true, Bool.not_true, Bool.false_eq_true] at h; done) | (try rw [h])))))
theorem specId (n : Int) : Ent Tryz.prog 48 [.d (.i .i64 n)] [] (.d (.b (inside n 1 1000000))) [] := by
  refine ent_of tok mixed (f := 48) Tryz.func48 (by kernel_rfl) (keep := false) ?_
  repeat' ((conv => whnf) <;> (first | ((with_reducible refine isCall ?_) <;> (first | fail)) | ((with_reducible refine isCut ?_) <;> (first | refine ⟨⟨none⟩, ?_⟩)) | ((first | with_reducible refine isEx ?_ | with_reducible refine isAnd ?_ | with_reducible refine isOr ?_) <;> (first | ((with_reducible refine isSmall ?_) <;> (refine ⟨?_, ?_⟩; kernel_rfl)) | refine ⟨rfl, ?_⟩ | refine ⟨Int.natCast_nonneg _, ?_⟩)) | with_reducible refine Both.mk ?_ ?_ | rintro _ rfl | exact rfl | (split <;> (rename_i h; first | (simp only [beq_self_eq_true, eq_self, decide_true, Bool.not_true, Bool.false_eq_true] at h; done) | (try rw [h])))))
  all_goals try (conv => whnf)
  all_goals (refine ⟨congrArg (fun b => AV.d (D.b b)) ?_, rfl⟩; simp only [inside]; simp_all; try omega)
theorem implId (n : Int) : Ent Tryz.prog 50 [.d (.i .i64 n)] [] (.d (.b (inside n 1 1000000))) [] := by
  have c1 := within n 1 1000000
  refine ent_of tok mixed (f := 50) Tryz.func50 (by kernel_rfl) (keep := false) ?_
  repeat' ((conv => whnf) <;> (first | ((with_reducible refine isCall ?_) <;> (first | (refine ⟨_, c1, ?_⟩; rintro _ _ ⟨rfl, rfl⟩) | fail)) | ((with_reducible refine isCut ?_) <;> (first | refine ⟨⟨none⟩, ?_⟩)) | ((first | with_reducible refine isEx ?_ | with_reducible refine isAnd ?_ | with_reducible refine isOr ?_) <;> (first | ((with_reducible refine isSmall ?_) <;> (refine ⟨?_, ?_⟩; kernel_rfl)) | refine ⟨rfl, ?_⟩ | refine ⟨Int.natCast_nonneg _, ?_⟩)) | with_reducible refine Both.mk ?_ ?_ | rintro _ rfl | exact rfl | (split <;> (rename_i h; first | (simp only [beq_self_eq_true, eq_self, decide_true, Bool.not_true, Bool.false_eq_true] at h; done) | (try rw [h])))))
theorem specIdRow (t : Tab) (ht : tableP t) (id : Int) : Ent Tryz.prog 43 [.d (tabD t), .d (.i .i64 id)] [] (.d (.i .i64 (match atB t.sch.keys [intV id] t.rows (placeM t.sch.keys [intV id] t.rows 0) with | true => (placeM t.sch.keys [intV id] t.rows 0 : Int) | false => -1))) [] := by
  have c1 := intE id
  have c2 := specPlace t ht [intV id] (Nat.le_of_ble_eq_true rfl : 1 ≤ maxLen)
  generalize placeM t.sch.keys [intV id] t.rows 0 = p at *
  generalize atB t.sch.keys [intV id] t.rows p = u at *
  cases u
  all_goals
    refine ent_of tok mixed (f := 43) Tryz.func43 (by kernel_rfl) (keep := false) ?_
    repeat' ((conv => whnf) <;> (first | ((with_reducible refine isCall ?_) <;> (first | (refine ⟨_, c1, ?_⟩; rintro _ _ ⟨rfl, rfl⟩) | (refine ⟨_, c2, ?_⟩; rintro _ _ ⟨rfl, rfl⟩) | fail)) | ((with_reducible refine isCut ?_) <;> (first | refine ⟨⟨none⟩, ?_⟩)) | ((first | with_reducible refine isEx ?_ | with_reducible refine isAnd ?_ | with_reducible refine isOr ?_) <;> (first | ((with_reducible refine isSmall ?_) <;> (refine ⟨?_, ?_⟩; kernel_rfl)) | refine ⟨rfl, ?_⟩ | refine ⟨Int.natCast_nonneg _, ?_⟩)) | with_reducible refine Both.mk ?_ ?_ | rintro _ rfl | exact rfl | (split <;> (rename_i h; first | (simp only [beq_self_eq_true, eq_self, decide_true, Bool.not_true, Bool.false_eq_true] at h; done) | (try rw [h])))))
  all_goals try (conv => whnf)
  all_goals trace_state
end Go.Pm.Tryz
namespace Go.Pm.Tryz
open Go Go.Proofs
set_option linter.unusedVariables false
set_option linter.unusedSimpArgs false
set_option maxRecDepth 100000
theorem cell_val {t : Tab} (ht : tableP t) {r : List Val} {k i : Nat} (hr : t.rows[k]? = some r) {c : Col} (hc : t.sch.cols[i]? = some c) : valueP (r.getD i vz) ∧ ((r.getD i vz).kind = c.kind ∨ c.uniq = true) := by
  have h := (ht.rows k r hr).bef.fit
  have hi : r[i]? = some (r.getD i vz) := cell_at h.1 (Nat.ble_eq_true_of_le (get_lt hc))
  obtain ⟨h1, h2⟩ := h.2 i _ _ hi hc
  exact ⟨h1, h2.imp id (·.2)⟩
theorem cell_text {t : Tab} (ht : tableP t) {r : List Val} {k i : Nat} (hr : t.rows[k]? = some r) {n : List UInt8} (hc : t.sch.cols[i]? = some ⟨n, 3, false⟩) : r.getD i vz = textV (txtA r i) ∧ (txtA r i).length ≤ 200 := by
  obtain ⟨h1, h2⟩ := cell_val ht hr hc
  have hk : (r.getD i vz).kind = 3 := h2.elim id (fun h => by cases h)
  unfold valueP at h1
  have h3 : (r.getD i vz).n = 0 ∧ (r.getD i vz).text.length ≤ 200 := by omega
  refine ⟨?_, h3.2⟩
  unfold txtA textV
  rcases hv : r.getD i vz with ⟨a, b, c⟩
  rw [hv] at hk h3
  simp only at hk h3
  rw [hk, h3.1]
theorem cell_int {t : Tab} (ht : tableP t) {r : List Val} {k i : Nat} (hr : t.rows[k]? = some r) {n : List UInt8} (hc : t.sch.cols[i]? = some ⟨n, 2, false⟩) : r.getD i vz = intV (numA r i) := by
  obtain ⟨h1, h2⟩ := cell_val ht hr hc
  have hk : (r.getD i vz).kind = 2 := h2.elim id (fun h => by cases h)
  unfold valueP at h1
  have h3 : (r.getD i vz).text = [] := by
    rcases h1 with h | h | h | h
    · exact h.2.2
    · exact h.2.2
    · exact h.2
    · omega
  unfold numA intV
  rcases hv : r.getD i vz with ⟨a, b, c⟩
  rw [hv] at hk h3
  simp only at hk h3
  rw [hk, h3]
theorem chain {t : Tab} (ht : tableP t) : ∀ (k j : Nat) (x y : List Val), j < k → t.rows[j]? = some x → t.rows[k]? = some y → cmpL (pickM x t.sch.keys) (pickM y t.sch.keys) < 0
  | 0, j, x, y, h, _, _ => by omega
  | k + 1, j, x, y, h, hx, hy => by
    obtain ⟨z, hz⟩ := get_ex (ss := t.rows) (k := k) (by have := get_lt hy; omega)
    have h1 := (ht.rows (k + 1) y hy).bef.ord z (Nat.succ_pos k) hz
    by_cases e : j = k
    · subst e; rw [hx] at hz; cases hz; exact h1
    · exact cmpL_trans (chain ht k j x z (by omega) hx hz) h1
theorem place_of {t : Tab} (ht : tableP t) {key : List Val} : ∀ (n k i : Nat) (x : List Val), n = i - k → k ≤ i → t.rows[i]? = some x → pickM x t.sch.keys = key → placeM t.sch.keys key (t.rows.drop k) k = i := by
  intro n
  induction n with
  | zero =>
    intro k i x hn hk hx he
    have : k = i := by omega
    subst this
    exact place_here hx (decide_eq_false (by rw [he, cmpL_zero.2 rfl]; decide))
  | succ n ih =>
    intro k i x hn hk hx he
    obtain ⟨z, hz⟩ := get_ex (ss := t.rows) (k := k) (by have := get_lt hx; omega)
    rw [place_next hz (decide_eq_true (by rw [← he]; exact chain ht i k z x (by omega) hz hx))]
    exact ih (k + 1) i x (by omega) (by omega) hx he
theorem at_of {t : Tab} (ht : tableP t) {key : List Val} {i : Nat} {x : List Val} (hx : t.rows[i]? = some x) (he : pickM x t.sch.keys = key) : placeM t.sch.keys key t.rows 0 = i ∧ atB t.sch.keys key t.rows (placeM t.sch.keys key t.rows 0) = true := by
  have h := place_of ht (i - 0) 0 i x rfl (Nat.zero_le _) hx he
  rw [List.drop_zero] at h
  refine ⟨h, ?_⟩
  rw [h, atB, hx]
  exact decide_eq_true (cmpL_zero.2 he)
theorem pick_one (r : List Val) (i : Nat) : pickM r [(i : Int)] = [r.getD i vz] := rfl
theorem def_row {a b c d : List (List Val)} (hE : EngP a b c d) {k : Nat} {r : List Val} (hr : a[k]? = some r) : pickM r [0] = [textV (txtA r 0)] := by
  have := (cell_text (t := ⟨defsS, a⟩) hE.defs (i := 0) hr rfl).1
  show [r.getD 0 vz] = _
  rw [this]
theorem def_is {a b c d : List (List Val)} (hE : EngP a b c d) {k : Nat} {r : List Val} (hr : a[k]? = some r) : defIs a (txtA r 0) = true ∧ defAt a (txtA r 0) = k := by
  have := at_of (t := ⟨defsS, a⟩) hE.defs hr (def_row hE hr)
  exact ⟨this.2, this.1⟩
theorem def_get {a b c d : List (List Val)} (hE : EngP a b c d) {nm : List UInt8} (h : defIs a nm = true) : ∃ r, a[defAt a nm]? = some r ∧ txtA r 0 = nm := by
  obtain ⟨r, hr, hk⟩ := atB_get h
  rw [def_row hE hr] at hk
  simp only [List.cons.injEq, and_true, textV, Val.mk.injEq, true_and] at hk
  exact ⟨r, hr, hk⟩
theorem step_fits {a b c d : List (List Val)} (hE : EngP a b c d) {s : List Val} (hs : s ∈ d) : (stepR s).fits := by
  obtain ⟨k, hk⟩ := List.getElem?_of_mem hs
  have m : ∀ n, n ≤ 200 → n ≤ maxLen := fun n h => Nat.le_trans h (Nat.le_of_ble_eq_true rfl)
  exact ⟨m _ (cell_text (t := ⟨stepsS, d⟩) hE.steps (i := 2) hk rfl).2, m _ (cell_text (t := ⟨stepsS, d⟩) hE.steps (i := 3) hk rfl).2, m _ (cell_text (t := ⟨stepsS, d⟩) hE.steps (i := 4) hk rfl).2⟩
theorem stepsN_len (d : List (List Val)) (nm : List UInt8) : (stepsN d nm).length ≤ d.length := by
  rw [stepsN, List.length_map]; exact List.length_filter_le ..
theorem stepsN_fits {a b c d : List (List Val)} (hE : EngP a b c d) (nm : List UInt8) : ∀ s, s ∈ stepsN d nm → s.fits := fun s hs => by
  obtain ⟨r, hr, rfl⟩ := List.mem_map.1 hs
  exact step_fits hE (List.mem_filter.1 hr).1
theorem defM_fits {a b c d : List (List Val)} (hE : EngP a b c d) (nm : List UInt8) : (defM a d nm).fits := by
  have hl : d.length ≤ maxLen := Nat.le_trans hE.steps.most (by decide)
  unfold defM
  cases h : defIs a nm with
  | false => exact ⟨Nat.zero_le _, Nat.zero_le _, fun s hs => by cases hs⟩
  | true =>
    obtain ⟨r, hr, rfl⟩ := def_get hE h
    exact ⟨Nat.le_trans (cell_text (t := ⟨defsS, a⟩) hE.defs (i := 0) hr rfl).2 (Nat.le_of_ble_eq_true rfl), Nat.le_trans (stepsN_len d _) hl, stepsN_fits hE _⟩
def posN (d : List (List Val)) (nm : List UInt8) (k : Nat) : Nat := ((d.take k).filter (sameN nm)).length
theorem pos_up {d : List (List Val)} {k : Nat} {x : List Val} (hx : d[k]? = some x) : posN d (txtA x 0) (k + 1) = posN d (txtA x 0) k + 1 := by
  unfold posN
  rw [take_up hx, List.filter_append, List.filter_cons, if_pos (by simp [sameN]), List.length_append]; rfl
theorem pos_le (d : List (List Val)) (nm : List UInt8) (k : Nat) : posN d nm k ≤ d.length := Nat.le_trans (List.length_filter_le ..) (by rw [List.length_take]; omega)
theorem step_key {a b c d : List (List Val)} (hE : EngP a b c d) {k : Nat} {s : List Val} (hs : d[k]? = some s) : pickM s [0, 1] = [textV (txtA s 0), intV (numA s 1)] := by
  have h1 := (cell_text (t := ⟨stepsS, d⟩) hE.steps (i := 0) hs rfl).1
  have h2 := cell_int (t := ⟨stepsS, d⟩) hE.steps (i := 1) hs rfl
  show [s.getD 0 vz, s.getD 1 vz] = _
  rw [h1, h2]
theorem pos_new {a b c d : List (List Val)} (hE : EngP a b c d) {k : Nat} {x : List Val} (hx : d[k]? = some x) (h : k = 0 ∨ ∃ y, d[k - 1]? = some y ∧ ¬ txtA y 0 = txtA x 0) : posN d (txtA x 0) k = 0 := by
  unfold posN
  rw [List.length_eq_zero_iff, List.filter_eq_nil_iff]
  intro z hz hsame
  have hsame : txtA z 0 = txtA x 0 := of_decide_eq_true hsame
  obtain ⟨j, hj, e⟩ := List.mem_iff_getElem.1 hz
  rw [List.length_take] at hj
  have hzj : d[j]? = some z := by rw [List.getElem_take] at e; rw [← e]; exact List.getElem?_eq_getElem (by omega)
  rcases h with rfl | ⟨y, hy, hne⟩
  · omega
  · by_cases ej : j = k - 1
    · subst ej; rw [hy] at hzj; cases hzj; exact hne hsame
    · have c1 := chain (t := ⟨stepsS, d⟩) hE.steps (k - 1) j z y (by omega) hzj hy
      have c2 := chain (t := ⟨stepsS, d⟩) hE.steps k (k - 1) y x (by omega) hy hx
      rw [show (Tab.sch ⟨stepsS, d⟩).keys = [0, 1] from rfl, step_key hE hzj, step_key hE hy] at c1
      rw [show (Tab.sch ⟨stepsS, d⟩).keys = [0, 1] from rfl, step_key hE hy, step_key hE hx] at c2
      rw [hsame] at c1
      simp only [cmpL] at c1 c2
      by_cases e0 : cmpV (textV (txtA x 0)) (textV (txtA y 0)) = 0
      · have := cmpV_zero.1 e0
        simp only [textV, Val.mk.injEq, true_and] at this
        exact hne this.symm
      · rw [if_neg e0] at c1
        by_cases e1 : cmpV (textV (txtA y 0)) (textV (txtA x 0)) = 0
        · have := cmpV_zero.1 e1
          simp only [textV, Val.mk.injEq, true_and] at this
          exact hne this
        · rw [if_neg e1] at c2
          have := cmpV_trans c1 c2
          rw [cmpV_zero.2 rfl] at this
          omega
structure defsB (a d : List (List Val)) : Prop where
  ok : ∀ (k : Nat) (r : List Val), a[k]? = some r → defOk (defM a d (txtA r 0)) = true
  steps : ∀ (k : Nat) (s : List Val), d[k]? = some s → defIs a (txtA s 0) = true ∧ numA s 1 = (posN d (txtA s 0) k : Int)
structure LastN (d : List (List Val)) (k : Nat) (l : List UInt8) (n : Int) : Prop where
  name : 0 < k → ∃ y, d[k - 1]? = some y ∧ l = txtA y 0
  num : 0 < k → n = (posN d l k : Int)
theorem last_same {d : List (List Val)} {k : Nat} {l : List UInt8} {n : Int} {x : List Val} (h : LastN d k l n) (hx : d[k]? = some x) (hk : 0 < k) (e : txtA x 0 = l) : n = (posN d (txtA x 0) k : Int) := by rw [e]; exact h.num hk
theorem last_new {a b c d : List (List Val)} (hE : EngP a b c d) {k : Nat} {l : List UInt8} {n : Int} {x : List Val} (h : LastN d k l n) (hx : d[k]? = some x) (h1 : k = 0 ∨ ¬ txtA x 0 = l) : (0 : Int) = (posN d (txtA x 0) k : Int) := by
  rw [pos_new hE hx]
  · rfl
  · rcases h1 with h1 | h1
    · exact .inl h1
    · by_cases hk : k = 0
      · exact .inl hk
      · obtain ⟨y, hy, e⟩ := h.name (by omega)
        exact .inr ⟨y, hy, fun e2 => h1 (by rw [e, e2])⟩
theorem last_up {d : List (List Val)} {k : Nat} {x : List Val} (hx : d[k]? = some x) {m : Int} (hm : m = (posN d (txtA x 0) k : Int)) (hl : d.length ≤ 60) : LastN d (k + 1) (txtA x 0) (IntKind.i64.wrap (m + 1)) where
  name _ := ⟨x, hx, rfl⟩
  num _ := by
    have := pos_le d (txtA x 0) k
    rw [pos_up hx, hm, wrap_i64_id _ (by omega) (by omega)]; rfl
set_option maxHeartbeats 8000000 in
theorem specDefs {a b c d : List (List Val)} (hE : EngP a b c d) : Ent Tryz.prog 32 [.d (dbArg (engTs a b c d))] [] (.d (.b (dec (defsB a d)))) [] := by
  obtain ⟨o, ho⟩ : ∃ o, o = dec (defsB a d) := ⟨_, rfl⟩
  rw [← ho]
  have hla : a.length ≤ maxLen := Nat.le_trans hE.defs.most (by decide)
  have hld : d.length ≤ maxLen := Nat.le_trans hE.steps.most (by decide)
  have hl60 : d.length ≤ 60 := hE.steps.most
  refine ent_of tok mixed (f := 32) Tryz.func32 (by kernel_rfl) (keep := false) ?_
  repeat' ((conv => whnf) <;> (first | ((with_reducible refine isCall ?_) <;> (first | (refine ⟨_, (specDef hE (txtA x 0)), ?_⟩; rintro _ _ ⟨rfl, rfl⟩) | (refine ⟨_, (specDef hE (txtA y 0)), ?_⟩; rintro _ _ ⟨rfl, rfl⟩) | (refine ⟨_, (specDef hE l), ?_⟩; rintro _ _ ⟨rfl, rfl⟩) | (refine ⟨_, (specDefRight (defM a d (txtA x 0)) (defM_fits hE _)), ?_⟩; rintro _ _ ⟨rfl, rfl⟩) | (refine ⟨_, get_map' (cell_at hyl rfl), ?_⟩) | (refine ⟨_, get_map' (cell_at hxl rfl), ?_⟩) | (refine ⟨_, rfl, ?_⟩) | (refine ⟨Int.natCast_nonneg _, ?_⟩) | (refine ⟨by decide, ?_⟩) | fail)) | ((with_reducible refine isLoop ?_) <;> (first | (refine ⟨[1, 6, 7, 8], [10001], fun st => ∃ (k2 : Nat) (i : Int) (l : List UInt8) (n : Int), i = k2 ∧ LastN d k2 l n ∧ (∀ j s, j < k2 → d[j]? = some s → defIs a (txtA s 0) = true ∧ numA s 1 = (posN d (txtA s 0) j : Int)) ∧ st = ⟨[(1, .ptr 10001 0), (6, .d (.s l)), (7, .d (.i .i64 n)), (8, .d (.i .i64 i))], [(10001, .var [.d (.sl false ((engTs a b c d).map tabD))])]⟩, fun s' => match look 8 s'.env with | some (.d (.i _ n)) => d.length - n.toNat | _ => 0, rfl, ⟨0, _, _, _, rfl, ⟨fun h => absurd h (Nat.lt_irrefl 0), fun h => absurd h (Nat.lt_irrefl 0)⟩, (fun j s h => absurd h (Nat.not_lt_zero _)), rfl⟩, ?_⟩; rintro st ⟨k2, i, l, n, rfl, hL, hv2, rfl⟩) | (refine ⟨[1, 3], [10001], fun st => ∃ (k : Nat) (i : Int), i = k ∧ (∀ j r, j < k → a[j]? = some r → defOk (defM a d (txtA r 0)) = true) ∧ st = ⟨[(1, .ptr 10001 0), (3, .d (.i .i64 i))], [(10001, .var [.d (.sl false ((engTs a b c d).map tabD))])]⟩, fun s' => match look 3 s'.env with | some (.d (.i _ n)) => a.length - n.toNat | _ => 0, rfl, ⟨0, _, rfl, (fun j s h => absurd h (Nat.not_lt_zero _)), rfl⟩, ?_⟩; rintro st ⟨k, i, rfl, hv, rfl⟩) | (refine ⟨_, get_map' (cell_at hyl rfl), ?_⟩) | (refine ⟨_, get_map' (cell_at hxl rfl), ?_⟩) | (refine ⟨_, rfl, ?_⟩) | (refine ⟨Int.natCast_nonneg _, ?_⟩) | (refine ⟨by decide, ?_⟩) | fail)) | ((with_reducible refine isCut ?_) <;> (first | refine ⟨⟨none⟩, ?_⟩)) | ((first | with_reducible refine isEx ?_ | with_reducible refine isAnd ?_ | with_reducible refine isOr ?_) <;> (first | ((with_reducible refine isGet (xs := d.map rowD) (i := ((k2 : Nat) : Int).toNat) ?_); obtain ⟨y, hy⟩ := get_ex (ss := d) (k := k2) (lt_of_dec (by assumption)); have hyl : y.length = 8 := row_len hE.steps hy; refine ⟨_, get_map' hy, ?_⟩) | ((with_reducible refine isGet (xs := a.map rowD) (i := ((k : Nat) : Int).toNat) ?_); obtain ⟨x, hx⟩ := get_ex (ss := a) (k := k) (lt_of_dec (by assumption)); have hxl : x.length = 2 := row_len hE.defs hx; refine ⟨_, get_map' hx, ?_⟩) | (refine ⟨_, get_map' (cell_at hyl rfl), ?_⟩) | (refine ⟨_, get_map' (cell_at hxl rfl), ?_⟩) | (refine ⟨_, rfl, ?_⟩) | (refine ⟨Int.natCast_nonneg _, ?_⟩) | (refine ⟨by decide, ?_⟩) | ((with_reducible refine isSmall ?_) <;> (refine ⟨?_, ?_⟩; kernel_rfl)) | refine ⟨rfl, ?_⟩ | refine ⟨Int.natCast_nonneg _, ?_⟩)) | with_reducible refine Both.mk ?_ ?_ | rintro _ rfl | exact rfl | (split <;> (rename_i h; first | (simp only [beq_self_eq_true, eq_self, decide_true, Bool.not_true, Bool.false_eq_true] at h; done) | (try rw [h])))))
  all_goals try (conv => whnf)
  all_goals first
    | exact ⟨⟨k + 1, _, step_up (get_lt hx) hla, (fun j r hj hr => by
         by_cases e : j = k
         · subst e; rw [hx] at hr; cases hr; exact not_ok (by assumption)
         · exact hv j r (by omega) hr), rfl⟩, mu_up (get_lt hx) hla⟩
    | (have e : txtA y 0 = l := of_decide_eq_true (not_ok (by assumption : (!decide ((y.getD (Int.toNat 0) vz).text = l)) = false))
       have hk0 : 0 < k2 := (by have := of_decide_eq_false (by assumption : decide ((k2 : Int) = 0) = false); omega)
       subst e
       have hm := last_same hL hy hk0 rfl
       first
         | exact ⟨⟨k2 + 1, _, _, _, step_up (get_lt hy) hld, last_up hy hm hl60, (fun j s hj hs => by
              by_cases e : j = k2
              · subst e; rw [hy] at hs; cases hs; exact ⟨not_ok (by assumption), (of_decide_eq_true (not_ok (by assumption : (!decide ((y.getD (Int.toNat 1) vz).n = n)) = false))).trans hm⟩
              · exact hv2 j s (by omega) hs), rfl⟩, mu_up (get_lt hy) hld⟩
         | (refine ⟨congrArg (fun b => AV.d (D.b b)) ?_, rfl⟩
            rw [ho]; symm
            refine dec_false fun h0 => ?_
            have h1 := h0.steps k2 y hy
            first
              | exact absurd (h1.1.symm.trans (not_ok' (by assumption))) (by decide)
              | exact of_decide_eq_false (not_ok' (by assumption : (!decide ((y.getD (Int.toNat 1) vz).n = n)) = true)) (h1.2.trans hm.symm)))
    | (have hor : k2 = 0 ∨ ¬ txtA y 0 = l := (by first | exact .inl (by have := of_decide_eq_true (by assumption : decide ((k2 : Int) = 0) = true); omega) | exact .inr (of_decide_eq_false (not_ok' (by assumption : (!decide ((y.getD (Int.toNat 0) vz).text = l)) = true))))
       have hm := last_new hE hL hy hor
       first
         | exact ⟨⟨k2 + 1, _, _, _, step_up (get_lt hy) hld, last_up hy hm hl60, (fun j s hj hs => by
              by_cases e : j = k2
              · subst e; rw [hy] at hs; cases hs; exact ⟨not_ok (by assumption), (of_decide_eq_true (not_ok (by assumption : (!decide ((y.getD (Int.toNat 1) vz).n = 0)) = false))).trans hm⟩
              · exact hv2 j s (by omega) hs), rfl⟩, mu_up (get_lt hy) hld⟩
         | (refine ⟨congrArg (fun b => AV.d (D.b b)) ?_, rfl⟩
            rw [ho]; symm
            refine dec_false fun h0 => ?_
            have h1 := h0.steps k2 y hy
            first
              | exact absurd (h1.1.symm.trans (not_ok' (by assumption))) (by decide)
              | exact of_decide_eq_false (not_ok' (by assumption : (!decide ((y.getD (Int.toNat 1) vz).n = 0)) = true)) (h1.2.trans hm.symm)))
    | (refine ⟨congrArg (fun b => AV.d (D.b b)) ?_, rfl⟩
       rw [ho]; symm
       have hlm : (d.map rowD).length = d.length := List.length_map ..
       have hlm2 : (a.map rowD).length = a.length := List.length_map ..
       first
         | exact dec_true ⟨fun j r hr => hv j r (by have := get_lt hr; have := of_decide_eq_false (by assumption : decide ((k : Int) < ((a.map rowD).length : Int)) = false); omega) hr, fun j s hs => hv2 j s (by have := get_lt hs; have := of_decide_eq_false (by assumption : decide ((k2 : Int) < ((d.map rowD).length : Int)) = false); omega) hs⟩
         | exact dec_false fun h0 => absurd ((h0.ok k x hx).symm.trans (not_ok' (by assumption))) (by decide))
    | trace_state
end Go.Pm.Tryz
namespace Go.Pm.Tryz
open Go Go.Proofs
set_option linter.unusedVariables false
set_option linter.unusedSimpArgs false
set_option maxRecDepth 100000
def defRow (d : List (List Val)) (r : List Val) : Def := ⟨txtA r 0, stepsN d (txtA r 0), numA r 1⟩
def numbered (d : List (List Val)) (nm : List UInt8) : Prop := ∀ (j : Nat) (s : List Val), d[j]? = some s → txtA s 0 = nm → numA s 1 = (posN d nm j : Int)
def okRow (d : List (List Val)) (r : List Val) : Prop := numbered d (txtA r 0) ∧ defOk (defRow d r) = true
def total (d l : List (List Val)) : Nat := (l.map fun r => (stepsN d (txtA r 0)).length).sum
def goodDefs (a d : List (List Val)) : Prop := (∀ (k : Nat) (r : List Val), a[k]? = some r → okRow d r) ∧ total d a = d.length
theorem defRow_fits {a b c d : List (List Val)} (hE : EngP a b c d) {k : Nat} {r : List Val} (hr : a[k]? = some r) : (defRow d r).fits :=
  ⟨Nat.le_trans (cell_text (t := ⟨defsS, a⟩) hE.defs (i := 0) hr rfl).2 (Nat.le_of_ble_eq_true rfl), Nat.le_trans (stepsN_len d _) (Nat.le_trans hE.steps.most (by decide)), stepsN_fits hE _⟩
theorem total_up {a d : List (List Val)} {k : Nat} {r : List Val} (hr : a[k]? = some r) : total d (a.take (k + 1)) = total d (a.take k) + (stepsN d (txtA r 0)).length := by
  unfold total
  rw [take_up hr, List.map_append, List.sum_append]; simp
theorem total_le (a d : List (List Val)) (k : Nat) : total d (a.take k) ≤ d.length * k := by
  induction k with
  | zero => simp [total]
  | succ k ih =>
    rcases Nat.lt_or_ge k a.length with h | h
    · obtain ⟨r, hr⟩ := get_ex h
      rw [total_up hr, Nat.mul_succ]
      have := stepsN_len d (txtA r 0)
      omega
    · rw [List.take_of_length_le (by omega)]
      rw [List.take_of_length_le h] at ih
      rw [Nat.mul_succ]; omega
theorem pos_end (d : List (List Val)) (nm : List UInt8) {k : Nat} (h : d.length ≤ k) : posN d nm k = (stepsN d nm).length := by
  unfold posN stepsN; rw [List.take_of_length_le h, List.length_map]
theorem pos_hit {d : List (List Val)} {nm : List UInt8} {k : Nat} {x : List Val} (hx : d[k]? = some x) (h : txtA x 0 = nm) : posN d nm (k + 1) = posN d nm k + 1 := by subst h; exact pos_up hx
theorem pos_miss {d : List (List Val)} {nm : List UInt8} {k : Nat} {x : List Val} (hx : d[k]? = some x) (h : ¬ txtA x 0 = nm) : posN d nm (k + 1) = posN d nm k := by
  unfold posN
  rw [take_up hx, List.filter_append, List.filter_cons, if_neg (by simpa [sameN] using h)]; simp
def ReadDefs (a d : List (List Val)) (R : AV) (O : List Ob) : Prop := (R = .tup [.d (.sl false []), .d (.b false)] ∧ O = [] ∧ ¬ goodDefs a d) ∨ (R = .tup [.d (.sl false ((a.map (defRow d)).map defD)), .d (.b (dec (goodDefs a d)))] ∧ O = [])
theorem steps_all {d : List (List Val)} {nm : List UInt8} {k2 : Nat} {xs : List D} (hxs : xs = (((d.take k2).filter (sameN nm)).map stepR).map stepD) (h : decide ((k2 : Int) < ((d.map rowD).length : Int)) = false) : xs = (stepsN d nm).map stepD := by
  have := of_decide_eq_false h
  rw [List.length_map] at this
  rw [hxs, List.take_of_length_le (by omega)]; rfl
theorem defRight_at {a b c d : List (List Val)} (hE : EngP a b c d) {k : Nat} {x : List Val} (hx : a[k]? = some x) {k2 : Nat} {xs : List D} (hxs : xs = (((d.take k2).filter (sameN (txtA x 0))).map stepR).map stepD) (h : decide ((k2 : Int) < ((d.map rowD).length : Int)) = false) :
    Ent Tryz.prog 125 [.d (.agg [.s (txtA x 0), .sl false xs, .i .i64 (numA x 1)])] [] (.d (.b (defOk (defRow d x)))) [] := by
  rw [steps_all hxs h]; exact implDefRight (defRow d x) (defRow_fits hE hx)
theorem xs_len {d : List (List Val)} {nm : List UInt8} {k2 : Nat} {xs : List D} (hxs : xs = (((d.take k2).filter (sameN nm)).map stepR).map stepD) : xs.length = posN d nm k2 := by
  rw [hxs, List.length_map, List.length_map]; rfl
theorem def_push {a d : List (List Val)} {k : Nat} {x : List Val} (hx : a[k]? = some x) {outs xs : List D} (h : outs = ((a.take k).map (defRow d)).map defD) (hxs : xs = (stepsN d (txtA x 0)).map stepD) : outs ++ [D.agg [.s (txtA x 0), .sl false xs, .i .i64 (numA x 1)]] = ((a.take (k + 1)).map (defRow d)).map defD := by
  rw [h, hxs, take_up hx, List.map_append, List.map_append]; rfl
set_option maxHeartbeats 16000000 in
theorem implReadDefs {a b c d : List (List Val)} (hE : EngP a b c d) : EntQ Tryz.prog 75 [.d (.sl false (a.map rowD)), .d (.sl false (d.map rowD))] [] (ReadDefs a d) := by
  have hla : a.length ≤ maxLen := Nat.le_trans hE.defs.most (by decide)
  have hld : d.length ≤ maxLen := Nat.le_trans hE.steps.most (by decide)
  have ha60 : a.length ≤ 60 := hE.defs.most
  have hd60 : d.length ≤ 60 := hE.steps.most
  refine ent_of (cx := ⟨tab, [], [(17, [.frz 10078])]⟩) tok mixed (f := 75) Tryz.func75 (by kernel_rfl) (keep := false) ?_
  repeat' ((conv => whnf) <;> (first | ((with_reducible refine isCall ?_) <;> (first | (refine ⟨_, (defRight_at hE hx hxs (by assumption)), ?_⟩; rintro _ _ ⟨rfl, rfl⟩) | (refine ⟨_, get_map' (cell_at hyl rfl), ?_⟩) | (refine ⟨_, get_map' (cell_at hxl rfl), ?_⟩) | (refine ⟨Int.natCast_nonneg _, ?_⟩) | (refine ⟨by decide, ?_⟩) | (refine ⟨⟨by decide, rfl, rfl, room_add (by rw [hxs]; simp only [List.length_map]; have := List.length_filter_le (sameN (txtA x 0)) (d.take k2); rw [List.length_take] at this; omega) (by decide)⟩, ?_⟩) | (refine ⟨⟨by decide, rfl, rfl, room_add (by rw [houts]; simp only [List.length_map, List.length_take]; omega) (by decide)⟩, ?_⟩) | fail)) | ((with_reducible refine isLoop ?_) <;> (first | (refine ⟨[1, 6, 7, 10, 14, 15, 16, 29, 30, 31], [10010, 10013, .cell 10078 6 false 10010 1], fun st => ∃ (k2 : Nat) (i2 : Int) (n2 : Int) (xs : List D), i2 = k2 ∧ (∀ (j : Nat) (s : List Val), j < k2 → d[j]? = some s → txtA s 0 = txtA x 0 → numA s 1 = (posN d (txtA x 0) j : Int)) ∧ n2 = ((total d (a.take k) + posN d (txtA x 0) k2 : Nat) : Int) ∧ xs = (((d.take k2).filter (sameN (txtA x 0))).map stepR).map stepD ∧ st = ⟨[(1, .d (.sl false (d.map rowD))), (6, .own 10013), (7, .d (.i .i64 n2)), (10, .ptr 10010 0), (14, .d (.sl false (a.map rowD))), (15, .d (.i .i64 ((a.map rowD).length : Int))), (16, .d (.i .i64 k)), (29, .d (.sl false (d.map rowD))), (30, .d (.i .i64 ((d.map rowD).length : Int))), (31, .d (.i .i64 i2))], [(10010, .var [.d (.s (txtA x 0)), .own 10078, .d (.i .i64 (numA x 1))]), (10013, .arr 3 false outs), (10078, .arr 6 false xs)]⟩, fun s' => match look 31 s'.env with | some (.d (.i _ n)) => d.length - n.toNat | _ => 0, ?_, ⟨0, _, _, _, rfl, (fun j s h => absurd h (Nat.not_lt_zero _)), hn, rfl, ?_⟩, ?_⟩; kernel_rfl; kernel_rfl; rintro st ⟨k2, i2, n2, xs, rfl, hv2, hn2, hxs, rfl⟩) | (refine ⟨[1, 6, 7, 14, 15, 16], [10013], fun st => ∃ (k : Nat) (i : Int) (n : Int) (outs : List D), i = k ∧ (∀ (j : Nat) (r : List Val), j < k → a[j]? = some r → okRow d r) ∧ n = ((total d (a.take k) : Nat) : Int) ∧ outs = ((a.take k).map (defRow d)).map defD ∧ st = ⟨[(1, .d (.sl false (d.map rowD))), (6, .own 10013), (7, .d (.i .i64 n)), (14, .d (.sl false (a.map rowD))), (15, .d (.i .i64 ((a.map rowD).length : Int))), (16, .d (.i .i64 i))], [(10013, .arr 3 false outs)]⟩, fun s' => match look 16 s'.env with | some (.d (.i _ n)) => a.length - n.toNat | _ => 0, ?_, ⟨0, _, _, _, rfl, (fun j s h => absurd h (Nat.not_lt_zero _)), rfl, rfl, ?_⟩, ?_⟩; kernel_rfl; kernel_rfl; rintro st ⟨k, i, n, outs, rfl, hv, hn, houts, rfl⟩) | (refine ⟨_, get_map' (cell_at hyl rfl), ?_⟩) | (refine ⟨_, get_map' (cell_at hxl rfl), ?_⟩) | (refine ⟨Int.natCast_nonneg _, ?_⟩) | (refine ⟨by decide, ?_⟩) | (refine ⟨⟨by decide, rfl, rfl, room_add (by rw [hxs]; simp only [List.length_map]; have := List.length_filter_le (sameN (txtA x 0)) (d.take k2); rw [List.length_take] at this; omega) (by decide)⟩, ?_⟩) | (refine ⟨⟨by decide, rfl, rfl, room_add (by rw [houts]; simp only [List.length_map, List.length_take]; omega) (by decide)⟩, ?_⟩) | fail)) | ((with_reducible refine isCut ?_) <;> (first | refine ⟨⟨none⟩, ?_⟩)) | ((first | with_reducible refine isEx ?_ | with_reducible refine isAnd ?_ | with_reducible refine isOr ?_) <;> (first | ((with_reducible refine isGet (xs := d.map rowD) (i := ((k2 : Nat) : Int).toNat) ?_); obtain ⟨y, hy⟩ := get_ex (ss := d) (k := k2) (lt_of_dec (by assumption)); have hyl : y.length = 8 := row_len hE.steps hy; refine ⟨_, get_map' hy, ?_⟩) | ((with_reducible refine isGet (xs := a.map rowD) (i := ((k : Nat) : Int).toNat) ?_); obtain ⟨x, hx⟩ := get_ex (ss := a) (k := k) (lt_of_dec (by assumption)); have hxl : x.length = 2 := row_len hE.defs hx; refine ⟨_, get_map' hx, ?_⟩) | (refine ⟨_, get_map' (cell_at hyl rfl), ?_⟩) | (refine ⟨_, get_map' (cell_at hxl rfl), ?_⟩) | (refine ⟨Int.natCast_nonneg _, ?_⟩) | (refine ⟨by decide, ?_⟩) | (refine ⟨⟨by decide, rfl, rfl, room_add (by rw [hxs]; simp only [List.length_map]; have := List.length_filter_le (sameN (txtA x 0)) (d.take k2); rw [List.length_take] at this; omega) (by decide)⟩, ?_⟩) | (refine ⟨⟨by decide, rfl, rfl, room_add (by rw [houts]; simp only [List.length_map, List.length_take]; omega) (by decide)⟩, ?_⟩) | ((with_reducible refine isSmall ?_) <;> (refine ⟨?_, ?_⟩; kernel_rfl)) | refine ⟨rfl, ?_⟩ | refine ⟨Int.natCast_nonneg _, ?_⟩)) | with_reducible refine Both.mk ?_ ?_ | rintro _ rfl | exact rfl | (split <;> (rename_i h; first | (simp only [beq_self_eq_true, eq_self, decide_true, Bool.not_true, Bool.false_eq_true] at h; done) | (try rw [h])))))
  all_goals try (conv => whnf)
  all_goals first
    | (have hne : ¬ txtA y 0 = txtA x 0 := of_decide_eq_false (not_ok' (by assumption : (!decide ((y.getD (Int.toNat 0) vz).text = txtA x 0)) = true))
       exact ⟨⟨k2 + 1, _, _, _, step_up (get_lt hy) hld, (fun j s hj hs he => by
         by_cases e : j = k2
         · subst e; rw [hy] at hs; cases hs; exact absurd he hne
         · exact hv2 j s (by omega) hs he), (by rw [hn2, pos_miss hy hne]), (by rw [hxs]; exact steps_skip hy (decide_eq_false hne)), rfl⟩, mu_up (get_lt hy) hld⟩)
    | (have heq : txtA y 0 = txtA x 0 := of_decide_eq_true (not_ok (by assumption : (!decide ((y.getD (Int.toNat 0) vz).text = txtA x 0)) = false))
       have hnum : ¬ numA y 1 = (xs.length : Int) := of_decide_eq_false (not_ok' (by assumption : (!decide ((y.getD (Int.toNat 1) vz).n = (xs.length : Int))) = true))
       refine .inl ⟨rfl, rfl, fun hg => hnum ?_⟩
       rw [xs_len hxs]
       exact (hg.1 k x hx).1 k2 y hy heq)
    | (have heq : txtA y 0 = txtA x 0 := of_decide_eq_true (not_ok (by assumption : (!decide ((y.getD (Int.toNat 0) vz).text = txtA x 0)) = false))
       have hnum : numA y 1 = (xs.length : Int) := of_decide_eq_true (not_ok (by assumption : (!decide ((y.getD (Int.toNat 1) vz).n = (xs.length : Int))) = false))
       have q1 := total_le a d k
       have q2 := pos_le d (txtA x 0) k2
       have q3 := get_lt hx
       have q4 : d.length * k ≤ 60 * 60 := Nat.mul_le_mul hd60 (by omega)
       exact ⟨⟨k2 + 1, _, _, _, step_up (get_lt hy) hld, (fun j s hj hs he => by
         by_cases e : j = k2
         · subst e; rw [hy] at hs; cases hs; rw [hnum, xs_len hxs]
         · exact hv2 j s (by omega) hs he), (by rw [hn2, pos_hit hy heq, wrap_i64_id _ (by omega) (by omega)]; rfl), (by rw [hxs]; exact steps_next hy (decide_eq_true heq)), rfl⟩, mu_up (get_lt hy) hld⟩)
    | (have hno : defOk (defRow d x) = false := not_ok' (by assumption)
       exact .inl ⟨rfl, rfl, fun hg => absurd ((hg.1 k x hx).2.symm.trans hno) (by decide)⟩)
    | (have hyes : defOk (defRow d x) = true := not_ok (by assumption)
       have hk2 := of_decide_eq_false (by assumption : decide ((k2 : Int) < ((d.map rowD).length : Int)) = false)
       rw [List.length_map] at hk2
       exact ⟨⟨k + 1, _, _, _, step_up (get_lt hx) hla, (fun j r hj hr => by
         by_cases e : j = k
         · subst e; rw [hx] at hr; cases hr; exact ⟨fun j s hs he => hv2 j s (by have := get_lt hs; omega) hs he, hyes⟩
         · exact hv j r (by omega) hr), (by rw [hn2, total_up hx, pos_end d _ (by omega)]), def_push hx houts (steps_all hxs (by assumption : decide ((k2 : Int) < ((d.map rowD).length : Int)) = false)), rfl⟩, mu_up (get_lt hx) hla⟩)
    | (have hk : ¬ (k : Int) < ((a.map rowD).length : Int) := of_decide_eq_false (by assumption)
       rw [List.length_map] at hk
       rw [List.take_of_length_le (by omega)] at hn houts
       have e : dec (goodDefs a d) = decide (n = ((d.map rowD).length : Int)) := by
         rw [hn, List.length_map]
         by_cases h0 : total d a = d.length
         · rw [decide_eq_true (by rw [h0])]
           exact dec_true ⟨fun j r hr => hv j r (by have := get_lt hr; omega) hr, h0⟩
         · rw [decide_eq_false (by omega)]
           exact dec_false fun hg => h0 hg.2
       refine .inr ⟨?_, rfl⟩
       rw [e, ← houts]; rfl)
    | trace_state
end Go.Pm.Tryz
namespace Go.Pm.Tryz
open Go Go.Proofs
set_option linter.unusedVariables false
set_option linter.unusedSimpArgs false
set_option maxRecDepth 100000
structure Kept where
  id : Int
  next : Int
  name : List UInt8
  saga : Saga
structure Owe where
  id : Int
  saga : Int
  com : Command
  sent : Bool
  owner : Int
  until' : Int
def keptD (k : Kept) : D := .agg [.i .i64 k.id, .i .i64 k.next, .s k.name, .i .i64 k.saga.ph, .i .i64 k.saga.done, .i .i64 k.saga.pos, .i .i64 k.saga.tries, .b k.saga.waits, .i .i64 k.saga.clock]
def oweD (o : Owe) : D := .agg [.i .i64 o.id, .i .i64 o.saga, .i .i64 o.com.step, .b o.com.undo, .i .i64 o.com.try', .b o.sent, .i .i64 o.owner, .i .i64 o.until']
def keptR (r : List Val) : Kept := ⟨numA r 0, numA r 8, txtA r 1, sagaR r⟩
def oweR (r : List Val) : Owe := ⟨numA r 0, numA r 1, comR r, decide (numA r 5 = 1), numA r 6, numA r 7⟩
def namedD (nm : List UInt8) (d : Def) : Bool := decide (d.name = nm)
def idK (id : Int) (k : Kept) : Bool := decide (k.id = id)
def zeroDef : Def := ⟨[], [], 0⟩
def zeroKept : Kept := ⟨0, 0, [], ⟨0, 0, 0, 0, false, 0⟩⟩
def defF (ds : List Def) (nm : List UInt8) : Def := match decide (idxP (namedD nm) ds 0 < 0) with | true => zeroDef | false => ds.getD (idxP (namedD nm) ds 0).toNat zeroDef
def keptF (ks : List Kept) (id : Int) : Kept := match decide (idxP (idK id) ks 0 < 0) with | true => zeroKept | false => ks.getD (idxP (idK id) ks 0).toNat zeroKept
theorem sameDef (x : Def) (q : List UInt8) : Ent Tryz.prog 91 [.d (defD x), .ptr 0 0] [.var [.d (.s q)]] (.d (.b (namedD q x))) [.var [.d (.s q)]] := by
  refine ent_of tok mixed (f := 91) Tryz.func91 (by kernel_rfl) (keep := false) ?_
  repeat' ((conv => whnf) <;> (first | ((with_reducible refine isCall ?_) <;> (first | fail)) | ((with_reducible refine isCut ?_) <;> (first | refine ⟨⟨none⟩, ?_⟩)) | ((first | with_reducible refine isEx ?_ | with_reducible refine isAnd ?_ | with_reducible refine isOr ?_) <;> (first | ((with_reducible refine isSmall ?_) <;> (refine ⟨?_, ?_⟩; kernel_rfl)) | refine ⟨rfl, ?_⟩ | refine ⟨Int.natCast_nonneg _, ?_⟩)) | with_reducible refine Both.mk ?_ ?_ | rintro _ rfl | exact rfl | (split <;> (rename_i h; first | (simp only [beq_self_eq_true, eq_self, decide_true, Bool.not_true, Bool.false_eq_true] at h; done) | (try rw [h])))))
theorem indexDef (l : List Def) (hl : l.length ≤ maxLen) (q : List UInt8) : Ent Tryz.prog 90 [.d (.sl false (l.map defD)), .fn 91 [.ptr 0 0]] [.var [.d (.s q)]] (.d (.i .i64 (idxP (namedD q) l 0))) [.var [.d (.s q)]] := by
  obtain ⟨o, ho⟩ : ∃ o, o = idxP (namedD q) l 0 := ⟨_, rfl⟩
  rw [← ho]
  refine ent_of tok mixed (f := 90) Tryz.func90 (by kernel_rfl) (keep := false) ?_
  repeat' ((conv => whnf) <;> (first | ((with_reducible refine isCall ?_) <;> (first | (refine ⟨_, c1, ?_⟩; rintro _ _ ⟨rfl, rfl⟩) | (obtain ⟨x, hx⟩ := get_ex (ss := l) (k := k) (lt_of_dec (by assumption)); have c1 := sameDef x q; refine ⟨_, get_map' hx, ?_⟩) | fail)) | ((with_reducible refine isLoop ?_) <;> (first | (refine ⟨[0, 1, 7, 8], [0], fun st => ∃ (k : Nat) (i : Int), i = k ∧ o = idxP (namedD q) (l.drop k) k ∧ st = ⟨[(0, .d (.sl false (l.map defD))), (1, .fn 91 [.ptr 0 0]), (7, .d (.i .i64 ((l.map defD).length : Int))), (8, .d (.i .i64 i))], [(0, .var [.d (.s q)])]⟩, fun s' => match look 8 s'.env with | some (.d (.i _ n)) => l.length - n.toNat | _ => 0, rfl, ⟨0, _, rfl, ho, rfl⟩, ?_⟩; rintro st ⟨k, i, rfl, hu, rfl⟩) | (obtain ⟨x, hx⟩ := get_ex (ss := l) (k := k) (lt_of_dec (by assumption)); have c1 := sameDef x q; refine ⟨_, get_map' hx, ?_⟩) | fail)) | ((with_reducible refine isCut ?_) <;> (first | refine ⟨⟨none⟩, ?_⟩)) | ((first | with_reducible refine isEx ?_ | with_reducible refine isAnd ?_ | with_reducible refine isOr ?_) <;> (first | (obtain ⟨x, hx⟩ := get_ex (ss := l) (k := k) (lt_of_dec (by assumption)); have c1 := sameDef x q; refine ⟨_, get_map' hx, ?_⟩) | ((with_reducible refine isSmall ?_) <;> (refine ⟨?_, ?_⟩; kernel_rfl)) | refine ⟨rfl, ?_⟩ | refine ⟨Int.natCast_nonneg _, ?_⟩)) | with_reducible refine Both.mk ?_ ?_ | rintro _ rfl | exact rfl | (split <;> (rename_i h; first | (simp only [beq_self_eq_true, eq_self, decide_true, Bool.not_true, Bool.false_eq_true] at h; done) | (try rw [h])))))
  all_goals try (conv => whnf)
  all_goals first
    | (rw [hu, idx_here hx h]; exact ⟨rfl, rfl⟩)
    | exact ⟨⟨k + 1, _, step_up (get_lt hx) hl, hu.trans (idx_next hx h), rfl⟩, mu_up (get_lt hx) hl⟩
    | (have hh : ¬ (k : Int) < ((l.map defD).length : Int) := of_decide_eq_false h
       rw [List.length_map] at hh
       rw [hu, idx_end (by omega)]; exact ⟨rfl, rfl⟩)
    | trace_state
theorem sameKept (x : Kept) (q : Int) : Ent Tryz.prog 89 [.d (keptD x), .ptr 0 0] [.var [.d (.i .i64 q)]] (.d (.b (idK q x))) [.var [.d (.i .i64 q)]] := by
  refine ent_of tok mixed (f := 89) Tryz.func89 (by kernel_rfl) (keep := false) ?_
  repeat' ((conv => whnf) <;> (first | ((with_reducible refine isCall ?_) <;> (first | fail)) | ((with_reducible refine isCut ?_) <;> (first | refine ⟨⟨none⟩, ?_⟩)) | ((first | with_reducible refine isEx ?_ | with_reducible refine isAnd ?_ | with_reducible refine isOr ?_) <;> (first | ((with_reducible refine isSmall ?_) <;> (refine ⟨?_, ?_⟩; kernel_rfl)) | refine ⟨rfl, ?_⟩ | refine ⟨Int.natCast_nonneg _, ?_⟩)) | with_reducible refine Both.mk ?_ ?_ | rintro _ rfl | exact rfl | (split <;> (rename_i h; first | (simp only [beq_self_eq_true, eq_self, decide_true, Bool.not_true, Bool.false_eq_true] at h; done) | (try rw [h])))))
theorem indexKept (l : List Kept) (hl : l.length ≤ maxLen) (q : Int) : Ent Tryz.prog 88 [.d (.sl false (l.map keptD)), .fn 89 [.ptr 0 0]] [.var [.d (.i .i64 q)]] (.d (.i .i64 (idxP (idK q) l 0))) [.var [.d (.i .i64 q)]] := by
  obtain ⟨o, ho⟩ : ∃ o, o = idxP (idK q) l 0 := ⟨_, rfl⟩
  rw [← ho]
  refine ent_of tok mixed (f := 88) Tryz.func88 (by kernel_rfl) (keep := false) ?_
  repeat' ((conv => whnf) <;> (first | ((with_reducible refine isCall ?_) <;> (first | (refine ⟨_, c1, ?_⟩; rintro _ _ ⟨rfl, rfl⟩) | (obtain ⟨x, hx⟩ := get_ex (ss := l) (k := k) (lt_of_dec (by assumption)); have c1 := sameKept x q; refine ⟨_, get_map' hx, ?_⟩) | fail)) | ((with_reducible refine isLoop ?_) <;> (first | (refine ⟨[0, 1, 7, 8], [0], fun st => ∃ (k : Nat) (i : Int), i = k ∧ o = idxP (idK q) (l.drop k) k ∧ st = ⟨[(0, .d (.sl false (l.map keptD))), (1, .fn 89 [.ptr 0 0]), (7, .d (.i .i64 ((l.map keptD).length : Int))), (8, .d (.i .i64 i))], [(0, .var [.d (.i .i64 q)])]⟩, fun s' => match look 8 s'.env with | some (.d (.i _ n)) => l.length - n.toNat | _ => 0, rfl, ⟨0, _, rfl, ho, rfl⟩, ?_⟩; rintro st ⟨k, i, rfl, hu, rfl⟩) | (obtain ⟨x, hx⟩ := get_ex (ss := l) (k := k) (lt_of_dec (by assumption)); have c1 := sameKept x q; refine ⟨_, get_map' hx, ?_⟩) | fail)) | ((with_reducible refine isCut ?_) <;> (first | refine ⟨⟨none⟩, ?_⟩)) | ((first | with_reducible refine isEx ?_ | with_reducible refine isAnd ?_ | with_reducible refine isOr ?_) <;> (first | (obtain ⟨x, hx⟩ := get_ex (ss := l) (k := k) (lt_of_dec (by assumption)); have c1 := sameKept x q; refine ⟨_, get_map' hx, ?_⟩) | ((with_reducible refine isSmall ?_) <;> (refine ⟨?_, ?_⟩; kernel_rfl)) | refine ⟨rfl, ?_⟩ | refine ⟨Int.natCast_nonneg _, ?_⟩)) | with_reducible refine Both.mk ?_ ?_ | rintro _ rfl | exact rfl | (split <;> (rename_i h; first | (simp only [beq_self_eq_true, eq_self, decide_true, Bool.not_true, Bool.false_eq_true] at h; done) | (try rw [h])))))
  all_goals try (conv => whnf)
  all_goals first
    | (rw [hu, idx_here hx h]; exact ⟨rfl, rfl⟩)
    | exact ⟨⟨k + 1, _, step_up (get_lt hx) hl, hu.trans (idx_next hx h), rfl⟩, mu_up (get_lt hx) hl⟩
    | (have hh : ¬ (k : Int) < ((l.map keptD).length : Int) := of_decide_eq_false h
       rw [List.length_map] at hh
       rw [hu, idx_end (by omega)]; exact ⟨rfl, rfl⟩)
    | trace_state
set_option maxHeartbeats 2000000 in
theorem defOf1 (ds : List Def) (xs : List D) (hl : ds.length ≤ maxLen) (q : List UInt8) : Ent Tryz.prog 45 [.ptr 0 0, .d (.s q)] [.var [.d (.sl false (ds.map defD)), .own 1, .snil], .arr 9 false xs] (.tup [.d (defD (defF ds q)), .d (.b (!decide (idxP (namedD q) ds 0 < 0)))]) [.var [.d (.sl false (ds.map defD)), .own 1, .snil], .arr 9 false xs] := by
  have c1 := indexDef ds hl q
  obtain ⟨n, hn⟩ : ∃ n, n = idxP (namedD q) ds 0 := ⟨_, rfl⟩
  obtain ⟨x, hx⟩ : ∃ x, x = defF ds q := ⟨_, rfl⟩
  have hget : decide (n < 0) = false → 0 ≤ n ∧ ds[n.toNat]? = some x := fun h => by
    obtain ⟨j, y, h1, h2, _⟩ := idx_some ds 0 (by rw [← hn]; exact of_decide_eq_false h)
    have hj : n.toNat = j := by rw [hn, h1]; omega
    refine ⟨by have := of_decide_eq_false h; omega, ?_⟩
    rw [hj, h2, hx, defF, ← hn, h]
    simp only [hj, List.getD_eq_getElem?_getD, h2, Option.getD_some]
  have hz : decide (n < 0) = true → x = zeroDef := fun h => by rw [hx, defF, ← hn, h]
  rw [← hn] at c1 ⊢
  rw [← hx]
  refine ent_of tok mixed (f := 45) Tryz.func45 (by kernel_rfl) (keep := false) ?_
  repeat' ((conv => whnf) <;> (first | ((with_reducible refine isCall ?_) <;> (first | (refine ⟨_, c1, ?_⟩; rintro _ _ ⟨rfl, rfl⟩) | (refine ⟨_, get_map' (hget (by assumption)).2, ?_⟩) | (refine ⟨(hget (by assumption)).1, ?_⟩) | fail)) | ((with_reducible refine isCut ?_) <;> (first | refine ⟨⟨none⟩, ?_⟩)) | ((first | with_reducible refine isEx ?_ | with_reducible refine isAnd ?_ | with_reducible refine isOr ?_) <;> (first | (refine ⟨_, get_map' (hget (by assumption)).2, ?_⟩) | (refine ⟨(hget (by assumption)).1, ?_⟩) | ((with_reducible refine isSmall ?_) <;> (refine ⟨?_, ?_⟩; kernel_rfl)) | refine ⟨rfl, ?_⟩ | refine ⟨Int.natCast_nonneg _, ?_⟩)) | with_reducible refine Both.mk ?_ ?_ | rintro _ rfl | exact rfl | (split <;> (rename_i h; first | (simp only [beq_self_eq_true, eq_self, decide_true, Bool.not_true, Bool.false_eq_true] at h; done) | (try rw [h])))))
  all_goals try (conv => whnf)
  all_goals first
    | (have e := hz h; clear hget hx; subst e; simp only [h]; exact ⟨rfl, rfl⟩)
    | (rw [(by assumption : decide (n < 0) = false)]; exact ⟨rfl, rfl⟩)
    | trace_state
set_option maxHeartbeats 2000000 in
theorem defOf2 (ds : List Def) (ks : List Kept) (xs : List D) (hl : ds.length ≤ maxLen) (q : List UInt8) : Ent Tryz.prog 45 [.ptr 0 0, .d (.s q)] [.var [.d (.sl false (ds.map defD)), .d (.sl false (ks.map keptD)), .own 1], .arr 8 false xs] (.tup [.d (defD (defF ds q)), .d (.b (!decide (idxP (namedD q) ds 0 < 0)))]) [.var [.d (.sl false (ds.map defD)), .d (.sl false (ks.map keptD)), .own 1], .arr 8 false xs] := by
  have c1 := indexDef ds hl q
  obtain ⟨n, hn⟩ : ∃ n, n = idxP (namedD q) ds 0 := ⟨_, rfl⟩
  obtain ⟨x, hx⟩ : ∃ x, x = defF ds q := ⟨_, rfl⟩
  have hget : decide (n < 0) = false → 0 ≤ n ∧ ds[n.toNat]? = some x := fun h => by
    obtain ⟨j, y, h1, h2, _⟩ := idx_some ds 0 (by rw [← hn]; exact of_decide_eq_false h)
    have hj : n.toNat = j := by rw [hn, h1]; omega
    refine ⟨by have := of_decide_eq_false h; omega, ?_⟩
    rw [hj, h2, hx, defF, ← hn, h]
    simp only [hj, List.getD_eq_getElem?_getD, h2, Option.getD_some]
  have hz : decide (n < 0) = true → x = zeroDef := fun h => by rw [hx, defF, ← hn, h]
  rw [← hn] at c1 ⊢
  rw [← hx]
  refine ent_of tok mixed (f := 45) Tryz.func45 (by kernel_rfl) (keep := false) ?_
  repeat' ((conv => whnf) <;> (first | ((with_reducible refine isCall ?_) <;> (first | (refine ⟨_, c1, ?_⟩; rintro _ _ ⟨rfl, rfl⟩) | (refine ⟨_, get_map' (hget (by assumption)).2, ?_⟩) | (refine ⟨(hget (by assumption)).1, ?_⟩) | fail)) | ((with_reducible refine isCut ?_) <;> (first | refine ⟨⟨none⟩, ?_⟩)) | ((first | with_reducible refine isEx ?_ | with_reducible refine isAnd ?_ | with_reducible refine isOr ?_) <;> (first | (refine ⟨_, get_map' (hget (by assumption)).2, ?_⟩) | (refine ⟨(hget (by assumption)).1, ?_⟩) | ((with_reducible refine isSmall ?_) <;> (refine ⟨?_, ?_⟩; kernel_rfl)) | refine ⟨rfl, ?_⟩ | refine ⟨Int.natCast_nonneg _, ?_⟩)) | with_reducible refine Both.mk ?_ ?_ | rintro _ rfl | exact rfl | (split <;> (rename_i h; first | (simp only [beq_self_eq_true, eq_self, decide_true, Bool.not_true, Bool.false_eq_true] at h; done) | (try rw [h])))))
  all_goals try (conv => whnf)
  all_goals first
    | (have e := hz h; clear hget hx; subst e; simp only [h]; exact ⟨rfl, rfl⟩)
    | (rw [(by assumption : decide (n < 0) = false)]; exact ⟨rfl, rfl⟩)
    | trace_state
set_option maxHeartbeats 2000000 in
theorem sagaOf2 (ds : List Def) (ks : List Kept) (xs : List D) (hl : ks.length ≤ maxLen) (q : Int) : Ent Tryz.prog 44 [.ptr 0 0, .d (.i .i64 q)] [.var [.d (.sl false (ds.map defD)), .d (.sl false (ks.map keptD)), .own 1], .arr 8 false xs] (.tup [.d (keptD (keptF ks q)), .d (.b (!decide (idxP (idK q) ks 0 < 0)))]) [.var [.d (.sl false (ds.map defD)), .d (.sl false (ks.map keptD)), .own 1], .arr 8 false xs] := by
  have c1 := indexKept ks hl q
  obtain ⟨n, hn⟩ : ∃ n, n = idxP (idK q) ks 0 := ⟨_, rfl⟩
  obtain ⟨x, hx⟩ : ∃ x, x = keptF ks q := ⟨_, rfl⟩
  have hget : decide (n < 0) = false → 0 ≤ n ∧ ks[n.toNat]? = some x := fun h => by
    obtain ⟨j, y, h1, h2, _⟩ := idx_some ks 0 (by rw [← hn]; exact of_decide_eq_false h)
    have hj : n.toNat = j := by rw [hn, h1]; omega
    refine ⟨by have := of_decide_eq_false h; omega, ?_⟩
    rw [hj, h2, hx, keptF, ← hn, h]
    simp only [hj, List.getD_eq_getElem?_getD, h2, Option.getD_some]
  have hz : decide (n < 0) = true → x = zeroKept := fun h => by rw [hx, keptF, ← hn, h]
  rw [← hn] at c1 ⊢
  rw [← hx]
  refine ent_of tok mixed (f := 44) Tryz.func44 (by kernel_rfl) (keep := false) ?_
  repeat' ((conv => whnf) <;> (first | ((with_reducible refine isCall ?_) <;> (first | (refine ⟨_, c1, ?_⟩; rintro _ _ ⟨rfl, rfl⟩) | (refine ⟨_, get_map' (hget (by assumption)).2, ?_⟩) | (refine ⟨(hget (by assumption)).1, ?_⟩) | fail)) | ((with_reducible refine isCut ?_) <;> (first | refine ⟨⟨none⟩, ?_⟩)) | ((first | with_reducible refine isEx ?_ | with_reducible refine isAnd ?_ | with_reducible refine isOr ?_) <;> (first | (refine ⟨_, get_map' (hget (by assumption)).2, ?_⟩) | (refine ⟨(hget (by assumption)).1, ?_⟩) | ((with_reducible refine isSmall ?_) <;> (refine ⟨?_, ?_⟩; kernel_rfl)) | refine ⟨rfl, ?_⟩ | refine ⟨Int.natCast_nonneg _, ?_⟩)) | with_reducible refine Both.mk ?_ ?_ | rintro _ rfl | exact rfl | (split <;> (rename_i h; first | (simp only [beq_self_eq_true, eq_self, decide_true, Bool.not_true, Bool.false_eq_true] at h; done) | (try rw [h])))))
  all_goals try (conv => whnf)
  all_goals first
    | (have e := hz h; clear hget hx; subst e; simp only [h]; exact ⟨rfl, rfl⟩)
    | (rw [(by assumption : decide (n < 0) = false)]; exact ⟨rfl, rfl⟩)
    | trace_state
end Go.Pm.Tryz
namespace Go.Pm.Tryz
open Go Go.Proofs
set_option linter.unusedVariables false
set_option linter.unusedSimpArgs false
set_option maxRecDepth 100000
def comEq (x y : Command) : Bool := decide (x.step = y.step) && ((x.undo == y.undo) && (decide (x.try' = y.try') && true))
def idW (a b : Int) : Int := IntKind.i64.wrap (IntKind.i64.wrap (IntKind.i64.wrap (1000 * a) + b) - 1)
def waitsR (r : List Val) : Bool := decide (numA r 6 = 1)
def owedB (o r : List Val) : Bool := ((comEq (comR o) (comS (sagaR r)) && decide (numA o 0 = idW (numA r 0) (numA r 8))) && inside (numA o 6) 0 1000000) && inside (numA o 7) 0 2000000000
def outB (b : List (List Val)) (r : List Val) : Bool := match waitsR r with
  | false => decide (idxP (ofSaga (numA r 0)) b 0 < 0)
  | true => !decide (idxP (ofSaga (numA r 0)) b 0 < 0) && owedB (b.getD (idxP (ofSaga (numA r 0)) b 0).toNat []) r
def headB (a d : List (List Val)) (r : List Val) : Bool := ((defIs a (txtA r 1) && inside (numA r 0) 1 1000000) && sagaOk1 (defM a d (txtA r 1)) (sagaR r)) && inside (numA r 8) 1 1000
def sagaB (a b d : List (List Val)) (r : List Val) : Bool := headB a d r && outB b r
def sagasB (a b c d : List (List Val)) : Bool := c.all (sagaB a b d) && decide ((((c.filter waitsR).length : Nat) : Int) = (b.length : Int))
theorem waits_up {c : List (List Val)} {k : Nat} {x : List Val} (hx : c[k]? = some x) (h : waitsR x = true) (hl : c.length ≤ 60) : IntKind.i64.wrap ((((c.take k).filter waitsR).length : Int) + 1) = (((c.take (k + 1)).filter waitsR).length : Int) := by
  have := List.length_filter_le waitsR (c.take k)
  rw [List.length_take] at this
  rw [take_up hx, List.filter_append, List.filter_cons, if_pos h, List.length_append, wrap_i64_id _ (by omega) (by omega)]; rfl
theorem waits_no {c : List (List Val)} {k : Nat} {x : List Val} (hx : c[k]? = some x) (h : waitsR x = false) : (((c.take k).filter waitsR).length : Int) = (((c.take (k + 1)).filter waitsR).length : Int) := by
  rw [take_up hx, List.filter_append, List.filter_cons, if_neg (by rw [h]; decide)]; simp
theorem all_up {α : Type} {p : α → Bool} {xs : List α} {k : Nat} {x : α} (hx : xs[k]? = some x) (h : (xs.take k).all p = true) (h1 : p x = true) : (xs.take (k + 1)).all p = true := by
  rw [take_up hx, List.all_append, h]; simp [h1]
theorem all_no {α : Type} {p : α → Bool} {xs : List α} {k : Nat} {x : α} (hx : xs[k]? = some x) (h1 : p x = false) : xs.all p = false := by
  rw [List.all_eq_false]; exact ⟨x, get_mem hx, by rw [h1]; decide⟩
section
variable {a b d : List (List Val)} {x z : List Val} {q : Int}
theorem head_no1 (h : (!defIs a (txtA x 1)) = true) : sagaB a b d x = false := by unfold sagaB headB; rw [not_ok' h]; rfl
theorem head_no2 (h : (!inside (numA x 0) 1 1000000) = true) : sagaB a b d x = false := by unfold sagaB headB; rw [not_ok' h, Bool.and_false]; rfl
theorem head_no3 (h : (!sagaOk1 (defM a d (txtA x 1)) (sagaR x)) = true) : sagaB a b d x = false := by unfold sagaB headB; rw [not_ok' h, Bool.and_false]; rfl
theorem head_no4 (h : (!inside (numA x 8) 1 1000) = true) : sagaB a b d x = false := by unfold sagaB headB; rw [not_ok' h, Bool.and_false]; rfl
theorem head_ok (h1 : (!defIs a (txtA x 1)) = false) (h2 : (!inside (numA x 0) 1 1000000) = false) (h3 : (!sagaOk1 (defM a d (txtA x 1)) (sagaR x)) = false) (h4 : (!inside (numA x 8) 1 1000) = false) : headB a d x = true := by
  unfold headB; rw [not_ok h1, not_ok h2, not_ok h3, not_ok h4]; rfl
theorem out_no (h : outB b x = false) : sagaB a b d x = false := by unfold sagaB; rw [h, Bool.and_false]
theorem out_yes (h1 : headB a d x = true) (h : outB b x = true) : sagaB a b d x = true := by unfold sagaB; rw [h, h1]; rfl
theorem waits_yes (h : (!(sagaR x).waits) = false) : waitsR x = true := not_ok h
theorem waits_not (h : (!(sagaR x).waits) = true) : waitsR x = false := not_ok' h
theorem out_0 (hq : q = idxP (ofSaga (numA x 0)) b 0) (hw : waitsR x = false) : outB b x = decide (q < 0) := by unfold outB; rw [hw, ← hq]
theorem out_1 (hq : q = idxP (ofSaga (numA x 0)) b 0) (hw : waitsR x = true) (h : decide (q < 0) = true) : outB b x = false := by unfold outB; rw [hw, ← hq, h]; rfl
theorem out_2 (hq : q = idxP (ofSaga (numA x 0)) b 0) (hz : b[q.toNat]? = some z) (hw : waitsR x = true) (h : decide (q < 0) = false) : outB b x = owedB z x := by
  unfold outB; rw [hw, ← hq, h, List.getD_eq_getElem?_getD, hz]; rfl
theorem owed_1 (h : (!comEq (comR z) (comS (sagaR x))) = true) : owedB z x = false := by unfold owedB; rw [not_ok' h]; rfl
theorem owed_2 (h : (!decide (numA z 0 = idW (numA x 0) (numA x 8))) = true) : owedB z x = false := by unfold owedB; rw [not_ok' h, Bool.and_false]; rfl
theorem owed_3 (h : (!inside (numA z 6) 0 1000000) = true) : owedB z x = false := by unfold owedB; rw [not_ok' h, Bool.and_false]; rfl
theorem owed_4 (h : (!inside (numA z 7) 0 2000000000) = true) : owedB z x = false := by unfold owedB; rw [not_ok' h, Bool.and_false]
theorem owed_5 (h1 : (!comEq (comR z) (comS (sagaR x))) = false) (h2 : (!decide (numA z 0 = idW (numA x 0) (numA x 8))) = false) (h3 : (!inside (numA z 6) 0 1000000) = false) (h4 : (!inside (numA z 7) 0 2000000000) = false) : owedB z x = true := by
  unfold owedB; rw [not_ok h1, not_ok h2, not_ok h3, not_ok h4]; rfl
end
set_option maxHeartbeats 16000000 in
theorem specSagas {a b c d : List (List Val)} (hE : EngP a b c d) : Ent Tryz.prog 33 [.d (dbArg (engTs a b c d))] [] (.d (.b (sagasB a b c d))) [] := by
  obtain ⟨o, ho⟩ : ∃ o, o = sagasB a b c d := ⟨_, rfl⟩
  rw [← ho]
  unfold sagasB at ho
  have hlc : c.length ≤ maxLen := Nat.le_trans hE.sagas.most (by decide)
  have hl60 : c.length ≤ 60 := hE.sagas.most
  have hlb : (b.map rowD).length = b.length := List.length_map ..
  refine ent_of tok mixed (f := 33) Tryz.func33 (by kernel_rfl) (keep := false) ?_
  repeat' ((conv => whnf) <;> (first | ((with_reducible refine isCall ?_) <;> (first | (refine ⟨_, c1, ?_⟩; rintro _ _ ⟨rfl, rfl⟩) | (refine ⟨_, c2, ?_⟩; rintro _ _ ⟨rfl, rfl⟩) | (refine ⟨_, c3, ?_⟩; rintro _ _ ⟨rfl, rfl⟩) | (refine ⟨_, c4, ?_⟩; rintro _ _ ⟨rfl, rfl⟩) | (refine ⟨_, c5, ?_⟩; rintro _ _ ⟨rfl, rfl⟩) | (refine ⟨_, c6, ?_⟩; rintro _ _ ⟨rfl, rfl⟩) | (refine ⟨_, c7, ?_⟩; rintro _ _ ⟨rfl, rfl⟩) | (refine ⟨_, c8, ?_⟩; rintro _ _ ⟨rfl, rfl⟩) | (refine ⟨_, c9, ?_⟩; rintro _ _ ⟨rfl, rfl⟩) | (refine ⟨_, c10, ?_⟩; rintro _ _ ⟨rfl, rfl⟩) | (refine ⟨_, get_map' (cell_at hxl rfl), ?_⟩) | (refine ⟨_, get_map' (cell_at hzl rfl), ?_⟩) | (obtain ⟨j, z, hj, hz, hzp⟩ := idx_some b 0 (by rw [← hq]; exact of_decide_eq_false (by assumption : decide (q < 0) = false)); have hzl : z.length = 8 := row_len hE.outs hz; have hz2 : b[q.toNat]? = some z := (by rw [hq, hj, Nat.zero_add]; exact hz); have c8 := specComR z hzl; have c9 := l12In (numA z 6) 0 1000000; have c10 := l12In (numA z 7) 0 2000000000; refine ⟨_, get_map' hz2, ?_⟩) | (refine ⟨_, rfl, ?_⟩) | (refine ⟨(by have := of_decide_eq_false (by assumption : decide (q < 0) = false); omega), ?_⟩) | (refine ⟨Int.natCast_nonneg _, ?_⟩) | (refine ⟨by decide, ?_⟩) | fail)) | ((with_reducible refine isLoop ?_) <;> (first | (refine ⟨[1, 3, 4], [10001], fun st => ∃ (k : Nat) (i : Int) (n : Int), i = k ∧ (c.take k).all (sagaB a b d) = true ∧ n = (((c.take k).filter waitsR).length : Int) ∧ st = ⟨[(1, .ptr 10001 0), (3, .d (.i .i64 n)), (4, .d (.i .i64 i))], [(10001, .var [.d (.sl false ((engTs a b c d).map tabD))])]⟩, fun s' => match look 4 s'.env with | some (.d (.i _ n)) => c.length - n.toNat | _ => 0, rfl, ⟨0, _, _, rfl, rfl, rfl, rfl⟩, ?_⟩; rintro st ⟨k, i, n, rfl, hv, hn, rfl⟩) | (refine ⟨_, get_map' (cell_at hxl rfl), ?_⟩) | (refine ⟨_, get_map' (cell_at hzl rfl), ?_⟩) | (obtain ⟨j, z, hj, hz, hzp⟩ := idx_some b 0 (by rw [← hq]; exact of_decide_eq_false (by assumption : decide (q < 0) = false)); have hzl : z.length = 8 := row_len hE.outs hz; have hz2 : b[q.toNat]? = some z := (by rw [hq, hj, Nat.zero_add]; exact hz); have c8 := specComR z hzl; have c9 := l12In (numA z 6) 0 1000000; have c10 := l12In (numA z 7) 0 2000000000; refine ⟨_, get_map' hz2, ?_⟩) | (refine ⟨_, rfl, ?_⟩) | (refine ⟨(by have := of_decide_eq_false (by assumption : decide (q < 0) = false); omega), ?_⟩) | (refine ⟨Int.natCast_nonneg _, ?_⟩) | (refine ⟨by decide, ?_⟩) | fail)) | ((with_reducible refine isCut ?_) <;> (first | refine ⟨⟨none⟩, ?_⟩)) | ((first | with_reducible refine isEx ?_ | with_reducible refine isAnd ?_ | with_reducible refine isOr ?_) <;> (first | ((with_reducible refine isGet (xs := c.map rowD) (i := ((k : Nat) : Int).toNat) ?_); obtain ⟨x, hx⟩ := get_ex (ss := c) (k := k) (lt_of_dec (by assumption)); have hxl : x.length = 9 := row_len hE.sagas hx; have c1 := specDef hE (txtA x 1); have c2 := specSagaR x hxl; have c3 := specId (numA x 0); have c4 := specSaga (defM a d (txtA x 1)) (sagaR x); have c5 := l12In (numA x 8) 1 1000; have c6 := specOut hE (numA x 0); obtain ⟨q, hq⟩ : ∃ q, q = idxP (ofSaga (numA x 0)) b 0 := ⟨_, rfl⟩; rw [← hq] at c6; have c7 := specComS (sagaR x); refine ⟨_, get_map' hx, ?_⟩) | (refine ⟨_, get_map' (cell_at hxl rfl), ?_⟩) | (refine ⟨_, get_map' (cell_at hzl rfl), ?_⟩) | (obtain ⟨j, z, hj, hz, hzp⟩ := idx_some b 0 (by rw [← hq]; exact of_decide_eq_false (by assumption : decide (q < 0) = false)); have hzl : z.length = 8 := row_len hE.outs hz; have hz2 : b[q.toNat]? = some z := (by rw [hq, hj, Nat.zero_add]; exact hz); have c8 := specComR z hzl; have c9 := l12In (numA z 6) 0 1000000; have c10 := l12In (numA z 7) 0 2000000000; refine ⟨_, get_map' hz2, ?_⟩) | (refine ⟨_, rfl, ?_⟩) | (refine ⟨(by have := of_decide_eq_false (by assumption : decide (q < 0) = false); omega), ?_⟩) | (refine ⟨Int.natCast_nonneg _, ?_⟩) | (refine ⟨by decide, ?_⟩) | ((with_reducible refine isSmall ?_) <;> (refine ⟨?_, ?_⟩; kernel_rfl)) | refine ⟨rfl, ?_⟩ | refine ⟨Int.natCast_nonneg _, ?_⟩)) | with_reducible refine Both.mk ?_ ?_ | rintro _ rfl | exact rfl | (split <;> (rename_i h; first | (simp only [beq_self_eq_true, eq_self, decide_true, Bool.not_true, Bool.false_eq_true] at h; done) | (try rw [h])))))
  all_goals try (conv => whnf)
  all_goals first
    | exact ⟨⟨k + 1, _, _, step_up (get_lt hx) hlc, all_up hx hv (out_yes (head_ok (by assumption) (by assumption) (by assumption) (by assumption)) ((out_0 hq (waits_not (by assumption))).trans (decide_eq_true (by have := of_decide_eq_false (by assumption : decide (q ≥ 0) = false); omega)))), hn.trans (waits_no hx (waits_not (by assumption))), rfl⟩, mu_up (get_lt hx) hlc⟩
    | exact ⟨⟨k + 1, _, _, step_up (get_lt hx) hlc, all_up hx hv (out_yes (head_ok (by assumption) (by assumption) (by assumption) (by assumption)) ((out_2 hq hz2 (waits_yes (by assumption)) (by assumption)).trans (owed_5 (by assumption) (by assumption) (by assumption) (by assumption)))), (by rw [hn]; exact waits_up hx (waits_yes (by assumption)) hl60), rfl⟩, mu_up (get_lt hx) hlc⟩
    | (refine ⟨congrArg (fun b => AV.d (D.b b)) ?_, rfl⟩
       rw [ho]; symm
       rw [all_no hx (p := sagaB a b d) (by first
         | exact head_no1 (by assumption) | exact head_no2 (by assumption) | exact head_no3 (by assumption) | exact head_no4 (by assumption)
         | exact out_no ((out_0 hq (waits_not (by assumption))).trans (decide_eq_false (by have := of_decide_eq_true (by assumption : decide (q ≥ 0) = true); omega)))
         | exact out_no (out_1 hq (waits_yes (by assumption)) (by assumption))
         | exact out_no ((out_2 hq hz2 (waits_yes (by assumption)) (by assumption)).trans (owed_1 (by assumption)))
         | exact out_no ((out_2 hq hz2 (waits_yes (by assumption)) (by assumption)).trans (owed_2 (by assumption)))
         | exact out_no ((out_2 hq hz2 (waits_yes (by assumption)) (by assumption)).trans (owed_3 (by assumption)))
         | exact out_no ((out_2 hq hz2 (waits_yes (by assumption)) (by assumption)).trans (owed_4 (by assumption))))]
       rfl)
    | (refine ⟨congrArg (fun b => AV.d (D.b b)) ?_, rfl⟩
       have hh : ¬ (k : Int) < ((c.map rowD).length : Int) := of_decide_eq_false h
       rw [List.length_map] at hh
       rw [List.take_of_length_le (by omega)] at hv hn
       rw [ho, hv, hn, ← hlb]; rfl)
    | trace_state
end Go.Pm.Tryz
