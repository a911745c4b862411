/-
A walk of Go's code over values: calls.
-/
import Derived.Test.YtjjnmkhcdbmhoaaPmI
namespace Go.Pm
open Go
set_option linter.unusedVariables false
variable {P : Program}
section
variable {cx : Cx} {X0 : Nat → Prop} {J : Nat → Option Place} {st : St} {a : Act} {w : World} {o : Oper} {K : St → Prop} {next : Act → World → Prop} {Q : Exit → Act → World → Prop}

mutual
theorem flat_rep {w w' : World} {X X' : Nat → Prop} {J J' : Nat → Option Place} : ∀ (x : AV) (v : Value), x.flat = true → x.rep w X J v → x.rep w' X' J' v
  | .d x, v, hf, h => by simp only [AV.flat] at hf; simp only [AV.rep] at h ⊢; exact D.flat_rep x v [] hf h
  | .c u, v, hf, h => by simp only [AV.rep] at h ⊢; exact h
  | .tup vs, v, hf, h => by
    simp only [AV.flat] at hf
    simp only [AV.rep] at h ⊢
    obtain ⟨us, hv, hr⟩ := h
    exact ⟨us, hv, flatV_rep vs _ hf hr⟩
  | .snil, v, hf, h => by cases hf
  | .agg _, v, hf, h => by cases hf
  | .ptr .., v, hf, h => by cases hf
  | .eptr .., v, hf, h => by cases hf
  | .own _, v, hf, h => by cases hf
  | .win .., v, hf, h => by cases hf
  | .rd _, v, hf, h => by cases hf
  | .fn .., v, hf, h => by cases hf
  | .bot, v, hf, h => by cases hf
theorem flatV_rep {w w' : World} {X X' : Nat → Prop} {J J' : Nat → Option Place} : ∀ (xs : List AV) (vs : List Value), flatV xs = true → AV.repL w X J xs vs → AV.repL w' X' J' xs vs
  | [], vs, _, h => by simp only [AV.repL] at h ⊢; exact h
  | x :: xs, vs, hf, h => by
    simp only [flatV] at hf
    split at hf
    · rename_i hx
      simp only [AV.repL] at h ⊢
      obtain ⟨v, vs', rfl, h1, h2⟩ := h
      exact ⟨v, vs', rfl, flat_rep x v hx h1, flatV_rep xs vs' hf h2⟩
    · cases hf
theorem D.flat_rep {w w' : World} {X X' : Nat → Prop} : ∀ (x : D) (v : Value) (bs : List Nat), x.flat = true → x.rep w X v bs → x.rep w' X' v bs
  | .b x, v, bs, _, h => by simp only [D.rep] at h ⊢; exact h
  | .i k n, v, bs, _, h => by simp only [D.rep] at h ⊢; exact h
  | .s l, v, bs, _, h => by simp only [D.rep] at h ⊢; exact h
  | .agg cs, v, bs, hf, h => by
    simp only [D.flat] at hf
    simp only [D.rep] at h ⊢
    obtain ⟨vs, hv, hr⟩ := h
    exact ⟨vs, hv, flatL_rep cs _ _ hf hr⟩
  | .sl u (_ :: _), v, bs, hf, h => by simp only [D.flat] at hf; cases hf
  | .sl u [], v, bs, hf, h => by
    simp only [D.rep] at h ⊢
    obtain ⟨h4, h5, a, cap, h1, h2, h3⟩ := h
    exact ⟨h4, h5, a, cap, h1, h2, .inl trivial⟩
  | .os .., v, bs, hf, h => by simp only [D.flat] at hf; cases hf
  | .junk, v, bs, _, h => by simp only [D.rep] at h ⊢; exact h
theorem flatL_rep {w w' : World} {X X' : Nat → Prop} : ∀ (xs : List D) (vs : List Value) (bs : List Nat), flatL xs = true → repL w X xs vs bs → repL w' X' xs vs bs
  | [], vs, bs, _, h => by simp only [repL] at h ⊢; exact h
  | x :: xs, vs, bs, hf, h => by
    simp only [flatL] at hf
    split at hf
    · rename_i hx
      simp only [repL] at h ⊢
      obtain ⟨v, vs', b1, b2, rfl, rfl, h1, h2⟩ := h
      exact ⟨v, vs', b1, b2, rfl, rfl, D.flat_rep x v b1 hx h1, flatL_rep xs vs' b2 hf h2⟩
    · cases hf
end

mutual
theorem loose_ren {w w' : World} {X X' : Nat → Prop} {J J' : Nat → Option Place} {f : Nat → Option Nat} (hJ : ∀ k p j, J k = some p → f k = some j → ∃ p', J' j = some p' ∧ p.like p') :
    ∀ (x : AV) (v : Value), x.loose = true → x.rep w X J v → (x.ren f).rep w' X' J' v
  | .d x, v, hf, h => by simp only [AV.loose] at hf; simp only [AV.ren, AV.rep] at h ⊢; exact D.flat_rep x v [] hf h
  | .c u, v, _, h => by simp only [AV.ren, AV.rep] at h ⊢; exact h
  | .snil, v, _, h => by simp only [AV.ren, AV.rep] at h ⊢; exact h
  | .agg cs, v, hf, h => by
    simp only [AV.loose] at hf
    simp only [AV.ren, AV.rep] at h ⊢
    obtain ⟨vs, hv, hr⟩ := h
    exact ⟨vs, hv, looseV_ren hJ cs _ hf hr⟩
  | .tup cs, v, hf, h => by
    simp only [AV.loose] at hf
    simp only [AV.ren, AV.rep] at h ⊢
    obtain ⟨vs, hv, hr⟩ := h
    exact ⟨vs, hv, looseV_ren hJ cs _ hf hr⟩
  | .ptr k off, v, _, h => by
    simp only [AV.rep] at h
    obtain ⟨p, hp, hv⟩ := h
    simp only [AV.ren]
    cases hf : f k with
    | none => simp only [AV.rep]; rw [hv]; rfl
    | some j => simp only [AV.rep]; obtain ⟨p', hp', hl⟩ := hJ k p j hp hf; exact ⟨p', hp', by rw [hl.1]; exact hv⟩
  | .eptr k sz i off, v, _, h => by
    simp only [AV.rep] at h
    obtain ⟨p, hp, hv⟩ := h
    simp only [AV.ren]
    cases hf : f k with
    | none => simp only [AV.rep]; rw [hv]; rfl
    | some j => simp only [AV.rep]; obtain ⟨p', hp', hl⟩ := hJ k p j hp hf; exact ⟨p', hp', by rw [hl.1]; exact hv⟩
  | .own k, v, _, h => by
    simp only [AV.rep] at h
    obtain ⟨p, hp, hv, h1⟩ := h
    simp only [AV.ren]
    cases hf : f k with
    | none => simp only [AV.rep]; rw [hv]; exact h1
    | some j => simp only [AV.rep]; obtain ⟨p', hp', hl⟩ := hJ k p j hp hf; exact ⟨p', hp', by rw [hl.2]; exact hv, by rw [hl.2]; exact h1⟩
  | .win k sz lo hi, v, _, h => by
    simp only [AV.rep] at h
    obtain ⟨p, a0, n0, c0, a, c, hp, hpv, h1, h2, h3, hv, h4, h5⟩ := h
    simp only [AV.ren]
    cases hf : f k with
    | none => simp only [AV.rep]; rw [hv]; rfl
    | some j => simp only [AV.rep]; obtain ⟨p', hp', hl⟩ := hJ k p j hp hf; exact ⟨p', a0, n0, c0, a, c, hp', by rw [hl.2]; exact hpv, h1, h2, h3, hv, h4, by rw [hl.1]; exact h5⟩
  | .rd cs, v, hf, h => by cases hf
  | .fn g caps, v, hf, h => by
    simp only [AV.loose] at hf
    simp only [AV.ren, AV.rep] at h ⊢
    obtain ⟨cs, hv, hr⟩ := h
    exact ⟨cs, hv, looseV_ren hJ caps _ hf hr⟩
  | .bot, v, _, h => by simp only [AV.ren, AV.rep] at h ⊢; exact h
theorem looseV_ren {w w' : World} {X X' : Nat → Prop} {J J' : Nat → Option Place} {f : Nat → Option Nat} (hJ : ∀ k p j, J k = some p → f k = some j → ∃ p', J' j = some p' ∧ p.like p') :
    ∀ (xs : List AV) (vs : List Value), looseV xs = true → AV.repL w X J xs vs → AV.repL w' X' J' (renL f xs) vs
  | [], vs, _, h => by simp only [renL, AV.repL] at h ⊢; exact h
  | x :: xs, vs, hf, h => by
    simp only [looseV] at hf
    split at hf
    · rename_i hx
      simp only [renL, AV.repL] at h ⊢
      obtain ⟨v, vs', rfl, h1, h2⟩ := h
      exact ⟨v, vs', rfl, loose_ren hJ x v hx h1, looseV_ren hJ xs vs' hf h2⟩
    · cases hf
end
mutual
theorem D.loose_rep {w : World} {X X' : Nat → Prop} : ∀ (x : D) (v : Value) (bs : List Nat), x.loose = true → x.rep w X v bs → x.rep w X' v bs
  | .b x, v, bs, _, h => by simp only [D.rep] at h ⊢; exact h
  | .i k n, v, bs, _, h => by simp only [D.rep] at h ⊢; exact h
  | .s l, v, bs, _, h => by simp only [D.rep] at h ⊢; exact h
  | .junk, v, bs, _, h => by simp only [D.rep] at h ⊢; exact h
  | .agg cs, v, bs, hf, h => by
    simp only [D.loose] at hf
    simp only [D.rep] at h ⊢
    obtain ⟨vs, hv, hr⟩ := h
    exact ⟨vs, hv, looseL_rep cs _ _ hf hr⟩
  | .sl u (_ :: _), v, bs, hf, h => by simp only [D.loose] at hf; cases hf
  | .sl u [], v, bs, hf, h => by
    simp only [D.rep] at h ⊢
    obtain ⟨h4, h5, a, cap, h1, h2, h3⟩ := h
    exact ⟨h4, h5, a, cap, h1, h2, .inl trivial⟩
  | .os sz dp xs, v, bs, hf, h => by
    simp only [D.loose] at hf
    simp only [D.rep] at h ⊢
    obtain ⟨h0, a, cap, h1, h2, h3⟩ := h
    refine ⟨h0, a, cap, h1, h2, h3.imp id ?_⟩
    rintro ⟨b, bs', g1, g2, g3, g4, g5⟩
    exact ⟨b, bs', g1, g2, looseRows_rep xs _ _ hf g3, g4, g5⟩
theorem looseL_rep {w : World} {X X' : Nat → Prop} : ∀ (xs : List D) (vs : List Value) (bs : List Nat), looseL xs = true → repL w X xs vs bs → repL w X' xs vs bs
  | [], vs, bs, _, h => by simp only [repL] at h ⊢; exact h
  | x :: xs, vs, bs, hf, h => by
    simp only [looseL] at hf
    split at hf
    · rename_i hx
      simp only [repL] at h ⊢
      obtain ⟨v, vs', b1, b2, rfl, rfl, h1, h2⟩ := h
      exact ⟨v, vs', b1, b2, rfl, rfl, D.loose_rep x v b1 hx h1, looseL_rep xs vs' b2 hf h2⟩
    · cases hf
theorem looseRows_rep {w : World} {X X' : Nat → Prop} {b sz : Nat} : ∀ (xs : List D) (off : Nat) (bs : List Nat), looseL xs = true → repRows w X b sz xs off bs → repRows w X' b sz xs off bs
  | [], off, bs, _, h => by simp only [repRows] at h ⊢; exact h
  | x :: xs, off, bs, hf, h => by
    simp only [looseL] at hf
    split at hf
    · rename_i hx
      simp only [repRows] at h ⊢
      obtain ⟨v, b1, b2, e, h1, h2, h3, h4, h5⟩ := h
      exact ⟨v, b1, b2, e, D.loose_rep x v b1 hx h1, h2, h3, h4, looseRows_rep xs _ _ hf h5⟩
    · cases hf
end

mutual
theorem flat_ren {f : Nat → Option Nat} : ∀ x : AV, x.flat = true → x.ren f = x
  | .d _, _ => rfl
  | .c _, _ => rfl
  | .tup vs, h => by simp only [AV.flat] at h; simp only [AV.ren, flatV_ren vs h]
  | .snil, h => by cases h
  | .agg _, h => by cases h
  | .ptr .., h => by cases h
  | .eptr .., h => by cases h
  | .own _, h => by cases h
  | .win .., h => by cases h
  | .rd _, h => by cases h
  | .fn .., h => by cases h
  | .bot, h => by cases h
theorem flatV_ren {f : Nat → Option Nat} : ∀ xs : List AV, flatV xs = true → renL f xs = xs
  | [], _ => rfl
  | x :: xs, h => by
    simp only [flatV] at h
    split at h
    · rename_i hx; simp only [renL, flat_ren x hx, flatV_ren xs h]
    · cases h
end

theorem idx_some : ∀ {ks : List Nat} {k j i : Nat}, idx k ks j = some i → j ≤ i ∧ ks[i - j]? = some k
  | [], k, j, i, h => by cases h
  | k' :: ks, k, j, i, h => by
    simp only [idx] at h
    split at h
    · rename_i hb
      cases h
      have := Nat.eq_of_beq_eq_true hb
      subst this
      simp
    · obtain ⟨h1, h2⟩ := idx_some h
      refine ⟨by omega, ?_⟩
      rw [show i - j = (i - (j + 1)) + 1 by omega]
      simpa using h2
theorem idx_none : ∀ {ks : List Nat} {k j : Nat}, idx k ks j = none → k ∉ ks
  | [], k, j, h => by simp
  | k' :: ks, k, j, h => by
    simp only [idx] at h
    split at h
    · cases h
    · rename_i hb
      intro hm
      rcases List.mem_cons.1 hm with rfl | hm
      · rw [show Nat.beq k k = true by simp] at hb; cases hb
      · exact idx_none h hm
theorem idx_get : ∀ {ks : List Nat} {i k j : Nat}, ks.Nodup → ks[i]? = some k → idx k ks j = some (j + i)
  | [], i, k, j, _, h => by simp at h
  | k' :: ks, i, k, j, hn, h => by
    simp only [idx]
    cases i with
    | zero => simp at h; subst h; simp
    | succ i =>
      simp only [List.getElem?_cons_succ] at h
      have hne : Nat.beq k' k = false := by
        refine Bool.eq_false_iff.2 fun e => ?_
        have := Nat.eq_of_beq_eq_true e
        subst this
        exact (List.nodup_cons.1 hn).1 (List.mem_of_getElem? h)
      rw [hne]
      have := idx_get (j := j + 1) (List.nodup_cons.1 hn).2 h
      rw [this, show j + 1 + i = j + (i + 1) by omega]
theorem nodup_ok : ∀ {l : List Nat}, nodup l = true → l.Nodup
  | [], _ => List.nodup_nil
  | k :: l, h => by
    simp only [nodup] at h
    split at h
    · cases h
    · rename_i hk
      exact List.nodup_cons.2 ⟨fun hm => by { rw [(has_iff k l).2 hm] at hk; cases hk }, nodup_ok h⟩
theorem apart_ok : ∀ {bs ks : List Nat}, apart bs ks = true → ∀ k, k ∈ bs → k ∉ ks
  | [], ks, _, k, h => by cases h
  | j :: bs, ks, hh, k, h => by
    simp only [apart] at hh
    split at hh
    · cases hh
    · rename_i hj
      rcases List.mem_cons.1 h with e | h
      · subst e; intro hm; rw [(has_iff _ _).2 hm] at hj; cases hj
      · exact apart_ok hh k h
theorem inside_ok : ∀ {l ks : List Nat}, inside l ks = true → ∀ k, k ∈ l → k ∈ ks
  | [], ks, _, k, h => by cases h
  | j :: l, ks, hh, k, h => by
    simp only [inside] at hh
    split at hh
    · rename_i hj
      rcases List.mem_cons.1 h with rfl | h
      · exact (has_iff _ _).1 hj
      · exact inside_ok hh k h
    · cases hh
theorem pickObs_ok {σ : Nat → Option Ob} {f : Nat → Option Nat} : ∀ {ks : List Nat} {objs : List Ob}, pickObs σ f ks = some objs → objs.length = ks.length ∧ ∀ (i k : Nat), ks[i]? = some k → ∃ o, σ k = some o ∧ objs[i]? = some (o.ren f)
  | [], objs, h => by simp only [pickObs, Option.some.injEq] at h; subst h; simp
  | k :: ks, objs, h => by
    simp only [pickObs] at h
    split at h
    case h_2 => cases h
    rename_i o ho
    split at h
    case h_2 => cases h
    rename_i l hl
    cases h
    obtain ⟨h1, h2⟩ := pickObs_ok hl
    refine ⟨by simp [h1], fun i k' hk => ?_⟩
    cases i with
    | zero => simp at hk; subst hk; exact ⟨o, ho, rfl⟩
    | succ i => exact h2 i k' (by simpa using hk)

/-- The names that the caller gives to the callee's blocks. -/
def namesOf (ks : List Nat) (d n : Nat) : List Nat := (List.range n).map fun i => (nameOf ks d i).getD 0
theorem nameOf_lt {ks : List Nat} {d i : Nat} (h : i < ks.length) : nameOf ks d i = some ks[i] := by
  simp [nameOf, List.getElem?_eq_getElem h]
theorem nameOf_ge {ks : List Nat} {d i : Nat} (h : ks.length ≤ i) : nameOf ks d i = some (10000 * (i - ks.length + 1) + d) := by
  simp [nameOf, List.getElem?_eq_none h]
theorem nameOf_isSome (ks : List Nat) (d i : Nat) : nameOf ks d i = some ((nameOf ks d i).getD 0) := by
  unfold nameOf; split <;> rfl
theorem freshOk_ok {obj : List (Nat × Ob)} {ks : List Nat} {d : Nat} : ∀ {n i : Nat}, freshOk obj ks d i n = true → ∀ j, i ≤ j → j < i + n → look (10000 * (j + 1) + d) obj = none
  | 0, i, _, j, h1, h2 => by omega
  | n + 1, i, h, j, h1, h2 => by
    simp only [freshOk] at h
    split at h
    · rename_i hl
      by_cases e : j = i
      · subst e; exact hl
      · exact freshOk_ok h j (by omega) (by omega)
    · cases h
theorem namesOf_get {ks : List Nat} {d n i : Nat} (h : i < n) : (namesOf ks d n)[i]? = nameOf ks d i := by
  simp only [namesOf, List.getElem?_map, List.getElem?_range, h, Option.map_some]
  exact (nameOf_isSome ks d i).symm
theorem namesOf_nodup {ks : List Nat} {d n : Nat} (hn : ks.Nodup) (hl : ∀ i, ks.length ≤ i → i < n → 10000 * (i - ks.length + 1) + d ∉ ks) : (namesOf ks d n).Nodup := by
  rw [List.Nodup, namesOf, List.pairwise_map]
  refine List.Pairwise.imp_of_mem ?_ (List.pairwise_lt_range (n := n))
  intro i j hi hj hij e
  have hi' := List.mem_range.1 hi
  have hj' := List.mem_range.1 hj
  have e' : nameOf ks d i = nameOf ks d j := by rw [nameOf_isSome ks d i, nameOf_isSome ks d j, e]
  by_cases h1 : i < ks.length
  · rw [nameOf_lt h1] at e'
    by_cases h2 : j < ks.length
    · rw [nameOf_lt h2] at e'
      have := (List.pairwise_iff_getElem.1 hn) i j h1 h2 hij
      exact this (Option.some.inj e')
    · rw [nameOf_ge (by omega)] at e'
      exact hl j (by omega) hj' (by rw [← Option.some.inj e']; exact List.getElem_mem h1)
  · rw [nameOf_ge (by omega), nameOf_ge (by omega)] at e'
    have := Option.some.inj e'
    omega
theorem setAll_env (g : Nat → Option Nat) : ∀ (O : List Ob) (i : Nat) (st : St), (setAll st g i O).env = st.env
  | [], i, st => rfl
  | o :: O, i, st => by
    simp only [setAll]
    split
    · rw [setAll_env g O]; rfl
    · rfl
theorem setAll_look {ks : List Nat} {d : Nat} : ∀ (O : List Ob) (i : Nat) (st : St) (k : Nat), ((namesOf ks d (i + O.length)).drop i).Nodup →
    look k (setAll st (nameOf ks d) i O).obj = match idx k ((namesOf ks d (i + O.length)).drop i) 0 with | some j => (O[j]?).map (Ob.ren (nameOf ks d)) | none => look k st.obj
  | [], i, st, k, hn => by
    have : (namesOf ks d (i + ([] : List Ob).length)).drop i = [] := by simp [namesOf]
    rw [this]; rfl
  | o :: O, i, st, k, hn => by
    have hd : (namesOf ks d (i + (o :: O).length)).drop i = (nameOf ks d i).getD 0 :: (namesOf ks d (i + 1 + O.length)).drop (i + 1) := by
      have hlt : i < (namesOf ks d (i + (o :: O).length)).length := by simp [namesOf]
      rw [List.drop_eq_getElem_cons hlt]
      have := namesOf_get (ks := ks) (d := d) (n := i + (o :: O).length) (i := i) (by simp)
      rw [List.getElem?_eq_getElem hlt, nameOf_isSome ks d i] at this
      rw [Option.some.inj this]
      congr 2
      simp [Nat.add_comm, Nat.add_left_comm]
    rw [hd] at hn ⊢
    have hn' := (List.nodup_cons.1 hn).2
    simp only [setAll]
    rw [nameOf_isSome ks d i]
    simp only
    rw [setAll_look O (i + 1) _ k hn', St.set_look]
    simp only [idx]
    by_cases e : (nameOf ks d i).getD 0 = k
    · subst e
      have hni : idx ((nameOf ks d i).getD 0) ((namesOf ks d (i + 1 + O.length)).drop (i + 1)) 0 = none := by
        cases hi : idx ((nameOf ks d i).getD 0) ((namesOf ks d (i + 1 + O.length)).drop (i + 1)) 0 with
        | none => rfl
        | some j => exact absurd (List.mem_of_getElem? (idx_some hi).2) (List.nodup_cons.1 hn).1
      rw [hni, if_pos rfl]
      simp
    · rw [if_neg e]
      have hb : Nat.beq ((nameOf ks d i).getD 0) k = false := Bool.eq_false_iff.2 fun h => e (Nat.eq_of_beq_eq_true h)
      simp only [Option.getD_some, hb]
      have shift : ∀ (l : List Nat) (j : Nat), idx k l (j + 1) = (idx k l j).map (· + 1) := by
        intro l
        induction l with
        | nil => intro j; rfl
        | cons y l ih => intro j; simp only [idx]; split <;> simp [ih]
      rw [shift]
      cases hi : idx k ((namesOf ks d (i + 1 + O.length)).drop (i + 1)) 0 with
      | none => rfl
      | some j => simp
end
end Go.Pm
