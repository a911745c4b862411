/-
A walk of Go's code over values: lemmas on what a state says of memory.
-/
import Derived.Test.YtjjnmkhcdbmhoaaPmB
namespace Go.Pm
set_option linter.unusedVariables false
open Go

theorem look_nil {α : Type} (k : Nat) : look k ([] : List (Nat × α)) = none := rfl
theorem look_cons {α : Type} (k j : Nat) (v : α) (r : List (Nat × α)) : look k ((j, v) :: r) = if j = k then some v else look k r := by
  simp only [look]
  by_cases h : j = k
  · have : Nat.beq j k = true := by simpa using h
    rw [this, if_pos h]
  · have : Nat.beq j k = false := Bool.eq_false_iff.2 fun e => h (Nat.eq_of_beq_eq_true e)
    rw [this, if_neg h]

theorem has_iff (k : Nat) (l : List Nat) : has k l = true ↔ k ∈ l := by
  induction l with
  | nil => simp [has]
  | cons j r ih =>
    simp only [has]
    by_cases h : j = k
    · have : Nat.beq j k = true := by simpa using h
      rw [this]; simp [h]
    · have : Nat.beq j k = false := Bool.eq_false_iff.2 fun e => h (Nat.eq_of_beq_eq_true e)
      rw [this]; simp [ih, Ne.symm h]

theorem rangeAt_block {w : World} {b off : Nat} {vs : List Value} (h : w.rangeAt b off vs) (hn : vs ≠ []) : b < w.heap.size := by
  cases vs with
  | nil => exact absurd rfl hn
  | cons v vs =>
    have h0 := h 0 v rfl
    unfold World.cell? at h0
    split at h0
    · rename_i heq
      exact (Array.getElem?_eq_some_iff.1 heq).1
    · cases h0

theorem cell_congr {w w' : World} {b : Nat} (h : w'.heap[b]? = w.heap[b]?) (o : Nat) : w'.cell? ⟨b, o, none⟩ = w.cell? ⟨b, o, none⟩ := by
  simp only [World.cell?, h]

theorem rangeAt_congr {w w' : World} {b off : Nat} {vs : List Value} (h : w.rangeAt b off vs) (hb : b < w.heap.size → w'.heap[b]? = w.heap[b]?) : w'.rangeAt b off vs := by
  by_cases hn : vs = []
  · subst hn; intro j v hv; simp at hv
  · have := hb (rangeAt_block h hn)
    intro j v hv; rw [cell_congr this]; exact h j v hv

theorem plain_congr {w w' : World} {b n : Nat} (h : Plain w b n) (hb : b < w.heap.size → w'.heap[b]? = w.heap[b]?) : Plain w' b n := by
  obtain ⟨cs, t, h1, h2⟩ := h
  have : b < w.heap.size := (Array.getElem?_eq_some_iff.1 h1).1
  exact ⟨cs, t, (hb this).trans h1, h2⟩

theorem plain_lt {w : World} {b n : Nat} (h : Plain w b n) : b < w.heap.size := by
  obtain ⟨cs, t, h1, _⟩ := h
  exact (Array.getElem?_eq_some_iff.1 h1).1

/-- w' agrees with w on the blocks that are read: those of bs, and those that may not be written. -/
def Agree (w w' : World) (X : Nat → Prop) (bs : List Nat) : Prop := ∀ b, b < w.heap.size → (b ∈ bs ∨ ¬ X b) → w'.heap[b]? = w.heap[b]?

theorem Agree.left {w w' : World} {X : Nat → Prop} {a b : List Nat} (h : Agree w w' X (a ++ b)) : Agree w w' X a :=
  fun c hc hx => h c hc (hx.imp (fun m => List.mem_append_left _ m) id)
theorem Agree.right {w w' : World} {X : Nat → Prop} {a b : List Nat} (h : Agree w w' X (a ++ b)) : Agree w w' X b :=
  fun c hc hx => h c hc (hx.imp (fun m => List.mem_append_right _ m) id)

theorem repRows_block {w : World} {X : Nat → Prop} {b sz : Nat} {xs : List D} {off : Nat} {bs : List Nat} (hsz : 0 < sz) (hne : xs ≠ []) (h : repRows w X b sz xs off bs) : b < w.heap.size := by
  cases xs with
  | nil => exact absurd rfl hne
  | cons x xs =>
    simp only [repRows] at h
    obtain ⟨v, b1, b2, _, _, h2, _, h4, _⟩ := h
    refine rangeAt_block h4 fun e => ?_
    have : v.cells.size = 0 := by rw [← Array.length_toList, e]; rfl
    omega

mutual
theorem D.rep_mono {w w' : World} {X X' : Nat → Prop} (hX : ∀ b, b < w.heap.size → ¬ X b → ¬ X' b) :
    ∀ (x : D) (v : Value) (bs : List Nat), Agree w w' X bs → x.rep w X v bs → x.rep w' X' v bs
  | .b x, v, bs, _, h => by simp only [D.rep] at h ⊢; exact h
  | .i k n, v, bs, _, h => by simp only [D.rep] at h ⊢; exact h
  | .s l, v, bs, _, h => by simp only [D.rep] at h ⊢; exact h
  | .agg cs, v, bs, hA, h => by
    simp only [D.rep] at h ⊢
    obtain ⟨vs, hv, hr⟩ := h
    exact ⟨vs, hv, repL_mono hX cs _ _ hA hr⟩
  | .sl u xs, v, bs, hA, h => by
    simp only [D.rep] at h ⊢
    obtain ⟨hu, hbs, a, cap, hv, hc, hr⟩ := h
    refine ⟨hu, hbs, a, cap, hv, hc, ?_⟩
    rcases hr with hr | ⟨b, off, sz, hne, ha, hsz, hrows, hx⟩
    · exact .inl hr
    · subst hbs
      exact .inr ⟨b, off, sz, hne, ha, hsz, repRows_mono hX b sz xs off [] hA (fun hb => hA b hb (.inr hx)) hrows, hX b (repRows_block hsz hne hrows) hx⟩
  | .os sz deep xs, v, bs, hA, h => by
    simp only [D.rep] at h ⊢
    obtain ⟨hsz, a, cap, hv, hc, hr⟩ := h
    refine ⟨hsz, a, cap, hv, hc, ?_⟩
    rcases hr with hr | ⟨b, bs', ha, hp, hrows, hbs, hd⟩
    · exact .inl hr
    · subst hbs
      have hb : b < w.heap.size → w'.heap[b]? = w.heap[b]? := fun hb => hA b hb (.inl (List.mem_cons_self ..))
      have hA' : Agree w w' X bs' := fun c hc hx => hA c hc (hx.imp (fun m => List.mem_cons_of_mem _ m) id)
      exact .inr ⟨b, bs', ha, plain_congr hp hb, repRows_mono hX b sz xs 0 bs' hA' hb hrows, rfl, hd⟩
  | .junk, v, bs, _, h => by simp only [D.rep] at h ⊢; exact h
theorem repL_mono {w w' : World} {X X' : Nat → Prop} (hX : ∀ b, b < w.heap.size → ¬ X b → ¬ X' b) :
    ∀ (xs : List D) (vs : List Value) (bs : List Nat), Agree w w' X bs → repL w X xs vs bs → repL w' X' xs vs bs
  | [], vs, bs, _, h => by simp only [repL] at h ⊢; exact h
  | x :: xs, vs, bs, hA, h => by
    simp only [repL] at h ⊢
    obtain ⟨v, vs', b1, b2, hv, hb, h1, h2⟩ := h
    subst hb
    exact ⟨v, vs', b1, b2, hv, rfl, D.rep_mono hX x v b1 hA.left h1, repL_mono hX xs vs' b2 hA.right h2⟩
theorem repRows_mono {w w' : World} {X X' : Nat → Prop} (hX : ∀ b, b < w.heap.size → ¬ X b → ¬ X' b) (b sz : Nat) :
    ∀ (xs : List D) (off : Nat) (bs : List Nat), Agree w w' X bs → (b < w.heap.size → w'.heap[b]? = w.heap[b]?) → repRows w X b sz xs off bs → repRows w' X' b sz xs off bs
  | [], off, bs, _, _, h => by simp only [repRows] at h ⊢; exact h
  | x :: xs, off, bs, hA, hb, h => by
    simp only [repRows] at h ⊢
    obtain ⟨v, b1, b2, hbs, h1, h2, h3, h4, h5⟩ := h
    subst hbs
    exact ⟨v, b1, b2, rfl, D.rep_mono hX x v b1 hA.left h1, h2, h3, rangeAt_congr h4 hb, repRows_mono hX b sz xs (off + sz) b2 hA.right hb h5⟩
end

mutual
theorem D.rep_own {w : World} {X : Nat → Prop} : ∀ (x : D) (v : Value) (bs : List Nat), x.rep w X v bs → ∀ b ∈ bs, b < w.heap.size
  | .b x, v, bs, h => by simp only [D.rep] at h; rw [h.2]; simp
  | .i k n, v, bs, h => by simp only [D.rep] at h; rw [h.2]; simp
  | .s l, v, bs, h => by simp only [D.rep] at h; rw [h.2]; simp
  | .agg cs, v, bs, h => by simp only [D.rep] at h; obtain ⟨vs, _, hr⟩ := h; exact repL_own cs _ _ hr
  | .sl u xs, v, bs, h => by simp only [D.rep] at h; rw [h.2.1]; simp
  | .os sz deep xs, v, bs, h => by
    simp only [D.rep] at h
    obtain ⟨hsz, a, cap, hv, hc, hr⟩ := h
    rcases hr with ⟨_, _, hb⟩ | ⟨b, bs', ha, hp, hrows, hbs, hd⟩
    · rw [hb]; simp
    · intro c hc
      rw [hbs] at hc
      rcases List.mem_cons.1 hc with rfl | hc
      · exact plain_lt hp
      · exact repRows_own xs _ _ hrows c hc
  | .junk, v, bs, h => by simp only [D.rep] at h; rw [h.2]; simp
theorem repL_own {w : World} {X : Nat → Prop} : ∀ (xs : List D) (vs : List Value) (bs : List Nat), repL w X xs vs bs → ∀ b ∈ bs, b < w.heap.size
  | [], vs, bs, h => by simp only [repL] at h; rw [h.2]; simp
  | x :: xs, vs, bs, h => by
    simp only [repL] at h
    obtain ⟨v, vs', b1, b2, _, hb, h1, h2⟩ := h
    intro c hc
    rw [hb] at hc
    rcases List.mem_append.1 hc with hc | hc
    · exact D.rep_own x _ _ h1 c hc
    · exact repL_own xs _ _ h2 c hc
theorem repRows_own {w : World} {X : Nat → Prop} {b sz : Nat} : ∀ (xs : List D) (off : Nat) (bs : List Nat), repRows w X b sz xs off bs → ∀ b ∈ bs, b < w.heap.size
  | [], off, bs, h => by simp only [repRows] at h; rw [h]; simp
  | x :: xs, off, bs, h => by
    simp only [repRows] at h
    obtain ⟨v, b1, b2, hb, h1, _, _, _, h5⟩ := h
    intro c hc
    rw [hb] at hc
    rcases List.mem_append.1 hc with hc | hc
    · exact D.rep_own x _ _ h1 c hc
    · exact repRows_own xs _ _ h5 c hc
end

theorem Place.like_refl (p : Place) : p.like p := ⟨rfl, rfl⟩
theorem Place.like_trans {p q r : Place} (a : p.like q) (b : q.like r) : p.like r := ⟨b.1.trans a.1, b.2.trans a.2⟩

/-! ### Values in slots -/
mutual
/-- The value in another world, under other places, with its blocks named anew. -/
theorem AV.rep_ren {w w' : World} {X X' : Nat → Prop} {J J' : Nat → Option Place} {f : Nat → Option Nat} (hX : ∀ b, b < w.heap.size → ¬ X b → ¬ X' b) (hA : Agree w w' X [])
    (hJ : ∀ k p j, J k = some p → f k = some j → ∃ p', J' j = some p' ∧ p.like p') : ∀ (x : AV) (v : Value), x.rep w X J v → (x.ren f).rep w' X' J' v
  | .d x, v, h => by simp only [AV.ren, AV.rep] at h ⊢; exact D.rep_mono hX x v [] hA h
  | .c u, v, h => by simp only [AV.ren, AV.rep] at h ⊢; exact h
  | .snil, v, h => by simp only [AV.ren, AV.rep] at h ⊢; exact h
  | .agg cs, v, h => by
    simp only [AV.ren, AV.rep] at h ⊢
    obtain ⟨vs, hv, hr⟩ := h
    exact ⟨vs, hv, AV.repL_ren hX hA hJ cs _ hr⟩
  | .tup cs, v, h => by
    simp only [AV.ren, AV.rep] at h ⊢
    obtain ⟨vs, hv, hr⟩ := h
    exact ⟨vs, hv, AV.repL_ren hX hA hJ cs _ hr⟩
  | .ptr k off, v, h => by
    simp only [AV.rep] at h
    obtain ⟨p, hp, hv⟩ := h
    simp only [AV.ren]
    cases hf : f k with
    | none => simp only [AV.rep]; rw [hv]; rfl
    | some j => simp only [AV.rep]; obtain ⟨p', hp', hl⟩ := hJ k p j hp hf; exact ⟨p', hp', by rw [hl.1]; exact hv⟩
  | .eptr k sz i off, v, h => by
    simp only [AV.rep] at h
    obtain ⟨p, hp, hv⟩ := h
    simp only [AV.ren]
    cases hf : f k with
    | none => simp only [AV.rep]; rw [hv]; rfl
    | some j => simp only [AV.rep]; obtain ⟨p', hp', hl⟩ := hJ k p j hp hf; exact ⟨p', hp', by rw [hl.1]; exact hv⟩
  | .own k, v, h => by
    simp only [AV.rep] at h
    obtain ⟨p, hp, hv, h1⟩ := h
    simp only [AV.ren]
    cases hf : f k with
    | none => simp only [AV.rep]; rw [hv]; exact h1
    | some j => simp only [AV.rep]; obtain ⟨p', hp', hl⟩ := hJ k p j hp hf; exact ⟨p', hp', by rw [hl.2]; exact hv, by rw [hl.2]; exact h1⟩
  | .win k sz lo hi, v, h => by
    simp only [AV.rep] at h
    obtain ⟨p, a0, n0, c0, a, c, hp, hpv, h1, h2, h3, hv, h4, h5⟩ := h
    simp only [AV.ren]
    cases hf : f k with
    | none => simp only [AV.rep]; rw [hv]; rfl
    | some j => simp only [AV.rep]; obtain ⟨p', hp', hl⟩ := hJ k p j hp hf; exact ⟨p', a0, n0, c0, a, c, hp', by rw [hl.2]; exact hpv, h1, h2, h3, hv, h4, by rw [hl.1]; exact h5⟩
  | .rd cs, v, h => by
    simp only [AV.ren, AV.rep] at h ⊢
    obtain ⟨b, off, vs, hv, hn, hx, hr, hc⟩ := h
    exact ⟨b, off, vs, hv, hn, hX b (rangeAt_block hc hn) hx, Go.Pm.repL_mono hX cs _ _ hA hr, rangeAt_congr hc fun hb => hA b hb (.inr hx)⟩
  | .fn g caps, v, h => by
    simp only [AV.ren, AV.rep] at h ⊢
    obtain ⟨cs, hv, hr⟩ := h
    exact ⟨cs, hv, AV.repL_ren hX hA hJ caps _ hr⟩
  | .bot, v, h => by simp only [AV.ren, AV.rep] at h ⊢; exact h
theorem AV.repL_ren {w w' : World} {X X' : Nat → Prop} {J J' : Nat → Option Place} {f : Nat → Option Nat} (hX : ∀ b, b < w.heap.size → ¬ X b → ¬ X' b) (hA : Agree w w' X [])
    (hJ : ∀ k p j, J k = some p → f k = some j → ∃ p', J' j = some p' ∧ p.like p') : ∀ (xs : List AV) (vs : List Value), AV.repL w X J xs vs → AV.repL w' X' J' (renL f xs) vs
  | [], vs, h => by simp only [renL, AV.repL] at h ⊢; exact h
  | x :: xs, vs, h => by
    simp only [renL, AV.repL] at h ⊢
    obtain ⟨v, vs', hv, h1, h2⟩ := h
    exact ⟨v, vs', hv, AV.rep_ren hX hA hJ x v h1, AV.repL_ren hX hA hJ xs vs' h2⟩
end

mutual
theorem AV.ren_some : ∀ x : AV, x.ren some = x
  | .d _ | .c _ | .snil | .rd _ | .bot | .ptr .. | .eptr .. | .own _ | .win .. => rfl
  | .agg cs => by simp only [AV.ren, renL_some cs]
  | .tup cs => by simp only [AV.ren, renL_some cs]
  | .fn g cs => by simp only [AV.ren, renL_some cs]
theorem renL_some : ∀ xs : List AV, renL some xs = xs
  | [] => rfl
  | x :: xs => by simp only [renL, AV.ren_some x, renL_some xs]
end
theorem renCells_some : ∀ cs : List OC, renCells some cs = cs
  | [] => rfl
  | .d x :: r => by simp only [renCells, renCells_some r]
  | .k n :: r => by simp only [renCells, renCells_some r]
theorem renEls_some : ∀ es : List OE, renEls some es = es
  | [] => rfl
  | e :: r => by simp only [renEls, renCells_some, renEls_some r]
theorem Ob.ren_some (o : Ob) : o.ren some = o := by cases o <;> simp [Ob.ren, renL_some, renEls_some]
theorem renCells_len (f : Nat → Option Nat) : ∀ cs : List OC, (renCells f cs).length = cs.length
  | [] => rfl
  | .d x :: r => by simp only [renCells, List.length_cons, renCells_len f r]
  | .k n :: r => by
    simp only [renCells]
    split <;> simp only [List.length_cons, renCells_len f r]
theorem ocD_ren (f : Nat → Option Nat) : ∀ cs : List OC, ocD (renCells f cs) = ocD cs
  | [] => rfl
  | .d x :: r => by simp only [renCells, ocD, ocD_ren f r]
  | .k n :: r => by
    simp only [renCells]
    split <;> simp only [ocD, OC.D, ocD_ren f r]
theorem baseXs_ren (f : Nat → Option Nat) (xs : List D) : ∀ es : List OE, baseXs xs (renEls f es) = baseXs xs es
  | [] => rfl
  | e :: r => by simp only [renEls, baseXs, baseXs_ren f xs r, OE.D, ocD_ren]
theorem renEls_idx (f : Nat → Option Nat) : ∀ es : List OE, (renEls f es).map (·.i) = es.map (·.i)
  | [] => rfl
  | e :: r => by simp only [renEls, List.map_cons, renEls_idx f r]
theorem renEls_mem {f : Nat → Option Nat} : ∀ {es : List OE} {e : OE}, e ∈ renEls f es → ∃ e0, e0 ∈ es ∧ e.i = e0.i ∧ e.ag = e0.ag ∧ e.cells = renCells f e0.cells
  | [], e, h => by cases h
  | x :: r, e, h => by
    simp only [renEls] at h
    rcases List.mem_cons.1 h with rfl | h
    · exact ⟨x, List.mem_cons_self .., rfl, rfl, rfl⟩
    · obtain ⟨e0, h1, h2⟩ := renEls_mem h
      exact ⟨e0, List.mem_cons_of_mem _ h1, h2⟩
theorem renCells_get {f : Nat → Option Nat} : ∀ {cs : List OC} {c key : Nat}, (renCells f cs)[c]? = some (.k key) → ∃ k0, cs[c]? = some (.k k0) ∧ f k0 = some key
  | [], c, key, h => by simp [renCells] at h
  | .d x :: r, c, key, h => by
    simp only [renCells] at h
    cases c with
    | zero => simp at h
    | succ c => simpa using renCells_get (cs := r) (by simpa using h)
  | .k n :: r, c, key, h => by
    simp only [renCells] at h
    split at h
    · rename_i j hj
      cases c with
      | zero => simp at h; subst h; exact ⟨n, by simp, hj⟩
      | succ c => simpa using renCells_get (cs := r) (by simpa using h)
    · cases c with
      | zero => simp at h
      | succ c => simpa using renCells_get (cs := r) (by simpa using h)

theorem AV.rep_mono {w w' : World} {X X' : Nat → Prop} {J J' : Nat → Option Place} (hX : ∀ b, b < w.heap.size → ¬ X b → ¬ X' b) (hA : Agree w w' X [])
    (hJ : ∀ k p, J k = some p → ∃ p', J' k = some p' ∧ p.like p') {x : AV} {v : Value} (h : x.rep w X J v) : x.rep w' X' J' v := by
  have := AV.rep_ren (f := some) hX hA (fun k p j hp hj => by cases hj; exact hJ k p hp) x v h
  rwa [AV.ren_some] at this
theorem AV.repL_mono {w w' : World} {X X' : Nat → Prop} {J J' : Nat → Option Place} (hX : ∀ b, b < w.heap.size → ¬ X b → ¬ X' b) (hA : Agree w w' X [])
    (hJ : ∀ k p, J k = some p → ∃ p', J' k = some p' ∧ p.like p') {x : List AV} {v : List Value} (h : AV.repL w X J x v) : AV.repL w' X' J' x v := by
  have := AV.repL_ren (f := some) hX hA (fun k p j hp hj => by cases hj; exact hJ k p hp) x v h
  rwa [renL_some] at this

theorem Place.fp_hd {p : Place} (h : p.hd = true) : p.fp = p.blk :: p.nest := by rw [Place.fp, h]
theorem Place.fp_no {p : Place} (h : p.hd = false) : p.fp = [] := by rw [Place.fp, h]
theorem Place.blk_fp {p : Place} (h : p.hd = true) : p.blk ∈ p.fp := by rw [p.fp_hd h]; exact List.mem_cons_self ..
theorem Place.nest_fp {p : Place} (h : p.hd = true) {b : Nat} (hb : b ∈ p.nest) : b ∈ p.fp := by rw [p.fp_hd h]; exact List.mem_cons_of_mem _ hb

/-- A block of the walk, in another world that agrees on what it reads. -/
theorem Ob.rep_ren {w w' : World} {X X' : Nat → Prop} {J J' : Nat → Option Place} {f : Nat → Option Nat} {p : Place} (hX : ∀ b, b < w.heap.size → ¬ X b → ¬ X' b) (hA : Agree w w' X p.fp)
    (hJ : ∀ k p j, J k = some p → f k = some j → ∃ p', J' j = some p' ∧ p.like p') {o : Ob} (h : o.rep w X J p) : (o.ren f).rep w' X' J' p := by
  have hA0 : Agree w w' X [] := fun b hb hx => hA b hb (hx.imp (fun m => absurd m (by simp)) id)
  cases o with
  | var cells =>
    obtain ⟨hh, hn, cs, t, hc, hr⟩ := h
    have hb : p.blk < w.heap.size := (Array.getElem?_eq_some_iff.1 hc).1
    exact ⟨hh, hn, cs, t, (hA p.blk hb (.inl (p.blk_fp hh))).trans hc, AV.repL_ren hX hA0 hJ _ _ hr⟩
  | arr sz deep xs =>
    obtain ⟨h0, a, cap, h1, h2, h3⟩ := h
    refine ⟨h0, a, cap, h1, h2, ?_⟩
    rcases h3 with h3 | ⟨hh, ha, h3, h4, h5⟩
    · exact .inl h3
    · have hb : p.blk < w.heap.size → w'.heap[p.blk]? = w.heap[p.blk]? := fun hb => hA p.blk hb (.inl (p.blk_fp hh))
      exact .inr ⟨hh, ha, plain_congr h3 hb, repRows_mono hX _ _ _ _ _ (fun c hc hx => hA c hc (hx.imp (fun m => p.nest_fp hh m) id)) hb h4, h5⟩
  | bld t e l =>
    obtain ⟨hh, q, v, hq, hc, hr, hn⟩ := h
    have hb : p.blk < w.heap.size := (Array.getElem?_eq_some_iff.1 hc).1
    refine ⟨hh, q, v, hq, (hA p.blk hb (.inl (p.blk_fp hh))).trans hc, ⟨hr.1, hr.2.imp id ?_⟩, hn⟩
    rintro ⟨g, cap, cur, fz, hv, hg0, hg, rest⟩
    have hgb : g < w.heap.size := (Array.getElem?_eq_some_iff.1 hg).1
    refine ⟨g, cap, cur, fz, hv, hg0, (hA g hgb (.inl ?_)).trans hg, rest⟩
    rw [p.fp_hd hh, hn, hv]
    simp [Value.ownBlock]
  | opn sz xs els =>
    obtain ⟨h0, cap, h1, h2, hh, h3, h4, h5, h6⟩ := h
    have hb : p.blk < w.heap.size → w'.heap[p.blk]? = w.heap[p.blk]? := fun hb => hA p.blk hb (.inl (p.blk_fp hh))
    have hbs : p.blk < w.heap.size := plain_lt h3
    refine ⟨h0, cap, h1, h2, hh, plain_congr h3 hb, ?_, ?_, ?_⟩
    · rw [baseXs_ren]
      exact repRows_mono hX _ _ _ _ _ (fun c hc hx => hA c hc (hx.imp (fun m => p.nest_fp hh m) id)) hb h4
    · rw [renEls_idx]; exact h5
    · intro e he
      obtain ⟨e0, h01, h02, h03, h04⟩ := renEls_mem he
      obtain ⟨g1, g2⟩ := h6 e0 h01
      refine ⟨⟨by rw [h02]; exact g1.1, by rw [h04, renCells_len]; exact g1.2.1, by rw [h03]; exact g1.2.2.1, by rw [h04, ocD_ren]; exact g1.2.2.2⟩, fun c key hk => ?_⟩
      rw [h04] at hk
      obtain ⟨k0, hk0, hf⟩ := renCells_get hk
      obtain ⟨q, hq, hqc, hq1⟩ := g2 c k0 hk0
      obtain ⟨q', hq', hl⟩ := hJ k0 q key hq hf
      exact ⟨q', hq', by rw [cell_congr (hb hbs), h02, hl.2]; exact hqc, by rw [hl.2]; exact hq1⟩
  | gone => exact h

theorem Ob.rep_fp {w : World} {X : Nat → Prop} {J : Nat → Option Place} {p : Place} {o : Ob} (h : o.rep w X J p) : ∀ b ∈ p.fp, b < w.heap.size := by
  intro b hb
  cases o with
  | var cells =>
    obtain ⟨hh, hn, cs, t, hc, _⟩ := h
    rw [p.fp_hd hh, hn] at hb
    rw [List.mem_singleton.1 hb]; exact (Array.getElem?_eq_some_iff.1 hc).1
  | arr sz deep xs =>
    obtain ⟨_, _, _, _, _, h3⟩ := h
    rcases h3 with ⟨hh, _⟩ | ⟨hh, _, h3, h4, _⟩
    · rw [p.fp_no hh] at hb; cases hb
    · rw [p.fp_hd hh] at hb
      rcases List.mem_cons.1 hb with rfl | hb
      · exact plain_lt h3
      · exact repRows_own _ _ _ h4 b hb
  | bld t e l =>
    obtain ⟨hh, q, v, hq, hc, hr, hn⟩ := h
    rw [p.fp_hd hh] at hb
    rcases List.mem_cons.1 hb with rfl | hb
    · exact (Array.getElem?_eq_some_iff.1 hc).1
    · rw [hn] at hb
      rcases hr.2 with ⟨hv, _⟩ | ⟨g, cap, cur, fz, hv, _, hg, _⟩
      · rw [hv] at hb; simp [Value.ownBlock] at hb
      · rw [hv] at hb
        simp [Value.ownBlock] at hb
        rw [hb]; exact (Array.getElem?_eq_some_iff.1 hg).1
  | opn sz xs els =>
    obtain ⟨h0, cap, h1, h2, hh, h3, h4, h5, h6⟩ := h
    rw [p.fp_hd hh] at hb
    rcases List.mem_cons.1 hb with rfl | hb
    · exact plain_lt h3
    · exact repRows_own _ _ _ h4 b hb
  | gone => rw [p.fp_no h] at hb; cases hb

theorem Mem.lt {X0 : Nat → Prop} {J : Nat → Option Place} {obj : Nat → Option Ob} {w : World} (m : Mem X0 J obj w) : ∀ b, Xof X0 J b → b < w.heap.size := by
  rintro b (hb | ⟨k, p, hp, hb⟩)
  · exact (m.x0 b hb).1
  · obtain ⟨o, ho⟩ := m.dom k p hp
    obtain ⟨p', hp', hr⟩ := m.ob k o ho
    rw [hp] at hp'; cases hp'
    exact Ob.rep_fp hr b hb

/-- From one state of the walk to the next: what may be written. -/
structure Step (J : Nat → Option Place) (w : World) (J' : Nat → Option Place) (w' : World) : Prop where
  kept : Kept (Fps J) w w'
  own : ∀ k p b, J' k = some p → b ∈ p.fp → Fps J b ∨ w.heap.size ≤ b
  stay : ∀ k p, k < 10000 → J k = some p → ∃ p', J' k = some p' ∧ p.like p'

theorem bigs_le : ∀ {l : List Nat}, bigs l = true → ∀ k ∈ l, 10000 ≤ k
  | [], _, k, h => by cases h
  | j :: r, hb, k, h => by
    simp only [bigs] at hb
    split at hb
    · rename_i hj
      rcases List.mem_cons.1 h with rfl | h
      · exact Nat.le_of_ble_eq_true hj
      · exact bigs_le hb k h
    · cases hb
theorem without_small {ks : List Nat} (hb : bigs ks = true) {k : Nat} (h : k < 10000) : without ks k = some k := by
  unfold without
  split
  · rename_i hk
    have := bigs_le hb k ((has_iff k ks).1 hk)
    omega
  · rfl

theorem Kept.refl (F : Nat → Prop) (w : World) : Kept F w w := ⟨rfl, rfl, rfl, Nat.le_refl _, fun _ _ _ => rfl⟩
theorem Step.refl (J : Nat → Option Place) (w : World) : Step J w J w := ⟨.refl _ w, fun k p b hp hb => .inl ⟨k, p, hp, hb⟩, fun k p _ hp => ⟨p, hp, p.like_refl⟩⟩
theorem Step.trans {J J' J'' : Nat → Option Place} {w w' w'' : World} (a : Step J w J' w') (b : Step J' w' J'' w'') : Step J w J'' w'' := by
  refine ⟨⟨b.kept.os.trans a.kept.os, b.kept.tape.trans a.kept.tape, b.kept.output.trans a.kept.output, Nat.le_trans a.kept.size b.kept.size, fun c hc hF => ?_⟩, fun k p c hp hc => ?_, fun k p hk hp => ?_⟩
  · rw [b.kept.block c (Nat.lt_of_lt_of_le hc a.kept.size) ?_, a.kept.block c hc hF]
    rintro ⟨k, p, hp, hb⟩
    rcases a.own k p c hp hb with h | h
    · exact hF h
    · omega
  · rcases b.own k p c hp hc with ⟨k', p', hp', hb'⟩ | h
    · exact a.own k' p' c hp' hb'
    · exact .inr (Nat.le_trans a.kept.size h)
  · obtain ⟨p', hp', h1⟩ := a.stay k p hk hp
    obtain ⟨p'', hp'', h2⟩ := b.stay k p' hk hp'
    exact ⟨p'', hp'', Place.like_trans h1 h2⟩

/-- Another world, all whose old blocks are as they were. -/
structure Same (w w' : World) : Prop where
  os : w'.os = w.os
  tape : w'.tape = w.tape
  output : w'.output = w.output
  size : w.heap.size ≤ w'.heap.size
  block : ∀ b, b < w.heap.size → w'.heap[b]? = w.heap[b]?
theorem Same.refl (w : World) : Same w w := ⟨rfl, rfl, rfl, Nat.le_refl _, fun _ _ => rfl⟩
theorem Same.kept {w w' : World} (h : Same w w') (F : Nat → Prop) : Kept F w w' := ⟨h.os, h.tape, h.output, h.size, fun b hb _ => h.block b hb⟩
theorem Same.step {w w' : World} (h : Same w w') (J : Nat → Option Place) : Step J w J w' := ⟨h.kept _, fun k p b hp hb => .inl ⟨k, p, hp, hb⟩, fun k p _ hp => ⟨p, hp, p.like_refl⟩⟩
theorem Same.agree {w w' : World} (h : Same w w') (X : Nat → Prop) (bs : List Nat) : Agree w w' X bs := fun b hb _ => h.block b hb
theorem Same.drawn (w : World) (n : Nat) : Same w { w with drawn := n } := ⟨rfl, rfl, rfl, Nat.le_refl _, fun _ _ => rfl⟩
theorem Same.push (w : World) (o : Obj) : Same w { w with heap := w.heap.push o } :=
  ⟨rfl, rfl, rfl, by simp, fun b hb => by show (w.heap.push o)[b]? = _; rw [Array.getElem?_push, if_neg (by omega)]⟩
theorem Same.trans {a b c : World} (h : Same a b) (k : Same b c) : Same a c :=
  ⟨k.os.trans h.os, k.tape.trans h.tape, k.output.trans h.output, Nat.le_trans h.size k.size, fun i hi => (k.block i (Nat.lt_of_lt_of_le hi h.size)).trans (h.block i hi)⟩

theorem Mem.same {X0 : Nat → Prop} {J : Nat → Option Place} {obj : Nat → Option Ob} {w w' : World} (m : Mem X0 J obj w) (h : Same w w') : Mem X0 J obj w' := by
  refine ⟨fun k o ho => ?_, m.dom, m.sep, m.nd, fun b hb => ⟨Nat.lt_of_lt_of_le (m.x0 b hb).1 h.size, (m.x0 b hb).2⟩⟩
  obtain ⟨p, hp, hr⟩ := m.ob k o ho
  have := Ob.rep_ren (f := some) (X' := Xof X0 J) (J' := J) (fun _ _ hx => hx) (h.agree _ p.fp) (fun k p j hp hj => by cases hj; exact ⟨p, hp, p.like_refl⟩) hr
  rw [Ob.ren_some] at this
  exact ⟨p, hp, this⟩
theorem AV.rep_same {X : Nat → Prop} {J : Nat → Option Place} {w w' : World} (h : Same w w') {x : AV} {v : Value} (r : x.rep w X J v) : x.rep w' X J v :=
  AV.rep_mono (fun _ _ hx => hx) (h.agree _ []) (fun _ p hp => ⟨p, hp, p.like_refl⟩) r
theorem AV.repL_same {X : Nat → Prop} {J : Nat → Option Place} {w w' : World} (h : Same w w') {x : List AV} {v : List Value} (r : AV.repL w X J x v) : AV.repL w' X J x v :=
  AV.repL_mono (fun _ _ hx => hx) (h.agree _ []) (fun _ p hp => ⟨p, hp, p.like_refl⟩) r

/-- Some blocks are turned (those of C), some go. -/
theorem Mem.gen {X0 : Nat → Prop} {J J' : Nat → Option Place} {obj obj' : Nat → Option Ob} {w w' : World} {f : Nat → Option Nat} {F : Nat → Prop} {C : List Nat}
    (m : Mem X0 J obj w)
    (hf : ∀ k j, f k = some j → j = k) (hsmall : ∀ k, k < 10000 → f k = some k)
    (hC : ∀ k, k ∈ C → ∀ p, J k = some p → f k = none ∧ 10000 ≤ k ∨ ∃ p', J' k = some p' ∧ p.like p')
    (hJ : ∀ k, k ∉ C → J' k = match f k with | some _ => J k | none => none)
    (ho : ∀ k, k ∉ C → obj' k = match f k with | some _ => (obj k).map (Ob.ren f) | none => none)
    (hdC : ∀ k, k ∈ C → ∀ p, J' k = some p → ∃ o, obj' k = some o)
    (hoC : ∀ k, k ∈ C → ∀ o, obj' k = some o → ∃ p, J' k = some p ∧ o.rep w' (Xof X0 J') J' p)
    (hkept : Kept F w w') (hF : ∀ b, F b → ∃ k p, J k = some p ∧ (f k = none ∨ k ∈ C) ∧ b ∈ p.fp)
    (hnd : ∀ k, k ∈ C → ∀ p, J' k = some p → p.fp.Nodup)
    (hfp : ∀ k, k ∈ C → ∀ p, J' k = some p → ∀ b, b ∈ p.fp → (∃ k p, J k = some p ∧ (f k = none ∨ k ∈ C) ∧ b ∈ p.fp) ∨ w.heap.size ≤ b)
    (hsep : ∀ k k' p p', k ∈ C → k' ∈ C → J' k = some p → J' k' = some p' → k ≠ k' → ∀ b, b ∈ p.fp → b ∈ p'.fp → False) :
    Mem X0 J' obj' w' ∧ (∀ x v, AV.rep w (Xof X0 J) J x v → (x.ren f).rep w' (Xof X0 J') J' v) ∧ Step J w J' w' := by
  have hJf : ∀ k p, J' k = some p → k ∈ C ∨ k ∉ C ∧ f k = some k ∧ J k = some p := by
    intro k p hp
    by_cases e : k ∈ C
    · exact .inl e
    · rw [hJ k e] at hp
      cases hfk : f k with
      | none => rw [hfk] at hp; cases hp
      | some j => rw [hfk] at hp; exact .inr ⟨e, by rw [hf k j hfk], hp⟩
  have hX : ∀ b, b < w.heap.size → ¬ Xof X0 J b → ¬ Xof X0 J' b := by
    rintro b hb hx (h0 | ⟨k, p, hp, hbp⟩)
    · exact hx (.inl h0)
    · rcases hJf k p hp with hk | ⟨_, _, hp'⟩
      · rcases hfp k hk p hp b hbp with ⟨k', p', h1, _, h2⟩ | h
        · exact hx (.inr ⟨k', p', h1, h2⟩)
        · omega
      · exact hx (.inr ⟨k, p, hp', hbp⟩)
  have hA : ∀ bs : List Nat, (∀ b ∈ bs, ¬ F b) → Agree w w' (Xof X0 J) bs := by
    intro bs hbs b hb hx
    refine hkept.block b hb fun hFb => ?_
    rcases hx with h | h
    · exact hbs b h hFb
    · obtain ⟨k, p, hp, _, hbp⟩ := hF b hFb
      exact h (.inr ⟨k, p, hp, hbp⟩)
  have hJJ : ∀ k p j, J k = some p → f k = some j → ∃ p', J' j = some p' ∧ p.like p' := by
    intro k p j hp hj
    have := hf k j hj; subst this
    by_cases e : j ∈ C
    · rcases hC j e p hp with ⟨h, _⟩ | h
      · rw [hj] at h; cases h
      · exact h
    · exact ⟨p, by rw [hJ j e, hj]; exact hp, p.like_refl⟩
  refine ⟨⟨?_, ?_, ?_, ?_, ?_⟩, fun x v h => AV.rep_ren hX (hA [] (by simp)) hJJ x v h, ?_⟩
  · intro k o hko
    by_cases e : k ∈ C
    · exact hoC k e o hko
    · rw [ho k e] at hko
      cases hfk : f k with
      | none => rw [hfk] at hko; cases hko
      | some j =>
        rw [hfk] at hko
        cases hob : obj k with
        | none => rw [hob] at hko; cases hko
        | some o1 =>
          rw [hob] at hko; cases hko
          obtain ⟨p, hp, hr1⟩ := m.ob k o1 hob
          refine ⟨p, by rw [hJ k e, hfk]; exact hp, Ob.rep_ren hX (hA p.fp ?_) hJJ hr1⟩
          intro b hb hFb
          obtain ⟨k', p', hp', hf', hb'⟩ := hF b hFb
          refine m.sep k k' p p' hp hp' ?_ b hb hb'
          rintro rfl
          rcases hf' with hf' | hf'
          · rw [hfk] at hf'; cases hf'
          · exact e hf'
  · intro k p hp
    rcases hJf k p hp with hk | ⟨e, hfk, hp'⟩
    · exact hdC k hk p hp
    · rw [ho k e, hfk]
      obtain ⟨o, hob⟩ := m.dom k p hp'
      exact ⟨_, by rw [hob]; rfl⟩
  · intro k k' p p' hp hp' hne b hb hb'
    have key : ∀ k k' p p', J' k = some p → k ∉ C → J' k' = some p' → k' ∈ C → b ∈ p.fp → b ∈ p'.fp → False := by
      intro k k' p p' hp hk hp' hk' hb hb'
      rcases hJf k p hp with h | ⟨_, hfk, hp1⟩
      · exact hk h
      · rcases hfp k' hk' p' hp' b hb' with ⟨k2, p2, h1, h2, h3⟩ | h
        · refine m.sep k k2 p p2 hp1 h1 ?_ b hb h3
          rintro rfl
          rcases h2 with h2 | h2
          · rw [hfk] at h2; cases h2
          · exact hk h2
        · exact absurd (m.lt b (.inr ⟨k, p, hp1, hb⟩)) (by omega)
    by_cases e : k ∈ C
    · by_cases e' : k' ∈ C
      · exact hsep k k' p p' e e' hp hp' hne b hb hb'
      · exact key k' k p' p hp' e' hp e hb' hb
    · by_cases e' : k' ∈ C
      · exact key k k' p p' hp e hp' e' hb hb'
      · rcases hJf k p hp with h | ⟨_, _, hp1⟩
        · exact e h
        · rcases hJf k' p' hp' with h | ⟨_, _, hp1'⟩
          · exact e' h
          · exact m.sep k k' p p' hp1 hp1' hne b hb hb'
  · intro k p hp
    rcases hJf k p hp with hk | ⟨_, _, hp'⟩
    · exact hnd k hk p hp
    · exact m.nd k p hp'
  · intro b hb
    refine ⟨Nat.lt_of_lt_of_le (m.x0 b hb).1 hkept.size, fun k p hp hbp => ?_⟩
    rcases hJf k p hp with hk | ⟨_, _, hp'⟩
    · rcases hfp k hk p hp b hbp with ⟨k2, p2, h1, _, h3⟩ | h
      · exact (m.x0 b hb).2 k2 p2 h1 h3
      · exact absurd (m.x0 b hb).1 (by omega)
    · exact (m.x0 b hb).2 k p hp' hbp
  · refine ⟨⟨hkept.os, hkept.tape, hkept.output, hkept.size, fun b hb hn => hkept.block b hb fun hFb => ?_⟩, fun k p b hp hb => ?_, fun k p hk' hp => ?_⟩
    · obtain ⟨k, p, hp, _, hbp⟩ := hF b hFb
      exact hn ⟨k, p, hp, hbp⟩
    · rcases hJf k p hp with hk | ⟨_, _, hp'⟩
      · exact (hfp k hk p hp b hb).imp (fun ⟨k, p, h1, _, h3⟩ => ⟨k, p, h1, h3⟩) id
      · exact .inl ⟨k, p, hp', hb⟩
    · exact hJJ k p k hp (hsmall k hk')

/-- One block more, or one in another's place; some go. -/
theorem Mem.step {X0 : Nat → Prop} {J J' : Nat → Option Place} {obj obj' : Nat → Option Ob} {w w' : World} {f : Nat → Option Nat} {F : Nat → Prop} {k0 : Nat} {p0 : Place} {o0 : Ob}
    (m : Mem X0 J obj w)
    (hf : ∀ k j, f k = some j → j = k) (hk : f k0 = none) (hbig : 10000 ≤ k0) (hsmall : ∀ k, k < 10000 → f k = some k)
    (hJ : ∀ k, J' k = if k = k0 then some p0 else match f k with | some _ => J k | none => none)
    (ho : ∀ k, obj' k = if k = k0 then some o0 else match f k with | some _ => (obj k).map (Ob.ren f) | none => none)
    (hkept : Kept F w w') (hF : ∀ b, F b → ∃ k p, J k = some p ∧ f k = none ∧ b ∈ p.fp)
    (hnd : p0.fp.Nodup) (hfp : ∀ b ∈ p0.fp, (∃ k p, J k = some p ∧ f k = none ∧ b ∈ p.fp) ∨ w.heap.size ≤ b)
    (hr : o0.rep w' (Xof X0 J') J' p0) :
    Mem X0 J' obj' w' ∧ (∀ x v, AV.rep w (Xof X0 J) J x v → (x.ren f).rep w' (Xof X0 J') J' v) ∧ Step J w J' w' := by
  have h0 : J' k0 = some p0 := by rw [hJ, if_pos rfl]
  have one : ∀ {k p}, k ∈ [k0] → J' k = some p → k = k0 ∧ p = p0 := by
    intro k p hk hp
    have e := List.mem_singleton.1 hk
    subst e
    rw [h0] at hp; cases hp; exact ⟨rfl, rfl⟩
  refine m.gen (C := [k0]) hf hsmall (fun k hk' p hp => by rw [List.mem_singleton.1 hk']; exact .inl ⟨hk, hbig⟩)
    (fun k hk' => by rw [hJ, if_neg (fun e => hk' (List.mem_singleton.2 e))]) (fun k hk' => by rw [ho, if_neg (fun e => hk' (List.mem_singleton.2 e))])
    (fun k hk' p hp => by rw [List.mem_singleton.1 hk', ho, if_pos rfl]; exact ⟨_, rfl⟩) (fun k hk' o hko => ?_) hkept
    (fun b hb => by obtain ⟨k, p, h1, h2, h3⟩ := hF b hb; exact ⟨k, p, h1, .inl h2, h3⟩) (fun k hk' p hp => by rw [(one hk' hp).2]; exact hnd) (fun k hk' p hp b hb => ?_) (fun k k' p p' hk1 hk2 _ _ hne => ?_)
  · rw [List.mem_singleton.1 hk', ho, if_pos rfl] at hko
    cases hko
    exact ⟨p0, by rw [List.mem_singleton.1 hk']; exact h0, hr⟩
  · rw [(one hk' hp).2] at hb
    exact (hfp b hb).imp (fun ⟨k, p, h1, h2, h3⟩ => ⟨k, p, h1, .inl h2, h3⟩) id
  · exact absurd ((List.mem_singleton.1 hk1).trans (List.mem_singleton.1 hk2).symm) hne

/-- A block is written in its place. -/
theorem Mem.upd {X0 : Nat → Prop} {J : Nat → Option Place} {obj obj' : Nat → Option Ob} {w w' : World} {k0 : Nat} {p0 : Place} {o0 : Ob}
    (m : Mem X0 J obj w) (hp0 : J k0 = some p0) (hh : p0.hd = true) (ho : ∀ k, obj' k = if k = k0 then some o0 else obj k)
    (hkept : Kept (· = p0.blk) w w') (hr : o0.rep w' (Xof X0 J) J p0) :
    Mem X0 J obj' w' ∧ (∀ x v, AV.rep w (Xof X0 J) J x v → x.rep w' (Xof X0 J) J v) ∧ Step J w J w' := by
  have hA : ∀ bs : List Nat, p0.blk ∉ bs → Agree w w' (Xof X0 J) bs := by
    intro bs hbs b hb hx
    refine hkept.block b hb fun e => ?_
    rcases hx with h | h
    · exact hbs (e ▸ h)
    · exact h (.inr ⟨k0, p0, hp0, e ▸ p0.blk_fp hh⟩)
  refine ⟨⟨?_, ?_, m.sep, m.nd, fun b hb => ⟨Nat.lt_of_lt_of_le (m.x0 b hb).1 hkept.size, (m.x0 b hb).2⟩⟩, fun x v h => AV.rep_mono (fun _ _ hx => hx) (hA [] (by simp)) (fun _ p hp => ⟨p, hp, p.like_refl⟩) h, ?_⟩
  · intro k o hko
    rw [ho] at hko
    by_cases e : k = k0
    · rw [if_pos e] at hko; cases hko; subst e; exact ⟨p0, hp0, hr⟩
    · rw [if_neg e] at hko
      obtain ⟨p, hp, hr1⟩ := m.ob k o hko
      have := Ob.rep_ren (f := some) (X' := Xof X0 J) (J' := J) (fun _ _ hx => hx) (hA p.fp fun hb => m.sep k k0 p p0 hp hp0 e _ hb (p0.blk_fp hh)) (fun k p j hp hj => by cases hj; exact ⟨p, hp, p.like_refl⟩) hr1
      rw [Ob.ren_some] at this
      exact ⟨p, hp, this⟩
  · intro k p hp
    rw [ho]
    by_cases e : k = k0
    · rw [if_pos e]; exact ⟨_, rfl⟩
    · rw [if_neg e]; exact m.dom k p hp
  · exact ⟨⟨hkept.os, hkept.tape, hkept.output, hkept.size, fun b hb hn => hkept.block b hb fun e => hn ⟨k0, p0, hp0, e ▸ p0.blk_fp hh⟩⟩, fun k p b hp hb => .inl ⟨k, p, hp, hb⟩, fun k p _ hp => ⟨p, hp, p.like_refl⟩⟩
end Go.Pm
