/-
A walk of Go's code over values: lemmas on what a state says of memory.
-/
import Derived.Test.YtbenanocioeglaaPmB
namespace Go.Pm
set_option linter.unusedVariables false
open Go

theorem look_nil {α : Type} (k : Nat) : look k ([] : List (Nat × α)) = none := rfl
theorem look_cons {α : Type} (k j : Nat) (v : α) (r : List (Nat × α)) : look k ((j, v) :: r) = if j = k then some v else look k r := by
  simp only [look]
  by_cases h : j = k
  · have : Nat.beq j k = true := by simpa using h
    rw [this, if_pos h]
  · have : Nat.beq j k = false := Bool.eq_false_iff.2 fun e => h (Nat.eq_of_beq_eq_true e)
    rw [this, if_neg h]

theorem has_iff (k : Nat) (l : List Nat) : has k l = true ↔ k ∈ l := by
  induction l with
  | nil => simp [has]
  | cons j r ih =>
    simp only [has]
    by_cases h : j = k
    · have : Nat.beq j k = true := by simpa using h
      rw [this]; simp [h]
    · have : Nat.beq j k = false := Bool.eq_false_iff.2 fun e => h (Nat.eq_of_beq_eq_true e)
      rw [this]; simp [ih, Ne.symm h]

theorem rangeAt_block {w : World} {b off : Nat} {vs : List Value} (h : w.rangeAt b off vs) (hn : vs ≠ []) : b < w.heap.size := by
  cases vs with
  | nil => exact absurd rfl hn
  | cons v vs =>
    have h0 := h 0 v rfl
    unfold World.cell? at h0
    split at h0
    · rename_i heq
      exact (Array.getElem?_eq_some_iff.1 heq).1
    · cases h0

theorem cell_congr {w w' : World} {b : Nat} (h : w'.heap[b]? = w.heap[b]?) (o : Nat) : w'.cell? ⟨b, o, none⟩ = w.cell? ⟨b, o, none⟩ := by
  simp only [World.cell?, h]

theorem rangeAt_congr {w w' : World} {b off : Nat} {vs : List Value} (h : w.rangeAt b off vs) (hb : b < w.heap.size → w'.heap[b]? = w.heap[b]?) : w'.rangeAt b off vs := by
  by_cases hn : vs = []
  · subst hn; intro j v hv; simp at hv
  · have := hb (rangeAt_block h hn)
    intro j v hv; rw [cell_congr this]; exact h j v hv

theorem plain_congr {w w' : World} {b n : Nat} (h : Plain w b n) (hb : b < w.heap.size → w'.heap[b]? = w.heap[b]?) : Plain w' b n := by
  obtain ⟨cs, t, h1, h2⟩ := h
  have : b < w.heap.size := (Array.getElem?_eq_some_iff.1 h1).1
  exact ⟨cs, t, (hb this).trans h1, h2⟩

theorem plain_lt {w : World} {b n : Nat} (h : Plain w b n) : b < w.heap.size := by
  obtain ⟨cs, t, h1, _⟩ := h
  exact (Array.getElem?_eq_some_iff.1 h1).1

/-- w' agrees with w on the blocks that are read: those of bs, and those that may not be written. -/
def Agree (w w' : World) (X : Nat → Prop) (bs : List Nat) : Prop := ∀ b, b < w.heap.size → (b ∈ bs ∨ ¬ X b) → w'.heap[b]? = w.heap[b]?

theorem Agree.left {w w' : World} {X : Nat → Prop} {a b : List Nat} (h : Agree w w' X (a ++ b)) : Agree w w' X a :=
  fun c hc hx => h c hc (hx.imp (fun m => List.mem_append_left _ m) id)
theorem Agree.right {w w' : World} {X : Nat → Prop} {a b : List Nat} (h : Agree w w' X (a ++ b)) : Agree w w' X b :=
  fun c hc hx => h c hc (hx.imp (fun m => List.mem_append_right _ m) id)

theorem repRows_block {w : World} {X : Nat → Prop} {b sz : Nat} {xs : List D} {off : Nat} {bs : List Nat} (hsz : 0 < sz) (hne : xs ≠ []) (h : repRows w X b sz xs off bs) : b < w.heap.size := by
  cases xs with
  | nil => exact absurd rfl hne
  | cons x xs =>
    simp only [repRows] at h
    obtain ⟨v, b1, b2, _, _, h2, _, h4, _⟩ := h
    refine rangeAt_block h4 fun e => ?_
    have : v.cells.size = 0 := by rw [← Array.length_toList, e]; rfl
    omega

mutual
theorem D.rep_mono {w w' : World} {X X' : Nat → Prop} (hX : ∀ b, b < w.heap.size → ¬ X b → ¬ X' b) :
    ∀ (x : D) (v : Value) (bs : List Nat), Agree w w' X bs → x.rep w X v bs → x.rep w' X' v bs
  | .b x, v, bs, _, h => by simp only [D.rep] at h ⊢; exact h
  | .i k n, v, bs, _, h => by simp only [D.rep] at h ⊢; exact h
  | .s l, v, bs, _, h => by simp only [D.rep] at h ⊢; exact h
  | .agg cs, v, bs, hA, h => by
    simp only [D.rep] at h ⊢
    obtain ⟨vs, hv, hr⟩ := h
    exact ⟨vs, hv, repL_mono hX cs _ _ hA hr⟩
  | .sl u xs, v, bs, hA, h => by
    simp only [D.rep] at h ⊢
    obtain ⟨a, cap, hv, hc, hr⟩ := h
    refine ⟨a, cap, hv, hc, ?_⟩
    rcases hr with hr | ⟨b, off, sz, bs', hne, ha, hsz, hrows, ho⟩
    · exact .inl hr
    · refine .inr ⟨b, off, sz, bs', hne, ha, hsz, ?_⟩
      rcases ho with ⟨hu, hx, h1, h2⟩ | ⟨hu, h0, hbs, hp⟩
      · subst h1; subst h2
        exact ⟨repRows_mono hX b sz xs off [] hA (fun hb => hA b hb (.inr hx)) hrows, .inl ⟨hu, hX b (repRows_block hsz hne hrows) hx, rfl, rfl⟩⟩
      · subst hbs
        have hb : b < w.heap.size → w'.heap[b]? = w.heap[b]? := fun hb => hA b hb (.inl (List.mem_cons_self ..))
        have hA' : Agree w w' X bs' := fun c hc hx => hA c hc (hx.imp (fun m => List.mem_cons_of_mem _ m) id)
        exact ⟨repRows_mono hX b sz xs off bs' hA' hb hrows, .inr ⟨hu, h0, rfl, plain_congr hp hb⟩⟩
theorem repL_mono {w w' : World} {X X' : Nat → Prop} (hX : ∀ b, b < w.heap.size → ¬ X b → ¬ X' b) :
    ∀ (xs : List D) (vs : List Value) (bs : List Nat), Agree w w' X bs → repL w X xs vs bs → repL w' X' xs vs bs
  | [], vs, bs, _, h => by simp only [repL] at h ⊢; exact h
  | x :: xs, vs, bs, hA, h => by
    simp only [repL] at h ⊢
    obtain ⟨v, vs', b1, b2, hv, hb, h1, h2⟩ := h
    subst hb
    exact ⟨v, vs', b1, b2, hv, rfl, D.rep_mono hX x v b1 hA.left h1, repL_mono hX xs vs' b2 hA.right h2⟩
theorem repRows_mono {w w' : World} {X X' : Nat → Prop} (hX : ∀ b, b < w.heap.size → ¬ X b → ¬ X' b) (b sz : Nat) :
    ∀ (xs : List D) (off : Nat) (bs : List Nat), Agree w w' X bs → (b < w.heap.size → w'.heap[b]? = w.heap[b]?) → repRows w X b sz xs off bs → repRows w' X' b sz xs off bs
  | [], off, bs, _, _, h => by simp only [repRows] at h ⊢; exact h
  | x :: xs, off, bs, hA, hb, h => by
    simp only [repRows] at h ⊢
    obtain ⟨v, b1, b2, hbs, h1, h2, h3, h4, h5⟩ := h
    subst hbs
    exact ⟨v, b1, b2, rfl, D.rep_mono hX x v b1 hA.left h1, h2, h3, rangeAt_congr h4 hb, repRows_mono hX b sz xs (off + sz) b2 hA.right hb h5⟩
end

mutual
theorem D.rep_own {w : World} {X : Nat → Prop} : ∀ (x : D) (v : Value) (bs : List Nat), x.rep w X v bs → ∀ b ∈ bs, b < w.heap.size
  | .b x, v, bs, h => by simp only [D.rep] at h; rw [h.2]; simp
  | .i k n, v, bs, h => by simp only [D.rep] at h; rw [h.2]; simp
  | .s l, v, bs, h => by simp only [D.rep] at h; rw [h.2]; simp
  | .agg cs, v, bs, h => by simp only [D.rep] at h; obtain ⟨vs, _, hr⟩ := h; exact repL_own cs _ _ hr
  | .sl u xs, v, bs, h => by
    simp only [D.rep] at h
    obtain ⟨a, cap, _, _, hr⟩ := h
    rcases hr with ⟨_, hb⟩ | ⟨b, off, sz, bs', _, _, _, hrows, ho⟩
    · rw [hb]; simp
    · rcases ho with ⟨_, _, hb, _⟩ | ⟨_, _, hb, hp⟩
      · rw [hb]; simp
      · intro c hc
        rw [hb] at hc
        rcases List.mem_cons.1 hc with rfl | hc
        · exact plain_lt hp
        · exact repRows_own xs _ _ hrows c hc
theorem repL_own {w : World} {X : Nat → Prop} : ∀ (xs : List D) (vs : List Value) (bs : List Nat), repL w X xs vs bs → ∀ b ∈ bs, b < w.heap.size
  | [], vs, bs, h => by simp only [repL] at h; rw [h.2]; simp
  | x :: xs, vs, bs, h => by
    simp only [repL] at h
    obtain ⟨v, vs', b1, b2, _, hb, h1, h2⟩ := h
    intro c hc
    rw [hb] at hc
    rcases List.mem_append.1 hc with hc | hc
    · exact D.rep_own x _ _ h1 c hc
    · exact repL_own xs _ _ h2 c hc
theorem repRows_own {w : World} {X : Nat → Prop} {b sz : Nat} : ∀ (xs : List D) (off : Nat) (bs : List Nat), repRows w X b sz xs off bs → ∀ b ∈ bs, b < w.heap.size
  | [], off, bs, h => by simp only [repRows] at h; rw [h]; simp
  | x :: xs, off, bs, h => by
    simp only [repRows] at h
    obtain ⟨v, b1, b2, hb, h1, _, _, _, h5⟩ := h
    intro c hc
    rw [hb] at hc
    rcases List.mem_append.1 hc with hc | hc
    · exact D.rep_own x _ _ h1 c hc
    · exact repRows_own xs _ _ h5 c hc
end

theorem Place.like_refl (p : Place) : p.like p := ⟨rfl, rfl, rfl⟩
theorem Place.like_trans {p q r : Place} (a : p.like q) (b : q.like r) : p.like r := ⟨b.1.trans a.1, b.2.1.trans a.2.1, b.2.2.trans a.2.2⟩

/-! ### Values in slots -/
mutual
/-- The value in another world, under other places, with its blocks named anew. -/
theorem AV.rep_ren {w w' : World} {X X' : Nat → Prop} {J J' : Nat → Option Place} {f : Nat → Option Nat} (hX : ∀ b, b < w.heap.size → ¬ X b → ¬ X' b) (hA : Agree w w' X [])
    (hJ : ∀ k p j, J k = some p → f k = some j → ∃ p', J' j = some p' ∧ p.like p') : ∀ (x : AV) (v : Value), x.rep w X J v → (x.ren f).rep w' X' J' v
  | .d x, v, h => by simp only [AV.ren, AV.rep] at h ⊢; exact D.rep_mono hX x v [] hA h
  | .c u, v, h => by simp only [AV.ren, AV.rep] at h ⊢; exact h
  | .snil, v, h => by simp only [AV.ren, AV.rep] at h ⊢; exact h
  | .agg cs, v, h => by
    simp only [AV.ren, AV.rep] at h ⊢
    obtain ⟨vs, hv, hr⟩ := h
    exact ⟨vs, hv, AV.repL_ren hX hA hJ cs _ hr⟩
  | .tup cs, v, h => by
    simp only [AV.ren, AV.rep] at h ⊢
    obtain ⟨vs, hv, hr⟩ := h
    exact ⟨vs, hv, AV.repL_ren hX hA hJ cs _ hr⟩
  | .ptr k off, v, h => by
    simp only [AV.rep] at h
    obtain ⟨p, hp, hv⟩ := h
    simp only [AV.ren]
    cases hf : f k with
    | none => simp only [AV.rep]; rw [hv]; rfl
    | some j => simp only [AV.rep]; obtain ⟨p', hp', hl⟩ := hJ k p j hp hf; exact ⟨p', hp', by rw [hl.1]; exact hv⟩
  | .eptr k sz i off, v, h => by
    simp only [AV.rep] at h
    obtain ⟨p, hp, hv⟩ := h
    simp only [AV.ren]
    cases hf : f k with
    | none => simp only [AV.rep]; rw [hv]; rfl
    | some j => simp only [AV.rep]; obtain ⟨p', hp', hl⟩ := hJ k p j hp hf; exact ⟨p', hp', by rw [hl.1]; exact hv⟩
  | .own k, v, h => by
    simp only [AV.rep] at h
    obtain ⟨p, hp, hv⟩ := h
    simp only [AV.ren]
    cases hf : f k with
    | none => simp only [AV.rep]; rw [hv]; rfl
    | some j => simp only [AV.rep]; obtain ⟨p', hp', hl⟩ := hJ k p j hp hf; exact ⟨p', hp', by rw [hl.1, hl.2.1, hl.2.2]; exact hv⟩
  | .rd cs, v, h => by
    simp only [AV.ren, AV.rep] at h ⊢
    obtain ⟨b, off, vs, hv, hn, hx, hr, hc⟩ := h
    exact ⟨b, off, vs, hv, hn, hX b (rangeAt_block hc hn) hx, Go.Pm.repL_mono hX cs _ _ hA hr, rangeAt_congr hc fun hb => hA b hb (.inr hx)⟩
  | .fn g caps, v, h => by
    simp only [AV.ren, AV.rep] at h ⊢
    obtain ⟨cs, hv, hr⟩ := h
    exact ⟨cs, hv, AV.repL_ren hX hA hJ caps _ hr⟩
  | .bot, v, h => by simp only [AV.ren, AV.rep] at h ⊢; exact h
theorem AV.repL_ren {w w' : World} {X X' : Nat → Prop} {J J' : Nat → Option Place} {f : Nat → Option Nat} (hX : ∀ b, b < w.heap.size → ¬ X b → ¬ X' b) (hA : Agree w w' X [])
    (hJ : ∀ k p j, J k = some p → f k = some j → ∃ p', J' j = some p' ∧ p.like p') : ∀ (xs : List AV) (vs : List Value), AV.repL w X J xs vs → AV.repL w' X' J' (renL f xs) vs
  | [], vs, h => by simp only [renL, AV.repL] at h ⊢; exact h
  | x :: xs, vs, h => by
    simp only [renL, AV.repL] at h ⊢
    obtain ⟨v, vs', hv, h1, h2⟩ := h
    exact ⟨v, vs', hv, AV.rep_ren hX hA hJ x v h1, AV.repL_ren hX hA hJ xs vs' h2⟩
end

mutual
theorem AV.ren_some : ∀ x : AV, x.ren some = x
  | .d _ | .c _ | .snil | .rd _ | .bot | .ptr .. | .eptr .. | .own _ => rfl
  | .agg cs => by simp only [AV.ren, renL_some cs]
  | .tup cs => by simp only [AV.ren, renL_some cs]
  | .fn g cs => by simp only [AV.ren, renL_some cs]
theorem renL_some : ∀ xs : List AV, renL some xs = xs
  | [] => rfl
  | x :: xs => by simp only [renL, AV.ren_some x, renL_some xs]
end
theorem Ob.ren_some (o : Ob) : o.ren some = o := by cases o <;> simp [Ob.ren, renL_some]

theorem AV.rep_mono {w w' : World} {X X' : Nat → Prop} {J J' : Nat → Option Place} (hX : ∀ b, b < w.heap.size → ¬ X b → ¬ X' b) (hA : Agree w w' X [])
    (hJ : ∀ k p, J k = some p → ∃ p', J' k = some p' ∧ p.like p') {x : AV} {v : Value} (h : x.rep w X J v) : x.rep w' X' J' v := by
  have := AV.rep_ren (f := some) hX hA (fun k p j hp hj => by cases hj; exact hJ k p hp) x v h
  rwa [AV.ren_some] at this
theorem AV.repL_mono {w w' : World} {X X' : Nat → Prop} {J J' : Nat → Option Place} (hX : ∀ b, b < w.heap.size → ¬ X b → ¬ X' b) (hA : Agree w w' X [])
    (hJ : ∀ k p, J k = some p → ∃ p', J' k = some p' ∧ p.like p') {x : List AV} {v : List Value} (h : AV.repL w X J x v) : AV.repL w' X' J' x v := by
  have := AV.repL_ren (f := some) hX hA (fun k p j hp hj => by cases hj; exact hJ k p hp) x v h
  rwa [renL_some] at this

/-- A block of the walk, in another world that agrees on what it reads. -/
theorem Ob.rep_ren {w w' : World} {X X' : Nat → Prop} {J J' : Nat → Option Place} {f : Nat → Option Nat} {p : Place} (hX : ∀ b, b < w.heap.size → ¬ X b → ¬ X' b) (hA : Agree w w' X p.fp)
    (hJ : ∀ k p j, J k = some p → f k = some j → ∃ p', J' j = some p' ∧ p.like p') {o : Ob} (h : o.rep w X J p) : (o.ren f).rep w' X' J' p := by
  have hA0 : Agree w w' X [] := fun b hb hx => hA b hb (hx.imp (fun m => absurd m (by simp)) id)
  cases o with
  | var cells =>
    obtain ⟨hn, cs, t, hc, hr⟩ := h
    have hb : p.blk < w.heap.size := (Array.getElem?_eq_some_iff.1 hc).1
    exact ⟨hn, cs, t, (hA p.blk hb (.inl (List.mem_cons_self ..))).trans hc, AV.repL_ren hX hA0 hJ _ _ hr⟩
  | arr sz deep xs =>
    obtain ⟨h0, h1, h2, h3, h4, h5⟩ := h
    have hb : p.blk < w.heap.size → w'.heap[p.blk]? = w.heap[p.blk]? := fun hb => hA p.blk hb (.inl (List.mem_cons_self ..))
    exact ⟨h0, h1, h2, plain_congr h3 hb, repRows_mono hX _ _ _ _ _ (fun c hc hx => hA c hc (hx.imp (fun m => List.mem_cons_of_mem _ m) id)) hb h4, h5⟩
  | bld e l =>
    obtain ⟨v, t, hc, hr, hn⟩ := h
    have hb : p.blk < w.heap.size := (Array.getElem?_eq_some_iff.1 hc).1
    refine ⟨v, t, (hA p.blk hb (.inl (List.mem_cons_self ..))).trans hc, ⟨hr.1, hr.2.imp id ?_⟩, hn⟩
    rintro ⟨g, cap, cur, fz, hv, hg0, hg, rest⟩
    have hgb : g < w.heap.size := (Array.getElem?_eq_some_iff.1 hg).1
    refine ⟨g, cap, cur, fz, hv, hg0, (hA g hgb (.inl ?_)).trans hg, rest⟩
    rw [Place.fp, hn, hv]
    simp [Value.ownBlock]

theorem Ob.rep_fp {w : World} {X : Nat → Prop} {J : Nat → Option Place} {p : Place} {o : Ob} (h : o.rep w X J p) : ∀ b ∈ p.fp, b < w.heap.size := by
  intro b hb
  cases o with
  | var cells =>
    obtain ⟨hn, cs, t, hc, _⟩ := h
    rw [Place.fp, hn] at hb
    rw [List.mem_singleton.1 hb]; exact (Array.getElem?_eq_some_iff.1 hc).1
  | arr sz deep xs =>
    obtain ⟨_, _, _, h3, h4, _⟩ := h
    rcases List.mem_cons.1 hb with rfl | hb
    · exact plain_lt h3
    · exact repRows_own _ _ _ h4 b hb
  | bld e l =>
    obtain ⟨v, t, hc, hr, hn⟩ := h
    rcases List.mem_cons.1 hb with rfl | hb
    · exact (Array.getElem?_eq_some_iff.1 hc).1
    · rw [hn] at hb
      rcases hr.2 with ⟨hv, _⟩ | ⟨g, cap, cur, fz, hv, _, hg, _⟩
      · rw [hv] at hb; simp [Value.ownBlock] at hb
      · rw [hv] at hb
        simp [Value.ownBlock] at hb
        rw [hb]; exact (Array.getElem?_eq_some_iff.1 hg).1

theorem Mem.lt {X0 : Nat → Prop} {J : Nat → Option Place} {obj : Nat → Option Ob} {w : World} (m : Mem X0 J obj w) : ∀ b, Xof X0 J b → b < w.heap.size := by
  rintro b (hb | ⟨k, p, hp, hb⟩)
  · exact (m.x0 b hb).1
  · obtain ⟨o, ho⟩ := m.dom k p hp
    obtain ⟨p', hp', hr⟩ := m.ob k o ho
    rw [hp] at hp'; cases hp'
    exact Ob.rep_fp hr b hb

/-- From one state of the walk to the next: what may be written. -/
structure Step (J : Nat → Option Place) (w : World) (J' : Nat → Option Place) (w' : World) : Prop where
  kept : Kept (Fps J) w w'
  own : ∀ k p b, J' k = some p → b ∈ p.fp → Fps J b ∨ w.heap.size ≤ b
  stay : ∀ k p, k < 10000 → J k = some p → ∃ p', J' k = some p' ∧ p.like p'

theorem bigs_le : ∀ {l : List Nat}, bigs l = true → ∀ k ∈ l, 10000 ≤ k
  | [], _, k, h => by cases h
  | j :: r, hb, k, h => by
    simp only [bigs] at hb
    split at hb
    · rename_i hj
      rcases List.mem_cons.1 h with rfl | h
      · exact Nat.le_of_ble_eq_true hj
      · exact bigs_le hb k h
    · cases hb
theorem without_small {ks : List Nat} (hb : bigs ks = true) {k : Nat} (h : k < 10000) : without ks k = some k := by
  unfold without
  split
  · rename_i hk
    have := bigs_le hb k ((has_iff k ks).1 hk)
    omega
  · rfl

theorem Kept.refl (F : Nat → Prop) (w : World) : Kept F w w := ⟨rfl, rfl, rfl, Nat.le_refl _, fun _ _ _ => rfl⟩
theorem Step.refl (J : Nat → Option Place) (w : World) : Step J w J w := ⟨.refl _ w, fun k p b hp hb => .inl ⟨k, p, hp, hb⟩, fun k p _ hp => ⟨p, hp, p.like_refl⟩⟩
theorem Step.trans {J J' J'' : Nat → Option Place} {w w' w'' : World} (a : Step J w J' w') (b : Step J' w' J'' w'') : Step J w J'' w'' := by
  refine ⟨⟨b.kept.os.trans a.kept.os, b.kept.tape.trans a.kept.tape, b.kept.output.trans a.kept.output, Nat.le_trans a.kept.size b.kept.size, fun c hc hF => ?_⟩, fun k p c hp hc => ?_, fun k p hk hp => ?_⟩
  · rw [b.kept.block c (Nat.lt_of_lt_of_le hc a.kept.size) ?_, a.kept.block c hc hF]
    rintro ⟨k, p, hp, hb⟩
    rcases a.own k p c hp hb with h | h
    · exact hF h
    · omega
  · rcases b.own k p c hp hc with ⟨k', p', hp', hb'⟩ | h
    · exact a.own k' p' c hp' hb'
    · exact .inr (Nat.le_trans a.kept.size h)
  · obtain ⟨p', hp', h1⟩ := a.stay k p hk hp
    obtain ⟨p'', hp'', h2⟩ := b.stay k p' hk hp'
    exact ⟨p'', hp'', Place.like_trans h1 h2⟩

/-- Another world, all whose old blocks are as they were. -/
structure Same (w w' : World) : Prop where
  os : w'.os = w.os
  tape : w'.tape = w.tape
  output : w'.output = w.output
  size : w.heap.size ≤ w'.heap.size
  block : ∀ b, b < w.heap.size → w'.heap[b]? = w.heap[b]?
theorem Same.refl (w : World) : Same w w := ⟨rfl, rfl, rfl, Nat.le_refl _, fun _ _ => rfl⟩
theorem Same.kept {w w' : World} (h : Same w w') (F : Nat → Prop) : Kept F w w' := ⟨h.os, h.tape, h.output, h.size, fun b hb _ => h.block b hb⟩
theorem Same.step {w w' : World} (h : Same w w') (J : Nat → Option Place) : Step J w J w' := ⟨h.kept _, fun k p b hp hb => .inl ⟨k, p, hp, hb⟩, fun k p _ hp => ⟨p, hp, p.like_refl⟩⟩
theorem Same.agree {w w' : World} (h : Same w w') (X : Nat → Prop) (bs : List Nat) : Agree w w' X bs := fun b hb _ => h.block b hb
theorem Same.drawn (w : World) (n : Nat) : Same w { w with drawn := n } := ⟨rfl, rfl, rfl, Nat.le_refl _, fun _ _ => rfl⟩
theorem Same.push (w : World) (o : Obj) : Same w { w with heap := w.heap.push o } :=
  ⟨rfl, rfl, rfl, by simp, fun b hb => by show (w.heap.push o)[b]? = _; rw [Array.getElem?_push, if_neg (by omega)]⟩
theorem Same.trans {a b c : World} (h : Same a b) (k : Same b c) : Same a c :=
  ⟨k.os.trans h.os, k.tape.trans h.tape, k.output.trans h.output, Nat.le_trans h.size k.size, fun i hi => (k.block i (Nat.lt_of_lt_of_le hi h.size)).trans (h.block i hi)⟩

theorem Mem.same {X0 : Nat → Prop} {J : Nat → Option Place} {obj : Nat → Option Ob} {w w' : World} (m : Mem X0 J obj w) (h : Same w w') : Mem X0 J obj w' := by
  refine ⟨fun k o ho => ?_, m.dom, m.sep, m.nd, fun b hb => ⟨Nat.lt_of_lt_of_le (m.x0 b hb).1 h.size, (m.x0 b hb).2⟩⟩
  obtain ⟨p, hp, hr⟩ := m.ob k o ho
  have := Ob.rep_ren (f := some) (X' := Xof X0 J) (J' := J) (fun _ _ hx => hx) (h.agree _ p.fp) (fun k p j hp hj => by cases hj; exact ⟨p, hp, p.like_refl⟩) hr
  rw [Ob.ren_some] at this
  exact ⟨p, hp, this⟩
theorem AV.rep_same {X : Nat → Prop} {J : Nat → Option Place} {w w' : World} (h : Same w w') {x : AV} {v : Value} (r : x.rep w X J v) : x.rep w' X J v :=
  AV.rep_mono (fun _ _ hx => hx) (h.agree _ []) (fun _ p hp => ⟨p, hp, p.like_refl⟩) r
theorem AV.repL_same {X : Nat → Prop} {J : Nat → Option Place} {w w' : World} (h : Same w w') {x : List AV} {v : List Value} (r : AV.repL w X J x v) : AV.repL w' X J x v :=
  AV.repL_mono (fun _ _ hx => hx) (h.agree _ []) (fun _ p hp => ⟨p, hp, p.like_refl⟩) r

/-- One block more, or one in another's place; some go. -/
theorem Mem.step {X0 : Nat → Prop} {J J' : Nat → Option Place} {obj obj' : Nat → Option Ob} {w w' : World} {f : Nat → Option Nat} {F : Nat → Prop} {k0 : Nat} {p0 : Place} {o0 : Ob}
    (m : Mem X0 J obj w)
    (hf : ∀ k j, f k = some j → j = k) (hk : f k0 = none) (hbig : 10000 ≤ k0) (hsmall : ∀ k, k < 10000 → f k = some k)
    (hJ : ∀ k, J' k = if k = k0 then some p0 else match f k with | some _ => J k | none => none)
    (ho : ∀ k, obj' k = if k = k0 then some o0 else match f k with | some _ => (obj k).map (Ob.ren f) | none => none)
    (hkept : Kept F w w') (hF : ∀ b, F b → ∃ k p, J k = some p ∧ f k = none ∧ b ∈ p.fp)
    (hnd : p0.fp.Nodup) (hfp : ∀ b ∈ p0.fp, (∃ k p, J k = some p ∧ f k = none ∧ b ∈ p.fp) ∨ w.heap.size ≤ b)
    (hr : o0.rep w' (Xof X0 J') J' p0) :
    Mem X0 J' obj' w' ∧ (∀ x v, AV.rep w (Xof X0 J) J x v → (x.ren f).rep w' (Xof X0 J') J' v) ∧ Step J w J' w' := by
  have hJf : ∀ k p, J' k = some p → k = k0 ∧ p = p0 ∨ k ≠ k0 ∧ f k = some k ∧ J k = some p := by
    intro k p hp
    rw [hJ] at hp
    by_cases e : k = k0
    · rw [if_pos e] at hp; cases hp; exact .inl ⟨e, rfl⟩
    · rw [if_neg e] at hp
      cases hfk : f k with
      | none => rw [hfk] at hp; cases hp
      | some j => rw [hfk] at hp; exact .inr ⟨e, by rw [hf k j hfk], hp⟩
  have hX : ∀ b, b < w.heap.size → ¬ Xof X0 J b → ¬ Xof X0 J' b := by
    rintro b hb hx (h0 | ⟨k, p, hp, hbp⟩)
    · exact hx (.inl h0)
    · rcases hJf k p hp with ⟨_, rfl⟩ | ⟨_, _, hp'⟩
      · rcases hfp b hbp with ⟨k', p', h1, _, h2⟩ | h
        · exact hx (.inr ⟨k', p', h1, h2⟩)
        · omega
      · exact hx (.inr ⟨k, p, hp', hbp⟩)
  have hA : ∀ bs : List Nat, (∀ b ∈ bs, ¬ F b) → Agree w w' (Xof X0 J) bs := by
    intro bs hbs b hb hx
    refine hkept.block b hb fun hFb => ?_
    rcases hx with h | h
    · exact hbs b h hFb
    · obtain ⟨k, p, hp, _, hbp⟩ := hF b hFb
      exact h (.inr ⟨k, p, hp, hbp⟩)
  have hJJ0 : ∀ k p j, J k = some p → f k = some j → J' j = some p := by
    intro k p j hp hj
    have := hf k j hj; subst this
    rw [hJ, if_neg (by rintro rfl; rw [hk] at hj; cases hj), hj]; exact hp
  have hJJ : ∀ k p j, J k = some p → f k = some j → ∃ p', J' j = some p' ∧ p.like p' := fun k p j hp hj => ⟨p, hJJ0 k p j hp hj, p.like_refl⟩
  refine ⟨⟨?_, ?_, ?_, ?_, ?_⟩, fun x v h => AV.rep_ren hX (hA [] (by simp)) hJJ x v h, ?_⟩
  · intro k o hko
    rw [ho] at hko
    by_cases e : k = k0
    · rw [if_pos e] at hko; cases hko
      exact ⟨p0, by rw [hJ, if_pos e], hr⟩
    · rw [if_neg e] at hko
      cases hfk : f k with
      | none => rw [hfk] at hko; cases hko
      | some j =>
        rw [hfk] at hko
        cases hob : obj k with
        | none => rw [hob] at hko; cases hko
        | some o1 =>
          rw [hob] at hko; cases hko
          obtain ⟨p, hp, hr1⟩ := m.ob k o1 hob
          refine ⟨p, by rw [hJ, if_neg e, hfk]; exact hp, Ob.rep_ren hX (hA p.fp ?_) hJJ hr1⟩
          intro b hb hFb
          obtain ⟨k', p', hp', hf', hb'⟩ := hF b hFb
          refine m.sep k k' p p' hp hp' ?_ b hb hb'
          rintro rfl; rw [hfk] at hf'; cases hf'
  · intro k p hp
    rw [ho]
    rcases hJf k p hp with ⟨e, _⟩ | ⟨e, hfk, hp'⟩
    · rw [if_pos e]; exact ⟨_, rfl⟩
    · rw [if_neg e, hfk]
      obtain ⟨o, hob⟩ := m.dom k p hp'
      exact ⟨_, by rw [hob]; rfl⟩
  · intro k k' p p' hp hp' hne b hb hb'
    have key : ∀ k p, J' k = some p → k ≠ k0 → b ∈ p.fp → b ∈ p0.fp → False := by
      intro k p hp hk0 hb1 hb2
      rcases hJf k p hp with ⟨e, _⟩ | ⟨_, hfk, hp1⟩
      · exact hk0 e
      · rcases hfp b hb2 with ⟨k2, p2, h1, h2, h3⟩ | h
        · exact m.sep k k2 p p2 hp1 h1 (by rintro rfl; rw [hfk] at h2; cases h2) b hb1 h3
        · exact absurd (m.lt b (.inr ⟨k, p, hp1, hb1⟩)) (by omega)
    rcases hJf k p hp with ⟨e, e2⟩ | ⟨e, hfk, hp1⟩
    · subst e2
      exact key k' p' hp' (fun h => hne (e.trans h.symm)) hb' hb
    · rcases hJf k' p' hp' with ⟨e', e2⟩ | ⟨e', hfk', hp1'⟩
      · subst e2; exact key k p hp e hb hb'
      · exact m.sep k k' p p' hp1 hp1' hne b hb hb'
  · intro k p hp
    rcases hJf k p hp with ⟨_, rfl⟩ | ⟨_, _, hp'⟩
    · exact hnd
    · exact m.nd k p hp'
  · intro b hb
    refine ⟨Nat.lt_of_lt_of_le (m.x0 b hb).1 hkept.size, fun k p hp hbp => ?_⟩
    rcases hJf k p hp with ⟨_, rfl⟩ | ⟨_, _, hp'⟩
    · rcases hfp b hbp with ⟨k2, p2, h1, _, h3⟩ | h
      · exact (m.x0 b hb).2 k2 p2 h1 h3
      · exact absurd (m.x0 b hb).1 (by omega)
    · exact (m.x0 b hb).2 k p hp' hbp
  · refine ⟨⟨hkept.os, hkept.tape, hkept.output, hkept.size, fun b hb hn => hkept.block b hb fun hFb => ?_⟩, fun k p b hp hb => ?_, fun k p hk' hp => ?_⟩
    · obtain ⟨k, p, hp, _, hbp⟩ := hF b hFb
      exact hn ⟨k, p, hp, hbp⟩
    · rcases hJf k p hp with ⟨_, rfl⟩ | ⟨_, _, hp'⟩
      · exact (hfp b hb).imp (fun ⟨k, p, h1, _, h3⟩ => ⟨k, p, h1, h3⟩) id
      · exact .inl ⟨k, p, hp', hb⟩
    · exact ⟨p, hJJ0 k p k hp (hsmall k hk'), p.like_refl⟩

/-- A block is written in its place. -/
theorem Mem.upd {X0 : Nat → Prop} {J : Nat → Option Place} {obj obj' : Nat → Option Ob} {w w' : World} {k0 : Nat} {p0 : Place} {o0 : Ob}
    (m : Mem X0 J obj w) (hp0 : J k0 = some p0) (ho : ∀ k, obj' k = if k = k0 then some o0 else obj k)
    (hkept : Kept (· = p0.blk) w w') (hr : o0.rep w' (Xof X0 J) J p0) :
    Mem X0 J obj' w' ∧ (∀ x v, AV.rep w (Xof X0 J) J x v → x.rep w' (Xof X0 J) J v) ∧ Step J w J w' := by
  have hA : ∀ bs : List Nat, p0.blk ∉ bs → Agree w w' (Xof X0 J) bs := by
    intro bs hbs b hb hx
    refine hkept.block b hb fun e => ?_
    rcases hx with h | h
    · exact hbs (e ▸ h)
    · exact h (.inr ⟨k0, p0, hp0, e ▸ List.mem_cons_self ..⟩)
  refine ⟨⟨?_, ?_, m.sep, m.nd, fun b hb => ⟨Nat.lt_of_lt_of_le (m.x0 b hb).1 hkept.size, (m.x0 b hb).2⟩⟩, fun x v h => AV.rep_mono (fun _ _ hx => hx) (hA [] (by simp)) (fun _ p hp => ⟨p, hp, p.like_refl⟩) h, ?_⟩
  · intro k o hko
    rw [ho] at hko
    by_cases e : k = k0
    · rw [if_pos e] at hko; cases hko; subst e; exact ⟨p0, hp0, hr⟩
    · rw [if_neg e] at hko
      obtain ⟨p, hp, hr1⟩ := m.ob k o hko
      have := Ob.rep_ren (f := some) (X' := Xof X0 J) (J' := J) (fun _ _ hx => hx) (hA p.fp fun hb => m.sep k k0 p p0 hp hp0 e _ hb (List.mem_cons_self ..)) (fun k p j hp hj => by cases hj; exact ⟨p, hp, p.like_refl⟩) hr1
      rw [Ob.ren_some] at this
      exact ⟨p, hp, this⟩
  · intro k p hp
    rw [ho]
    by_cases e : k = k0
    · rw [if_pos e]; exact ⟨_, rfl⟩
    · rw [if_neg e]; exact m.dom k p hp
  · exact ⟨⟨hkept.os, hkept.tape, hkept.output, hkept.size, fun b hb hn => hkept.block b hb fun e => hn ⟨k0, p0, hp0, e ▸ List.mem_cons_self ..⟩⟩, fun k p b hp hb => .inl ⟨k, p, hp, hb⟩, fun k p _ hp => ⟨p, hp, p.like_refl⟩⟩
end Go.Pm
