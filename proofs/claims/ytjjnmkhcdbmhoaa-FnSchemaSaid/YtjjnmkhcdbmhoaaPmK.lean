/-
A walk of Go's code over values: what a call sees of the caller's blocks.
-/
import Derived.Test.YtjjnmkhcdbmhoaaPmJ
namespace Go.Pm
open Go
set_option linter.unusedVariables false
variable {P : Program}

theorem eraseL_length : ∀ xs : List D, (eraseL xs).length = xs.length
  | [] => rfl
  | x :: xs => by simp only [eraseL, List.length_cons, eraseL_length xs]
theorem erase_cells : ∀ x : D, x.erase.cells.length = x.cells.length
  | .b _ | .i .. | .s _ | .sl .. | .os .. | .junk => rfl
  | .agg cs => by simp only [D.erase, D.cells, eraseL_length]
mutual
theorem D.rep_erase {w : World} {X X' : Nat → Prop} (hX : ∀ b, X' b → X b) : ∀ (x : D) (v : Value) (bs : List Nat), x.rep w X v bs → (∀ b ∈ bs, ¬ X' b) → x.erase.rep w X' v []
  | .b x, v, bs, h, _ => by simp only [D.rep, D.erase] at h ⊢; exact ⟨h.1, trivial⟩
  | .i k n, v, bs, h, _ => by simp only [D.rep, D.erase] at h ⊢; exact ⟨h.1, trivial⟩
  | .s l, v, bs, h, _ => by simp only [D.rep, D.erase] at h ⊢; exact ⟨h.1, trivial⟩
  | .agg cs, v, bs, h, hb => by
    simp only [D.rep, D.erase] at h ⊢
    obtain ⟨vs, hv, hr⟩ := h
    exact ⟨vs, hv, repL_erase hX cs _ _ hr hb⟩
  | .junk, v, bs, h, _ => by simp only [D.rep, D.erase] at h ⊢; exact ⟨h.1, trivial⟩
  | .sl u xs, v, bs, h, hb => by
    simp only [D.rep, D.erase, eraseL_length] at h ⊢
    obtain ⟨hu, hbs, a, cap, hv, hc, hr⟩ := h
    refine ⟨trivial, trivial, a, cap, hv, hc, ?_⟩
    rcases hr with h1 | ⟨b, off, sz, hne, ha, hsz, hrows, hx⟩
    · subst h1; exact .inl rfl
    · refine .inr ⟨b, off, sz, ?_, ha, hsz, repRows_erase hX b sz xs off [] hrows (by simp), fun h => hx (hX b h)⟩
      intro e
      have := eraseL_length xs
      rw [e] at this
      exact hne (List.eq_nil_of_length_eq_zero this.symm)
  | .os sz deep xs, v, bs, h, hb => by
    simp only [D.rep, D.erase, eraseL_length] at h ⊢
    obtain ⟨h0, a, cap, hv, hc, hr⟩ := h
    refine ⟨trivial, trivial, a, cap, hv, hc, ?_⟩
    by_cases hn : xs = []
    · subst hn; exact .inl rfl
    · rcases hr with ⟨h1, _⟩ | ⟨b, bs', ha, hp, hrows, hbs, hd⟩
      · exact absurd h1 hn
      · subst hbs
        refine .inr ⟨b, 0, sz, ?_, ha, h0, repRows_erase hX b sz xs 0 bs' hrows (fun c hc => hb c (List.mem_cons_of_mem _ hc)), hb b (List.mem_cons_self ..)⟩
        intro e
        have := eraseL_length xs
        rw [e] at this
        exact hn (List.eq_nil_of_length_eq_zero this.symm)
theorem repL_erase {w : World} {X X' : Nat → Prop} (hX : ∀ b, X' b → X b) : ∀ (xs : List D) (vs : List Value) (bs : List Nat), repL w X xs vs bs → (∀ b ∈ bs, ¬ X' b) → repL w X' (eraseL xs) vs []
  | [], vs, bs, h, _ => by simp only [repL, eraseL] at h ⊢; exact ⟨h.1, trivial⟩
  | x :: xs, vs, bs, h, hb => by
    simp only [repL, eraseL] at h ⊢
    obtain ⟨v, vs', b1, b2, hv, rfl, h1, h2⟩ := h
    exact ⟨v, vs', [], [], hv, rfl, D.rep_erase hX x v b1 h1 (fun c hc => hb c (List.mem_append_left _ hc)), repL_erase hX xs vs' b2 h2 (fun c hc => hb c (List.mem_append_right _ hc))⟩
theorem repRows_erase {w : World} {X X' : Nat → Prop} (hX : ∀ b, X' b → X b) (b sz : Nat) : ∀ (xs : List D) (off : Nat) (bs : List Nat), repRows w X b sz xs off bs → (∀ b ∈ bs, ¬ X' b) → repRows w X' b sz (eraseL xs) off []
  | [], off, bs, h, _ => by simp only [repRows, eraseL] at h ⊢
  | x :: xs, off, bs, h, hb => by
    simp only [repRows, eraseL] at h ⊢
    obtain ⟨v, b1, b2, rfl, h1, h2, h3, h4, h5⟩ := h
    exact ⟨v, [], [], rfl, D.rep_erase hX x v b1 h1 (fun c hc => hb c (List.mem_append_left _ hc)), h2, by rw [erase_cells]; exact h3, h4, repRows_erase hX b sz xs (off + sz) b2 h5 (fun c hc => hb c (List.mem_append_right _ hc))⟩
end

theorem repRows_less {w : World} {X X' : Nat → Prop} (hX : ∀ b, X' b → X b) {b sz : Nat} {xs : List D} {off : Nat} {bs : List Nat} (h : repRows w X b sz xs off bs) : repRows w X' b sz xs off bs :=
  repRows_mono (fun b _ hx h => hx (hX b h)) b sz xs off bs (fun _ _ _ => rfl) (fun _ => rfl) h

section
variable {X0 : Nat → Prop} {J : Nat → Option Place} {σ : Nat → Option Ob} {w : World}
mutual
theorem show_rep (m : Mem X0 J σ w) {X' : Nat → Prop} (hX : ∀ b, X' b → Xof X0 J b) : ∀ (v : AV) (u : Value) (x : D) (ks : List Nat), v.show σ = some (x, ks) → v.rep w (Xof X0 J) J u →
    (∀ k, k ∈ ks → ∀ p, J k = some p → ∀ b, b ∈ p.fp → ¬ X' b) → x.rep w X' u []
  | .d y, u, x, ks, h, hr, hb => by
    simp only [AV.show, Option.some.injEq, Prod.mk.injEq] at h; obtain ⟨rfl, rfl⟩ := h
    simp only [AV.rep] at hr
    exact D.rep_mono (fun b _ hx h => hx (hX b h)) y u [] (fun _ _ _ => rfl) hr
  | .snil, u, x, ks, h, hr, hb => by
    simp only [AV.show, Option.some.injEq, Prod.mk.injEq] at h; obtain ⟨rfl, rfl⟩ := h
    simp only [AV.rep] at hr
    simp only [D.rep]
    exact ⟨trivial, trivial, none, 0, hr, Nat.le_refl _, .inl trivial⟩
  | .own k, u, x, ks, h, hr, hb => by
    simp only [AV.rep] at hr
    obtain ⟨p, hp, hu, _⟩ := hr
    have go : ∀ {sz : Nat} {deep : Bool} {xs : List D}, σ k = some (.arr sz deep xs) → (k ∈ ks) → (D.sl false (eraseL xs)).rep w X' u [] ∧ (deep = false → (D.sl false xs).rep w X' u []) := by
      intro sz deep xs ho hk
      obtain ⟨p', hp', hr'⟩ := m.ob k _ ho
      rw [hp] at hp'; cases hp'
      have hbk := hb k hk p hp
      have hos := arr_place hr'
      rw [← hu] at hos
      refine ⟨?_, fun hd => ?_⟩
      · have := D.rep_erase hX (.os sz deep xs) u p.fp hos hbk
        simpa [D.erase] using this
      · obtain ⟨h0, a, cap, h1, h2, h3⟩ := hr'
        simp only [D.rep]
        refine ⟨trivial, trivial, a, cap, hu.trans h1, h2, ?_⟩
        rcases h3 with ⟨_, h3, _⟩ | ⟨hh, ha, h3, h4, h5⟩
        · exact .inl h3
        · by_cases hn : xs = []
          · exact .inl hn
          · rw [h5 hd] at h4
            exact .inr ⟨p.blk, 0, sz, hn, ha, h0, repRows_less hX h4, hbk p.blk (p.blk_fp hh)⟩
    simp only [AV.show] at h
    split at h
    · rename_i sz xs ho
      simp only [Option.some.injEq, Prod.mk.injEq] at h; obtain ⟨rfl, rfl⟩ := h
      exact (go ho (List.mem_cons_self ..)).2 rfl
    · rename_i sz xs ho
      simp only [Option.some.injEq, Prod.mk.injEq] at h; obtain ⟨rfl, rfl⟩ := h
      exact (go ho (List.mem_cons_self ..)).1
    · cases h
  | .win k s lo hi, u, x, ks, h, hr, hb => by
    simp only [AV.rep] at hr
    obtain ⟨p, a0, n0, c0, a, c, hp, hpv, q1, q2, q3, hu, q4, q5⟩ := hr
    simp only [AV.show] at h
    split at h
    case h_2 => cases h
    rename_i sz d xs ho
    split at h
    case h_2 => cases h
    rename_i hbq
    have hss := Nat.eq_of_beq_eq_true hbq
    subst hss
    obtain ⟨p', hp', g0, a1, cap, g1, g2, g3⟩ := m.ob k _ ho
    rw [hp] at hp'; cases hp'
    rw [g1] at hpv
    cases hpv
    have hkk : k ∈ ks := by split at h <;> (simp only [Option.some.injEq, Prod.mk.injEq] at h; rw [← h.2]; exact List.mem_cons_self ..)
    have hbk := hb k hkk p hp
    have hlen : ((xs.take hi).drop lo).length = hi - lo := by rw [List.length_drop, List.length_take, Nat.min_eq_left q2]
    -- the elements, seen from the window
    have rows : lo < hi → p.hd = true → a0 = some ⟨p.blk, 0, none⟩ → repRows w (Xof X0 J) p.blk s xs 0 p.nest → ∃ bs, (∀ b ∈ bs, b ∈ p.nest) ∧ repRows w (Xof X0 J) p.blk s ((xs.take hi).drop lo) (lo * s) bs := by
      intro hlt _ _ g4
      have take : ∀ {xs : List D} {n off : Nat} {bs : List Nat}, repRows w (Xof X0 J) p.blk s xs off bs → ∃ bs', (∀ b ∈ bs', b ∈ bs) ∧ repRows w (Xof X0 J) p.blk s (xs.take n) off bs' := by
        intro xs
        induction xs with
        | nil => intro n off bs h; exact ⟨[], by simp, by simp [repRows]⟩
        | cons x xs ih =>
          intro n off bs h
          cases n with
          | zero => exact ⟨[], by simp, by simp [repRows]⟩
          | succ n =>
            simp only [repRows] at h
            obtain ⟨v, b1, b2, rfl, k1, k2, k3, k4, k5⟩ := h
            obtain ⟨bs', m1, m2⟩ := ih (n := n) k5
            refine ⟨b1 ++ bs', fun b hb => ?_, ?_⟩
            · rcases List.mem_append.1 hb with hb | hb
              · exact List.mem_append_left _ hb
              · exact List.mem_append_right _ (m1 b hb)
            · simp only [List.take_succ_cons, repRows]
              exact ⟨v, b1, bs', rfl, k1, k2, k3, k4, m2⟩
      have drp : ∀ {xs : List D} {n off : Nat} {bs : List Nat}, repRows w (Xof X0 J) p.blk s xs off bs → ∃ bs', (∀ b ∈ bs', b ∈ bs) ∧ repRows w (Xof X0 J) p.blk s (xs.drop n) (off + n * s) bs' := by
        intro xs
        induction xs with
        | nil => intro n off bs h; exact ⟨[], by simp, by simp [repRows]⟩
        | cons x xs ih =>
          intro n off bs h
          cases n with
          | zero => exact ⟨bs, fun _ h => h, by simpa using h⟩
          | succ n =>
            simp only [repRows] at h
            obtain ⟨v, b1, b2, rfl, k1, k2, k3, k4, k5⟩ := h
            obtain ⟨bs', m1, m2⟩ := ih (n := n) k5
            refine ⟨bs', fun b hb => List.mem_append_right _ (m1 b hb), ?_⟩
            rw [show off + (n + 1) * s = off + s + n * s by rw [Nat.add_mul, Nat.one_mul]; omega]
            simpa using m2
      obtain ⟨bs1, m1, m2⟩ := take (n := hi) g4
      obtain ⟨bs2, m3, m4⟩ := drp (n := lo) m2
      exact ⟨bs2, fun b hb => m1 b (m3 b hb), by simpa using m4⟩
    have main : (D.sl false (eraseL ((xs.take hi).drop lo))).rep w X' u [] ∧ (d = false → (D.sl false ((xs.take hi).drop lo)).rep w X' u []) := by
      rcases Nat.eq_or_lt_of_le q1 with e | hlt
      · have hnil : (xs.take hi).drop lo = [] := List.eq_nil_of_length_eq_zero (by rw [hlen]; omega)
        rw [hnil]
        have : (D.sl false []).rep w X' u [] := by
          simp only [D.rep]
          exact ⟨trivial, trivial, a, c, by rw [hu, show hi - lo = 0 by omega]; rfl, Nat.zero_le _, .inl trivial⟩
        exact ⟨this, fun _ => this⟩
      · obtain ⟨e1, e2⟩ := q5 hlt
        rcases g3 with ⟨_, g3, _⟩ | ⟨hh, ha, g3, g4, g5⟩
        · have q2' := q2; rw [g3, List.length_nil] at q2'; omega
        · obtain ⟨bs, m1, m2⟩ := rows hlt hh ha g4
          have hne : (xs.take hi).drop lo ≠ [] := by intro e; rw [e] at hlen; simp at hlen; omega
          refine ⟨?_, fun hd => ?_⟩
          · simp only [D.rep, eraseL_length, hlen]
            refine ⟨trivial, trivial, a, c, hu, q4, .inr ⟨p.blk, lo * s, s, ?_, e2, g0, repRows_erase hX _ _ _ _ _ m2 (fun b hb => hbk b (p.nest_fp hh (m1 b hb))), hbk p.blk (p.blk_fp hh)⟩⟩
            intro e
            have := eraseL_length ((xs.take hi).drop lo)
            rw [e] at this
            exact hne (List.eq_nil_of_length_eq_zero this.symm)
          · have hb0 : bs = [] := by
              cases bs with
              | nil => rfl
              | cons b bs => have := m1 b (List.mem_cons_self ..); rw [g5 hd] at this; cases this
            subst hb0
            simp only [D.rep, hlen]
            exact ⟨trivial, trivial, a, c, hu, q4, .inr ⟨p.blk, lo * s, s, hne, e2, g0, repRows_less hX m2, hbk p.blk (p.blk_fp hh)⟩⟩
    split at h
    · simp only [Option.some.injEq, Prod.mk.injEq] at h; obtain ⟨rfl, rfl⟩ := h
      exact main.2 rfl
    · simp only [Option.some.injEq, Prod.mk.injEq] at h; obtain ⟨rfl, rfl⟩ := h
      exact main.1
  | .agg cs, u, x, ks, h, hr, hb => by
    simp only [AV.show] at h
    split at h
    · rename_i l k1 hl
      simp only [Option.some.injEq, Prod.mk.injEq] at h; obtain ⟨rfl, rfl⟩ := h
      simp only [AV.rep] at hr
      obtain ⟨vs, hv, hr⟩ := hr
      simp only [D.rep]
      exact ⟨vs, hv, showL_rep m hX cs _ _ _ hl hr hb⟩
    · cases h
  | .c _, u, x, ks, h, _, _ => by simp [AV.show] at h
  | .tup _, u, x, ks, h, _, _ => by simp [AV.show] at h
  | .ptr .., u, x, ks, h, _, _ => by simp [AV.show] at h
  | .eptr .., u, x, ks, h, _, _ => by simp [AV.show] at h
  | .rd _, u, x, ks, h, _, _ => by simp [AV.show] at h
  | .fn .., u, x, ks, h, _, _ => by simp [AV.show] at h
  | .bot, u, x, ks, h, _, _ => by simp [AV.show] at h
theorem showL_rep (m : Mem X0 J σ w) {X' : Nat → Prop} (hX : ∀ b, X' b → Xof X0 J b) : ∀ (vs : List AV) (us : List Value) (xs : List D) (ks : List Nat), showL σ vs = some (xs, ks) → AV.repL w (Xof X0 J) J vs us →
    (∀ k, k ∈ ks → ∀ p, J k = some p → ∀ b, b ∈ p.fp → ¬ X' b) → repL w X' xs us []
  | [], us, xs, ks, h, hr, hb => by
    simp only [showL, Option.some.injEq, Prod.mk.injEq] at h; obtain ⟨rfl, rfl⟩ := h
    simp only [AV.repL] at hr
    simp only [repL]
    exact ⟨hr, trivial⟩
  | v :: vs, us, xs, ks, h, hr, hb => by
    simp only [showL] at h
    split at h
    case h_2 => cases h
    rename_i x k1 hx
    split at h
    case h_2 => cases h
    rename_i l k2 hl
    simp only [Option.some.injEq, Prod.mk.injEq] at h; obtain ⟨rfl, rfl⟩ := h
    simp only [AV.repL] at hr
    obtain ⟨u, us', rfl, h1, h2⟩ := hr
    simp only [repL]
    exact ⟨u, us', [], [], rfl, rfl, show_rep m hX v u x k1 hx h1 (fun k hk => hb k (List.mem_append_left _ hk)), showL_rep m hX vs us' l k2 hl h2 (fun k hk => hb k (List.mem_append_right _ hk))⟩
end
end

section
variable {X0 : Nat → Prop} {J : Nat → Option Place} {σ : Nat → Option Ob} {w : World}
/-- What is handed on: shown where it can be. -/
theorem lend_rep (m : Mem X0 J σ w) {X' : Nat → Prop} (hX : ∀ b, X' b → Xof X0 J b) : ∀ (vs : List AV) (us : List Value) (l : List AV) (ks : List Nat), lend σ vs = (l, ks) → AV.repL w (Xof X0 J) J vs us →
    (∀ k, k ∈ ks → ∀ p, J k = some p → ∀ b, b ∈ p.fp → ¬ X' b) → AV.repL w X' J l us
  | [], us, l, ks, h, hr, hb => by
    simp only [lend, Prod.mk.injEq] at h; obtain ⟨rfl, rfl⟩ := h
    simp only [AV.repL] at hr ⊢
    exact hr
  | v :: vs, us, l, ks, h, hr, hb => by
    simp only [lend] at h
    simp only [AV.repL] at hr
    obtain ⟨u, us', rfl, h1, h2⟩ := hr
    obtain ⟨l', k2, hl⟩ : ∃ l' k2, lend σ vs = (l', k2) := ⟨_, _, rfl⟩
    rw [hl] at h
    simp only at h
    split at h
    · rename_i x k1 hx
      simp only [Prod.mk.injEq] at h; obtain ⟨rfl, rfl⟩ := h
      simp only [AV.repL]
      refine ⟨u, us', rfl, ?_, lend_rep m hX vs us' l' k2 hl h2 (fun k hk => hb k (List.mem_append_right _ hk))⟩
      simp only [AV.rep]
      exact show_rep m hX v u x k1 hx h1 (fun k hk => hb k (List.mem_append_left _ hk))
    · simp only [Prod.mk.injEq] at h; obtain ⟨rfl, rfl⟩ := h
      simp only [AV.repL]
      exact ⟨u, us', rfl, AV.rep_mono (fun b _ hx h => hx (hX b h)) (fun _ _ _ => rfl) (fun _ p hp => ⟨p, hp, p.like_refl⟩) h1, lend_rep m hX vs us' l' _ hl h2 hb⟩

/-- What the callee sees: the blocks of ks under their places in that list; those of bs just as what they hold. -/
theorem mem_callee (m : Mem X0 J σ w) {ks bs : List Nat} {objs : List Ob} (hn : ks.Nodup) (hap : ∀ k, k ∈ bs → k ∉ ks) (ho : pickObs σ (idx · ks 0) ks = some objs) {X0c : Nat → Prop} {Jc : Nat → Option Place}
    (hX0c : ∀ b, X0c b ↔ (Xof X0 J b ∧ (∀ k, k ∈ bs → ∀ p, J k = some p → b ∉ p.fp) ∧ ∀ k, k ∈ ks → ∀ p, J k = some p → b ∉ p.fp))
    (hJc : ∀ i, Jc i = (ks[i]?).bind J) :
    (∀ b, Xof X0c Jc b ↔ (Xof X0 J b ∧ ∀ k, k ∈ bs → ∀ p, J k = some p → b ∉ p.fp)) ∧ Mem X0c Jc (objs[·]?) w ∧
      ∀ vs us, AV.repL w (Xof X0c Jc) J vs us → AV.repL w (Xof X0c Jc) Jc (renL (idx · ks 0) vs) us := by
  have hJi : ∀ k p i, J k = some p → idx k ks 0 = some i → Jc i = some p := by
    intro k p i hp hi
    have := (idx_some hi).2
    rw [Nat.sub_zero] at this
    rw [hJc, this]; exact hp
  have hJk : ∀ i p, Jc i = some p → ∃ k, ks[i]? = some k ∧ J k = some p := by
    intro i p hp
    rw [hJc] at hp
    cases hk : ks[i]? with
    | none => rw [hk] at hp; cases hp
    | some k => rw [hk] at hp; exact ⟨k, rfl, hp⟩
  have hX : ∀ b, Xof X0c Jc b ↔ (Xof X0 J b ∧ ∀ k, k ∈ bs → ∀ p, J k = some p → b ∉ p.fp) := by
    intro b
    constructor
    · rintro (h | ⟨i, p, hp, hb⟩)
      · exact ⟨((hX0c b).1 h).1, ((hX0c b).1 h).2.1⟩
      · obtain ⟨k, hk, hp'⟩ := hJk i p hp
        refine ⟨.inr ⟨k, p, hp', hb⟩, fun k2 hk2 p2 hp2 hb2 => m.sep k k2 p p2 hp' hp2 ?_ b hb hb2⟩
        rintro rfl
        exact hap _ hk2 (List.mem_of_getElem? hk)
    · rintro ⟨h1, h2⟩
      by_cases hk : ∃ k, k ∈ ks ∧ ∃ p, J k = some p ∧ b ∈ p.fp
      · obtain ⟨k, hk, p, hp, hb⟩ := hk
        obtain ⟨i, hi⟩ := List.mem_iff_getElem?.1 hk
        exact .inr ⟨i, p, by rw [hJc, hi]; exact hp, hb⟩
      · exact .inl ((hX0c b).2 ⟨h1, h2, fun k hk' p hp hb => hk ⟨k, hk', p, hp, hb⟩⟩)
  obtain ⟨hlen, hpick⟩ := pickObs_ok ho
  refine ⟨hX, ⟨?_, ?_, ?_, ?_, ?_⟩, fun vs us h => AV.repL_ren (fun _ _ hx => hx) (fun _ _ _ => rfl) (fun k p i hp hi => ⟨p, hJi k p i hp hi, p.like_refl⟩) vs us h⟩
  · intro i o hi
    have hi' : i < ks.length := by
      have := (List.getElem?_eq_some_iff.1 hi).1; omega
    obtain ⟨o', ho', h2⟩ := hpick i ks[i] (List.getElem?_eq_getElem hi')
    have h3 : o = o'.ren (idx · ks 0) := by
      have : objs[i]? = some o := hi
      rw [h2] at this; exact (Option.some.inj this).symm
    obtain ⟨p, hp, hr⟩ := m.ob _ o' ho'
    refine ⟨p, by rw [hJc, List.getElem?_eq_getElem hi']; exact hp, ?_⟩
    rw [h3]
    exact Ob.rep_ren (fun b _ hx h => hx ((hX b).1 h).1) (fun _ _ _ => rfl) (fun k p i hp hi => ⟨p, hJi k p i hp hi, p.like_refl⟩) hr
  · intro i p hp
    obtain ⟨k, hk, hp'⟩ := hJk i p hp
    obtain ⟨o', ho', h2⟩ := hpick i k hk
    exact ⟨_, h2⟩
  · intro i i' p p' hp hp' hne b hb hb'
    obtain ⟨k, hk, h1⟩ := hJk i p hp
    obtain ⟨k', hk', h2⟩ := hJk i' p' hp'
    refine m.sep k k' p p' h1 h2 ?_ b hb hb'
    rintro rfl
    have e1 := idx_get (j := 0) hn hk
    have e2 := idx_get (j := 0) hn hk'
    rw [e1] at e2
    have := Option.some.inj e2
    omega
  · intro i p hp
    obtain ⟨k, hk, h1⟩ := hJk i p hp
    exact m.nd k p h1
  · intro b hb
    have hb' := (hX0c b).1 hb
    refine ⟨m.lt b hb'.1, fun i p hp hbp => ?_⟩
    obtain ⟨k, hk, h1⟩ := hJk i p hp
    exact hb'.2.2 k (List.mem_of_getElem? hk) p h1 hbp
end

theorem flatObs_rep {w : World} {X X' : Nat → Prop} {J J' : Nat → Option Place} {p : Place} {f : Nat → Option Nat} (hJ : ∀ k p j, J k = some p → f k = some j → ∃ p', J' j = some p' ∧ p.like p') :
    ∀ {O : List Ob} {i : Nat} {o : Ob}, flatObs O = true → O[i]? = some o → o.rep w X J p → (o.ren f).rep w X' J' p
  | [], i, o, _, h, _ => by simp at h
  | .var cells :: O, i, o, hf, h, hr => by
    simp only [flatObs] at hf
    split at hf
    · rename_i hc
      cases i with
      | zero =>
        simp at h; subst h
        obtain ⟨hh, hn, cs, t, h1, h2⟩ := hr
        exact ⟨hh, hn, cs, t, h1, looseV_ren hJ cells _ hc h2⟩
      | succ i => exact flatObs_rep hJ hf (by simpa using h) hr
    · cases hf
  | .arr sz dp xs :: O, i, o, hf, h, hr => by
    simp only [flatObs] at hf
    split at hf
    · rename_i hc
      cases i with
      | zero =>
        simp at h; subst h
        obtain ⟨h0, a, cap, h1, h2, h3⟩ := hr
        refine ⟨h0, a, cap, h1, h2, h3.imp id ?_⟩
        rintro ⟨hh, ha, h3, h4, h5⟩
        exact ⟨hh, ha, h3, looseRows_rep xs _ _ hc h4, h5⟩
      | succ i => exact flatObs_rep hJ hf (by simpa using h) hr
    · cases hf
  | .bld _ e l :: O, i, o, hf, h, hr => by
    simp only [flatObs] at hf
    cases i with
    | zero => simp at h; subst h; exact hr
    | succ i => exact flatObs_rep hJ hf (by simpa using h) hr
  | .opn .. :: O, i, o, hf, h, hr => by simp only [flatObs] at hf; cases hf
  | .gone :: O, i, o, hf, h, hr => by
    simp only [flatObs] at hf
    cases i with
    | zero => simp at h; subst h; exact hr
    | succ i => exact flatObs_rep hJ hf (by simpa using h) hr

section
variable {X0 : Nat → Prop} {J : Nat → Option Place} {st : St} {a : Act} {w w' : World}
/-- The caller behind a call that showed nothing for good. -/
theorem after_rel (r : Rel X0 J st a w) {ks : List Nat} {d : Nat} {O : List Ob} {R : AV} {X0c : Nat → Prop} {Jc J' : Nat → Option Place} {v : Value}
    (hd : d < a.tmps.size) (hn : ks.Nodup) (hks : ∀ k, k ∈ ks → ∃ p, J k = some p) (hlen : ks.length ≤ O.length) (hfresh : ∀ i, ks.length ≤ i → i < O.length → J (10000 * (i - ks.length + 1) + d) = none)
    (hx0 : ∀ b, X0 b → X0c b) (hJc : ∀ i, Jc i = (ks[i]?).bind J)
    (hflat : (R.loose = true ∧ flatObs O = true) ∨ ∀ k p b, J k = some p → k ∉ ks → b ∈ p.fp → X0c b)
    (hR : R.rep w' (Xof X0c J') J' v) (m' : Mem X0c J' (O[·]?) w') (hk : Kept (Fps Jc) w w')
    (hown : ∀ k p b, J' k = some p → b ∈ p.fp → Fps Jc b ∨ w.heap.size ≤ b) (hstay : ∀ k p, Jc k = some p → ∃ p', J' k = some p' ∧ p.like p') :
    ∃ J'', Rel X0 J'' (after st ks d O R) (a.put (some d) v) w' ∧ Step J w J'' w' := by
  have hnn : (namesOf ks d O.length).Nodup := namesOf_nodup hn fun i h1 h2 hm => by
    obtain ⟨p, hp⟩ := hks _ hm
    rw [hfresh i h1 h2] at hp; cases hp
  have hname : ∀ i, i < O.length → (namesOf ks d O.length)[i]? = nameOf ks d i := fun i h => namesOf_get h
  have hnlen : (namesOf ks d O.length).length = O.length := by simp [namesOf]
  have hin : ∀ k, k ∈ ks → k ∈ namesOf ks d O.length := by
    intro k hk
    obtain ⟨i, hi⟩ := List.mem_iff_getElem?.1 hk
    have hi' := (List.getElem?_eq_some_iff.1 hi).1
    refine List.mem_iff_getElem?.2 ⟨i, ?_⟩
    rw [hname i (by omega), nameOf_lt hi', ← (List.getElem?_eq_some_iff.1 hi).2]
  have hidx : ∀ {k i}, idx k (namesOf ks d O.length) 0 = some i → i < O.length ∧ nameOf ks d i = some k := by
    intro k i h
    have := (idx_some h).2
    rw [Nat.sub_zero] at this
    have hi := (List.getElem?_eq_some_iff.1 this).1
    rw [hnlen] at hi
    exact ⟨hi, by rw [← hname i hi]; exact this⟩
  have hidx' : ∀ {k i}, i < O.length → nameOf ks d i = some k → idx k (namesOf ks d O.length) 0 = some i := by
    intro k i hi h
    have := idx_get (j := 0) hnn (i := i) (k := k) (by rw [hname i hi]; exact h)
    simpa using this
  have hJ'lt : ∀ {i p}, J' i = some p → i < O.length := by
    intro i p hp
    obtain ⟨o, ho⟩ := m'.dom i p hp
    exact (List.getElem?_eq_some_iff.1 ho).1
  let J'' : Nat → Option Place := fun k => match idx k (namesOf ks d O.length) 0 with | some i => J' i | none => J k
  have hJ1 : ∀ {k i}, idx k (namesOf ks d O.length) 0 = some i → J'' k = J' i := by intro k i h; show (match _ with | some i => J' i | none => J k) = _; rw [h]
  have hJ2 : ∀ {k}, idx k (namesOf ks d O.length) 0 = none → J'' k = J k := by intro k h; show (match _ with | some i => J' i | none => J k) = _; rw [h]
  have hJk : ∀ {i p}, Jc i = some p → ∃ k, ks[i]? = some k ∧ J k = some p := by
    intro i p hp
    rw [hJc] at hp
    cases hk : ks[i]? with
    | none => rw [hk] at hp; cases hp
    | some k => rw [hk] at hp; exact ⟨k, rfl, hp⟩
  have hFps : ∀ b, Fps Jc b → ∃ k p, k ∈ ks ∧ J k = some p ∧ b ∈ p.fp := by
    rintro b ⟨i, p, hp, hb⟩
    obtain ⟨k, hk, hp'⟩ := hJk hp
    exact ⟨k, p, List.mem_of_getElem? hk, hp', hb⟩
  have hX'' : ∀ b, b < w.heap.size → ¬ Xof X0 J b → ¬ Xof X0 J'' b := by
    rintro b hb hx (h0 | ⟨k, p, hp, hbp⟩)
    · exact hx (.inl h0)
    · cases hi : idx k (namesOf ks d O.length) 0 with
      | none => rw [hJ2 hi] at hp; exact hx (.inr ⟨k, p, hp, hbp⟩)
      | some i =>
        rw [hJ1 hi] at hp
        rcases hown i p b hp hbp with h | h
        · obtain ⟨k', p', _, hp', hb'⟩ := hFps b h
          exact hx (.inr ⟨k', p', hp', hb'⟩)
        · omega
  have hA : ∀ bs : List Nat, (∀ b ∈ bs, ¬ Fps Jc b) → Agree w w' (Xof X0 J) bs := by
    intro bs hbs b hb hx
    refine hk.block b hb fun hF => ?_
    rcases hx with h | h
    · exact hbs b h hF
    · obtain ⟨k', p', _, hp', hb'⟩ := hFps b hF
      exact h (.inr ⟨k', p', hp', hb'⟩)
  have hJJ : ∀ k p, J k = some p → ∃ p', J'' k = some p' ∧ p.like p' := by
    intro k p hp
    cases hi : idx k (namesOf ks d O.length) 0 with
    | none => exact ⟨p, by rw [hJ2 hi]; exact hp, p.like_refl⟩
    | some i =>
      rw [hJ1 hi]
      obtain ⟨hlt, hnm⟩ := hidx hi
      by_cases hlk : i < ks.length
      · rw [nameOf_lt hlk] at hnm
        have e := Option.some.inj hnm
        exact hstay i p (by rw [hJc, List.getElem?_eq_getElem hlk]; show J ks[i] = _; rw [e]; exact hp)
      · rw [nameOf_ge (by omega)] at hnm
        have e := Option.some.inj hnm
        have := hfresh i (by omega) hlt
        rw [e, hp] at this; cases this
  have hX3 : (∀ k p b, J k = some p → k ∉ ks → b ∈ p.fp → X0c b) → ∀ b, ¬ Xof X0c J' b → ¬ Xof X0 J'' b := by
    rintro hall b hx (h0 | ⟨k, p, hp, hbp⟩)
    · exact hx (.inl (hx0 b h0))
    · cases hi : idx k (namesOf ks d O.length) 0 with
      | none =>
        rw [hJ2 hi] at hp
        exact hx (.inl (hall k p b hp (fun hm => idx_none hi (hin k hm)) hbp))
      | some i => rw [hJ1 hi] at hp; exact hx (.inr ⟨i, p, hp, hbp⟩)
  have hren : ∀ k p j, J' k = some p → nameOf ks d k = some j → ∃ p', J'' j = some p' ∧ p.like p' := by
    intro i p k hp hnm
    exact ⟨p, by rw [hJ1 (hidx' (hJ'lt hp) hnm)]; exact hp, p.like_refl⟩
  have hobj : ∀ k, look k (after st ks d O R).obj = match idx k (namesOf ks d O.length) 0 with | some j => (O[j]?).map (Ob.ren (nameOf ks d)) | none => look k st.obj := by
    intro k
    have := setAll_look (ks := ks) (d := d) O 0 st k (by simpa using hnn)
    simp only [Nat.zero_add, List.drop_zero] at this
    show look k (setAll st (nameOf ks d) 0 O).obj = _
    rw [this]
    cases idx k (namesOf ks d O.length) 0 <;> rfl
  refine ⟨J'', ⟨?_, ⟨?_, ?_, ?_, ?_, ?_⟩, by rw [Act.put_defers]; exact r.defers⟩, ?_⟩
  · intro t x ht
    simp only [after] at ht
    rw [St.put_look, setAll_env] at ht
    rw [Act.put_get hd]
    by_cases e : d = t
    · rw [if_pos e] at ht ⊢
      cases ht
      refine ⟨v, rfl, ?_⟩
      rcases hflat with ⟨hf, _⟩ | hall
      · exact loose_ren hren R v hf hR
      · exact AV.rep_ren (fun b _ hx => hX3 hall b hx) (fun _ _ _ => rfl) hren R v hR
    · rw [if_neg e] at ht ⊢
      obtain ⟨u, hu, hr⟩ := r.env t x ht
      exact ⟨u, hu, AV.rep_mono hX'' (hA [] (by simp)) hJJ hr⟩
  · intro k o ho
    rw [hobj] at ho
    cases hi : idx k (namesOf ks d O.length) 0 with
    | none =>
      rw [hi] at ho
      obtain ⟨p, hp, hr⟩ := r.mem.ob k o ho
      refine ⟨p, by rw [hJ2 hi]; exact hp, ?_⟩
      have := Ob.rep_ren (f := some) hX'' (hA p.fp ?_) (fun k p j hp hj => by cases hj; exact hJJ k p hp) hr
      · rwa [Ob.ren_some] at this
      · intro b hb hF
        obtain ⟨k', p', hk', hp', hb'⟩ := hFps b hF
        refine r.mem.sep k k' p p' hp hp' ?_ b hb hb'
        rintro rfl
        exact idx_none hi (hin _ hk')
    | some i =>
      rw [hi] at ho
      simp only at ho
      cases hoi : O[i]? with
      | none => rw [hoi] at ho; cases ho
      | some o' =>
        rw [hoi] at ho
        simp only [Option.map_some, Option.some.injEq] at ho
        subst ho
        obtain ⟨p, hp, hr⟩ := m'.ob i o' hoi
        refine ⟨p, by rw [hJ1 hi]; exact hp, ?_⟩
        rcases hflat with ⟨_, hf⟩ | hall
        · exact flatObs_rep hren hf hoi hr
        · exact Ob.rep_ren (fun b _ hx => hX3 hall b hx) (fun _ _ _ => rfl) hren hr
  · intro k p hp
    rw [hobj]
    cases hi : idx k (namesOf ks d O.length) 0 with
    | none => rw [hJ2 hi] at hp; exact r.mem.dom k p hp
    | some i =>
      rw [hJ1 hi] at hp
      obtain ⟨o, ho⟩ := m'.dom i p hp
      exact ⟨o.ren (nameOf ks d), by simp only; rw [show O[i]? = some o from ho]; rfl⟩
  · have mixed : ∀ {k k' i p p' b}, idx k (namesOf ks d O.length) 0 = some i → idx k' (namesOf ks d O.length) 0 = none → J' i = some p → J k' = some p' → b ∈ p.fp → b ∈ p'.fp → False := by
      intro k k' i p p' b hi hi' hp hp' hb hb'
      rcases hown i p b hp hb with h | h
      · obtain ⟨k2, p2, hk2, hp2, hb2⟩ := hFps b h
        refine r.mem.sep k2 k' p2 p' hp2 hp' ?_ b hb2 hb'
        rintro rfl
        exact idx_none hi' (hin _ hk2)
      · exact absurd (r.mem.lt b (.inr ⟨k', p', hp', hb'⟩)) (by omega)
    intro k k' p p' hp hp' hne b hb hb'
    cases hi : idx k (namesOf ks d O.length) 0 with
    | none =>
      rw [hJ2 hi] at hp
      cases hi' : idx k' (namesOf ks d O.length) 0 with
      | none => rw [hJ2 hi'] at hp'; exact r.mem.sep k k' p p' hp hp' hne b hb hb'
      | some i' => rw [hJ1 hi'] at hp'; exact mixed hi' hi hp' hp hb' hb
    | some i =>
      rw [hJ1 hi] at hp
      cases hi' : idx k' (namesOf ks d O.length) 0 with
      | none => rw [hJ2 hi'] at hp'; exact mixed hi hi' hp hp' hb hb'
      | some i' =>
        rw [hJ1 hi'] at hp'
        refine m'.sep i i' p p' hp hp' ?_ b hb hb'
        rintro rfl
        have h1 := (hidx hi).2
        rw [(hidx hi').2] at h1
        exact hne (Option.some.inj h1).symm
  · intro k p hp
    cases hi : idx k (namesOf ks d O.length) 0 with
    | none => rw [hJ2 hi] at hp; exact r.mem.nd k p hp
    | some i => rw [hJ1 hi] at hp; exact m'.nd i p hp
  · intro b hb
    refine ⟨Nat.lt_of_lt_of_le (r.mem.x0 b hb).1 hk.size, fun k p hp hbp => ?_⟩
    cases hi : idx k (namesOf ks d O.length) 0 with
    | none => rw [hJ2 hi] at hp; exact (r.mem.x0 b hb).2 k p hp hbp
    | some i => rw [hJ1 hi] at hp; exact (m'.x0 b (hx0 b hb)).2 i p hp hbp
  · refine ⟨⟨hk.os, hk.tape, hk.output, hk.size, fun b hb hF => hk.block b hb fun h => ?_⟩, fun k p b hp hb => ?_, fun k p _ hp => hJJ k p hp⟩
    · obtain ⟨k', p', _, hp', hb'⟩ := hFps b h
      exact hF ⟨k', p', hp', hb'⟩
    · cases hi : idx k (namesOf ks d O.length) 0 with
      | none => rw [hJ2 hi] at hp; exact .inl ⟨k, p, hp, hb⟩
      | some i =>
        rw [hJ1 hi] at hp
        refine (hown i p b hp hb).imp (fun h => ?_) id
        obtain ⟨k', p', _, hp', hb'⟩ := hFps b h
        exact ⟨k', p', hp', hb'⟩
end
end Go.Pm
