/-
A walk of Go's code over values: the call of a function.
-/
import Derived.Test.YtjjnmkhcdbmhoaaPmK
namespace Go.Pm
open Go
set_option linter.unusedVariables false
variable {P : Program}

section
variable {X0 : Nat → Prop} {J Jf : Nat → Option Place} {σ : Nat → Option Ob} {w : World} {bs : List Nat}
mutual
theorem frz_rep (m : Mem X0 J σ w) (hJf : ∀ k, Jf k = match has k bs with | true => none | false => J k) (hX : ∀ b, Xof X0 Jf b → Xof X0 J b)
    (hB : ∀ k, k ∈ bs → ∀ p, J k = some p → ∀ b, b ∈ p.fp → ¬ Xof X0 Jf b) : ∀ (v : AV) (u : Value), v.rep w (Xof X0 J) J u → (v.frz σ bs).rep w (Xof X0 Jf) Jf u
  | .d x, u, h => by
    simp only [AV.frz, AV.rep] at h ⊢
    exact D.rep_mono (fun b _ hx h => hx (hX b h)) x u [] (fun _ _ _ => rfl) h
  | .c _, u, h => by simp only [AV.frz, AV.rep] at h ⊢; exact h
  | .snil, u, h => by simp only [AV.frz, AV.rep] at h ⊢; exact h
  | .bot, u, h => by simp only [AV.frz, AV.rep] at h ⊢; exact h
  | .rd cs, u, h => by
    simp only [AV.frz, AV.rep] at h ⊢
    obtain ⟨b, off, vs, h1, h2, h3, h4, h5⟩ := h
    exact ⟨b, off, vs, h1, h2, fun h => h3 (hX b h), repL_mono (fun b _ hx h => hx (hX b h)) cs vs [] (fun _ _ _ => rfl) h4, h5⟩
  | .agg cs, u, h => by
    simp only [AV.frz, AV.rep] at h ⊢
    obtain ⟨vs, hv, hr⟩ := h
    exact ⟨vs, hv, frzL_rep m hJf hX hB cs _ hr⟩
  | .tup cs, u, h => by
    simp only [AV.frz, AV.rep] at h ⊢
    obtain ⟨vs, hv, hr⟩ := h
    exact ⟨vs, hv, frzL_rep m hJf hX hB cs _ hr⟩
  | .fn g cs, u, h => by
    simp only [AV.frz, AV.rep] at h ⊢
    obtain ⟨vs, hv, hr⟩ := h
    exact ⟨vs, hv, frzL_rep m hJf hX hB cs _ hr⟩
  | .ptr k o, u, h => by
    simp only [AV.rep] at h
    obtain ⟨p, hp, hu⟩ := h
    simp only [AV.frz]
    split
    · simp only [AV.rep]; rw [hu]; rfl
    · rename_i hk; simp only [AV.rep]; exact ⟨p, by rw [hJf, hk]; exact hp, hu⟩
  | .eptr k s i o, u, h => by
    simp only [AV.rep] at h
    obtain ⟨p, hp, hu⟩ := h
    simp only [AV.frz]
    split
    · simp only [AV.rep]; rw [hu]; rfl
    · rename_i hk; simp only [AV.rep]; exact ⟨p, by rw [hJf, hk]; exact hp, hu⟩
  | .own k, u, h => by
    have h' := h
    simp only [AV.rep] at h
    obtain ⟨p, hp, hu, hu1⟩ := h
    simp only [AV.frz]
    split
    · rename_i hk
      split
      · rename_i x k1 hs
        simp only [AV.rep]
        refine show_rep m hX (.own k) u x k1 hs h' ?_
        have : k1 = [k] := by
          simp only [AV.show] at hs
          split at hs <;> first | (simp only [Option.some.injEq, Prod.mk.injEq] at hs; exact hs.2.symm) | cases hs
        subst this
        intro k2 hk2
        rw [List.mem_singleton.1 hk2]
        exact hB k ((has_iff _ _).1 hk)
      · simp only [AV.rep]; rw [hu]; exact hu1
    · rename_i hk; simp only [AV.rep]; exact ⟨p, by rw [hJf, hk]; exact hp, hu, hu1⟩
  | .win k s lo hi, u, h => by
    have h' := h
    simp only [AV.rep] at h
    obtain ⟨p, a0, n0, c0, a, c, hp, hpv, q1, q2, q3, hu, q4, q5⟩ := h
    simp only [AV.frz]
    split
    · rename_i hk
      split
      · rename_i x k1 hs
        simp only [AV.rep]
        refine show_rep m hX (.win k s lo hi) u x k1 hs h' ?_
        have : k1 = [k] := by
          simp only [AV.show] at hs
          split at hs
          · split at hs
            · split at hs <;> (simp only [Option.some.injEq, Prod.mk.injEq] at hs; exact hs.2.symm)
            · cases hs
          · cases hs
        subst this
        intro k2 hk2
        rw [List.mem_singleton.1 hk2]
        exact hB k ((has_iff _ _).1 hk)
      · simp only [AV.rep]; rw [hu]; rfl
    · rename_i hk; simp only [AV.rep]; exact ⟨p, a0, n0, c0, a, c, by rw [hJf, hk]; exact hp, hpv, q1, q2, q3, hu, q4, q5⟩
theorem frzL_rep (m : Mem X0 J σ w) (hJf : ∀ k, Jf k = match has k bs with | true => none | false => J k) (hX : ∀ b, Xof X0 Jf b → Xof X0 J b)
    (hB : ∀ k, k ∈ bs → ∀ p, J k = some p → ∀ b, b ∈ p.fp → ¬ Xof X0 Jf b) : ∀ (vs : List AV) (us : List Value), AV.repL w (Xof X0 J) J vs us → AV.repL w (Xof X0 Jf) Jf (frzL σ bs vs) us
  | [], us, h => by simp only [frzL, AV.repL] at h ⊢; exact h
  | v :: vs, us, h => by
    simp only [frzL, AV.repL] at h ⊢
    obtain ⟨u, us', hu, h1, h2⟩ := h
    exact ⟨u, us', hu, frz_rep m hJf hX hB v u h1, frzL_rep m hJf hX hB vs us' h2⟩
end

theorem look_frzEnv (l : List (Nat × AV)) (t : Nat) : look t (frzEnv σ bs l) = (look t l).map (AV.frz σ bs) := by
  induction l with
  | nil => rfl
  | cons x l ih =>
    obtain ⟨k, v⟩ := x
    simp only [frzEnv, look_cons]
    split
    · rfl
    · exact ih
theorem look_frzObj (l : List (Nat × Ob)) (t : Nat) : look t (frzObj σ bs l) = match has t bs with | true => none | false => (look t l).map (Ob.frz σ bs) := by
  induction l with
  | nil => simp only [frzObj, look_nil]; split <;> rfl
  | cons x l ih =>
    obtain ⟨k, v⟩ := x
    simp only [frzObj]
    cases hk : has k bs with
    | true =>
      simp only
      rw [ih, look_cons]
      by_cases e : k = t
      · subst e; rw [hk]
      · rw [if_neg e]
    | false =>
      simp only
      rw [look_cons, look_cons, ih]
      by_cases e : k = t
      · subst e; rw [if_pos rfl, if_pos rfl, hk]; rfl
      · rw [if_neg e, if_neg e]
end

section
variable {X0 : Nat → Prop} {J : Nat → Option Place} {st : St} {a : Act} {w : World}
def less (J : Nat → Option Place) (bs : List Nat) (k : Nat) : Option Place := match has k bs with | true => none | false => J k
theorem less_some {bs : List Nat} {k : Nat} {p : Place} (h : less J bs k = some p) : J k = some p ∧ k ∉ bs := by
  unfold less at h
  split at h
  · cases h
  · rename_i hk; exact ⟨h, fun hm => by rw [(has_iff _ _).2 hm] at hk; cases hk⟩
theorem less_of {bs : List Nat} {k : Nat} (h : k ∉ bs) : less J bs k = J k := by
  unfold less
  split
  · rename_i hk; exact absurd ((has_iff _ _).1 hk) h
  · rfl

/-- The blocks bs are given away for good. -/
theorem frz_rel (r : Rel X0 J st a w) (bs : List Nat) : Rel X0 (less J bs) (st.frz bs) a w := by
  have hX : ∀ b, Xof X0 (less J bs) b → Xof X0 J b := by
    rintro b (h | ⟨k, p, hp, hb⟩)
    · exact .inl h
    · exact .inr ⟨k, p, (less_some hp).1, hb⟩
  have hB : ∀ k, k ∈ bs → ∀ p, J k = some p → ∀ b, b ∈ p.fp → ¬ Xof X0 (less J bs) b := by
    rintro k hk p hp b hb (h | ⟨k', p', hp', hb'⟩)
    · exact (r.mem.x0 b h).2 k p hp hb
    · obtain ⟨h1, h2⟩ := less_some hp'
      refine r.mem.sep k k' p p' hp h1 ?_ b hb hb'
      rintro rfl
      exact h2 hk
  refine ⟨fun t v ht => ?_, ⟨fun k o ho => ?_, fun k p hp => ?_, fun k k' p p' hp hp' => r.mem.sep k k' p p' (less_some hp).1 (less_some hp').1, fun k p hp => r.mem.nd k p (less_some hp).1, fun b hb => ⟨(r.mem.x0 b hb).1, fun k p hp => (r.mem.x0 b hb).2 k p (less_some hp).1⟩⟩, r.defers⟩
  · simp only [St.frz] at ht
    rw [look_frzEnv] at ht
    cases hv : look t st.env with
    | none => rw [hv] at ht; cases ht
    | some v0 =>
      rw [hv] at ht
      cases ht
      obtain ⟨u, hu, hr⟩ := r.env t v0 hv
      exact ⟨u, hu, frz_rep r.mem (fun _ => rfl) hX hB v0 u hr⟩
  · simp only [St.frz] at ho
    rw [look_frzObj] at ho
    split at ho
    · cases ho
    · rename_i hk
      cases hv : look k st.obj with
      | none => rw [hv] at ho; cases ho
      | some o0 =>
        rw [hv] at ho
        cases ho
        obtain ⟨p, hp, hr⟩ := r.mem.ob k o0 hv
        refine ⟨p, by unfold less; rw [hk]; exact hp, ?_⟩
        cases o0 with
        | var cells =>
          obtain ⟨hh, hn, cs, t, h1, h2⟩ := hr
          exact ⟨hh, hn, cs, t, h1, frzL_rep r.mem (fun _ => rfl) hX hB cells _ h2⟩
        | arr sz deep xs =>
          obtain ⟨h0, a0, c0, h1, h2, h3⟩ := hr
          refine ⟨h0, a0, c0, h1, h2, h3.imp id ?_⟩
          rintro ⟨g1, g2, g3, g4, g5⟩
          exact ⟨g1, g2, g3, repRows_less hX g4, g5⟩
        | bld t e l => exact hr
        | opn sz xs els =>
          have := Ob.rep_ren (f := without bs) (X' := Xof X0 (less J bs)) (J' := less J bs) (fun b _ hx h => hx (hX b h)) (fun _ _ _ => rfl) (fun k p j hp hj => by
            have hjk : j = k := by unfold without at hj; split at hj <;> simp_all
            subst hjk
            refine ⟨p, ?_, p.like_refl⟩
            unfold less
            unfold without at hj
            split at hj
            · cases hj
            · rename_i h; rw [h]; exact hp) hr
          exact this
        | gone => exact hr
  · simp only [St.frz]
    rw [look_frzObj]
    obtain ⟨h1, h2⟩ := less_some hp
    obtain ⟨o, ho⟩ := r.mem.dom k p h1
    have : has k bs = false := Bool.eq_false_iff.2 fun e => h2 ((has_iff _ _).1 e)
    rw [this]
    exact ⟨o.frz _ bs, by simp only; rw [show look k st.obj = some o from ho]; rfl⟩
end

theorem run_callFunc {f : FuncId} (h : Enters P f) (args : Array Value) (w : World) : (callFunc f args).run P w = .ok (.enter f args) w := by
  obtain ⟨fn, h1, h2, h3⟩ := h
  simp only [callFunc, Sem.run_bind, run_program, Result.andThen_ok, h1, h2, h3, Bool.false_eq_true, if_false, Sem.run_pure]

section
variable {cx : Cx} {X0 : Nat → Prop} {J : Nat → Option Place} {st : St} {a : Act} {w : World} {o : Oper} {K : St → Prop} {next : Act → World → Prop} {Q : Exit → Act → World → Prop}

/-- What is handed on to be read through only. -/
theorem evRo_ok {σ : Nat → Option Ob} (m : Mem X0 J σ w) : ∀ {vs : List AV} {us : List Value} {K : List AV → List Nat → Prop}, evRo σ vs K → AV.repL w (Xof X0 J) J vs us →
    ∃ args bs, K args bs ∧ ∀ X' : Nat → Prop, (∀ b, X' b → Xof X0 J b) → (∀ k, k ∈ bs → ∀ p, J k = some p → ∀ b, b ∈ p.fp → ¬ X' b) → AV.repL w X' J args us
  | [], us, K, h, hr => by
    simp only [evRo] at h
    exact ⟨[], [], h, fun X' _ _ => by simp only [AV.repL] at hr ⊢; exact hr⟩
  | v :: vs, us, K, h, hr => by
    simp only [AV.repL] at hr
    obtain ⟨u, us', rfl, h1, h2⟩ := hr
    have gen : (match v.show σ with
        | some (x, k1) => evRo σ vs fun l bs => K (.d x :: l) (k1 ++ bs)
        | none => evRo σ vs fun l bs => K (v :: l) bs) → ∃ args bs, K args bs ∧ ∀ X' : Nat → Prop, (∀ b, X' b → Xof X0 J b) → (∀ k, k ∈ bs → ∀ p, J k = some p → ∀ b, b ∈ p.fp → ¬ X' b) → AV.repL w X' J args (u :: us') := by
      intro h
      split at h
      · rename_i x k1 hx
        obtain ⟨args, bs, hK, hrest⟩ := evRo_ok m h h2
        refine ⟨_, _, hK, fun X' hX hb => ?_⟩
        simp only [AV.repL]
        refine ⟨u, us', rfl, ?_, hrest X' hX fun k hk => hb k (List.mem_append_right _ hk)⟩
        simp only [AV.rep]
        exact show_rep m hX v u x k1 hx h1 fun k hk => hb k (List.mem_append_left _ hk)
      · obtain ⟨args, bs, hK, hrest⟩ := evRo_ok m h h2
        refine ⟨_, _, hK, fun X' hX hb => ?_⟩
        simp only [AV.repL]
        exact ⟨u, us', rfl, AV.rep_mono (fun b _ hx h => hx (hX b h)) (fun _ _ _ => rfl) (fun _ p hp => ⟨p, hp, p.like_refl⟩) h1, hrest X' hX hb⟩
    cases v with
    | ptr k off =>
      simp only [evRo] at h
      split at h
      case h_2 => exact h.elim
      rename_i cells hk
      split at h
      case h_2 => exact h.elim
      rename_i tl htl
      obtain ⟨rfl, hle⟩ := drop_some htl
      split at h
      case h_2 => exact h.elim
      rename_i c cs ks hshow
      obtain ⟨args, bs, hK, hrest⟩ := evRo_ok m h h2
      refine ⟨_, _, hK, fun X' hX hb => ?_⟩
      simp only [AV.repL]
      refine ⟨u, us', rfl, ?_, hrest X' hX fun k' hk' => hb k' (List.mem_cons_of_mem _ (List.mem_append_right _ hk'))⟩
      simp only [AV.rep] at h1
      obtain ⟨p, hp, rfl⟩ := h1
      obtain ⟨p', vcs, t, hp', ⟨hh, hn⟩, hcs, hrc⟩ := m.var hk
      rw [hp] at hp'; cases hp'
      have hl := showL_rep m hX _ _ _ _ hshow (AV.repL_drop (n := off) hrc) (fun k' hk' => hb k' (List.mem_cons_of_mem _ (List.mem_append_left _ hk')))
      simp only [AV.rep]
      refine ⟨p.blk, off, vcs.toList.drop off, rfl, ?_, hb k (List.mem_cons_self ..) p hp p.blk (p.blk_fp hh), hl, rangeAt_heap hcs off⟩
      intro e
      rw [e] at hl
      simp only [repL] at hl
      obtain ⟨_, _, _, _, e, _⟩ := hl
      cases e
    | eptr k s j off =>
      simp only [evRo] at h
      split at h
      case h_2 => exact h.elim
      rename_i sz dp xs hk
      split at h
      case h_2 => exact h.elim
      rename_i hbq
      have hss := Nat.eq_of_beq_eq_true hbq
      subst hss
      obtain ⟨x, hx, h⟩ := h
      split at h
      case h_2 => exact h.elim
      rename_i c cs htl
      obtain ⟨htl, hle⟩ := drop_some htl
      obtain ⟨args, bs, hK, hrest⟩ := evRo_ok m h h2
      refine ⟨_, _, hK, fun X' hX hb => ?_⟩
      simp only [AV.repL]
      refine ⟨u, us', rfl, ?_, hrest X' hX fun k' hk' => hb k' (List.mem_cons_of_mem _ hk')⟩
      simp only [AV.rep] at h1
      obtain ⟨p, hp, rfl⟩ := h1
      obtain ⟨p', hp', g0, a0, c0, g1, g2, g3⟩ := m.ob k _ hk
      rw [hp] at hp'; cases hp'
      have hbk := hb k (List.mem_cons_self ..) p hp
      rcases g3 with ⟨_, g3, _⟩ | ⟨hh, ha, g3, g4, g5⟩
      · subst g3; simp at hx
      · have her := repRows_erase hX _ _ _ _ _ g4 (fun b hb => hbk b (p.nest_fp hh hb))
        have hget : (eraseL xs)[j]? = some x.erase := by
          have key : ∀ (l : List D) (i : Nat), l[i]? = some x → (eraseL l)[i]? = some x.erase := by
            intro l
            induction l with
            | nil => intro i h; simp at h
            | cons y l ih =>
              intro i h
              cases i with
              | zero => simp at h; subst h; simp [eraseL]
              | succ i => simpa [eraseL] using ih i (by simpa using h)
          exact key xs j hx
        obtain ⟨v0, k1, k2, k3, k4⟩ := repRows_get her hget
        rw [Nat.zero_add] at k4
        have hcr := repL_drop (n := off) (D.cells_rep k1)
        rw [htl] at hcr
        have hrd := rangeAt_drop (n := off) k4
        simp only [AV.rep]
        refine ⟨p.blk, j * s + off, v0.cells.toList.drop off, rfl, ?_, hbk p.blk (p.blk_fp hh), hcr, hrd⟩
        intro e
        rw [e] at hcr
        simp only [repL] at hcr
        obtain ⟨_, _, _, _, e, _⟩ := hcr
        cases e
    | d y => simp only [evRo] at h; exact gen h
    | c y => simp only [evRo] at h; exact gen h
    | snil => simp only [evRo] at h; exact gen h
    | agg y => simp only [evRo] at h; exact gen h
    | tup y => simp only [evRo] at h; exact gen h
    | own y => simp only [evRo] at h; exact gen h
    | win k s lo hi => simp only [evRo] at h; exact gen h
    | rd y => simp only [evRo] at h; exact gen h
    | fn g y => simp only [evRo] at h; exact gen h
    | bot => simp only [evRo] at h; exact gen h

theorem op_callCore (r : Rel X0 J st a w) {d : Nat} (hd : d < a.tmps.size) (hdst : o.dst = some d) (hn : Leads P X0 J a w K next) {f : FuncId} {args : List AV} {bs : List Nat} {us : Array Value}
    (hrun : Enters P f → (execOp a.eval o).run P w = .ok (.enter f us) w)
    (hlend : ∀ X' : Nat → Prop, (∀ b, X' b → Xof X0 J b) → (∀ k, k ∈ bs → ∀ p, J k = some p → ∀ b, b ∈ p.fp → ¬ X' b) → AV.repL w X' J args us.toList)
    (hc : evCallIn P f args bs d st K) : o.wp P a w next Q := by
  unfold evCallIn at hc
  rw [forceN_eq] at hc
  generalize reachN (look · st.obj) 50 (refsL args) [] = ks at hc
  simp only at hc
  generalize hcheck : (nodup ks && apart bs ks && bigs bs && inside (refsL args) ks) = q at hc
  cases q with
  | false => exact hc.elim
  | true =>
  simp only at hc
  simp only [Bool.and_eq_true] at hcheck
  obtain ⟨⟨⟨hnd, hap⟩, hbig⟩, _⟩ := hcheck
  generalize hobjs : pickObs (look · st.obj) (idx · ks 0) ks = qo at hc
  cases qo with
  | none => exact hc.elim
  | some objs =>
  simp only at hc
  obtain ⟨QQ, hent, hc⟩ := hc
  have hnd := nodup_ok hnd
  have hap := apart_ok hap
  obtain ⟨hX, mc, hargs⟩ := mem_callee r.mem (X0c := fun b => Xof X0 J b ∧ (∀ k, k ∈ bs → ∀ p, J k = some p → b ∉ p.fp) ∧ ∀ k, k ∈ ks → ∀ p, J k = some p → b ∉ p.fp) (Jc := fun i => (ks[i]?).bind J) hnd hap hobjs (fun _ => Iff.rfl) (fun _ => rfl)
  have hargs := hargs args us.toList (hlend _ (fun b h => ((hX b).1 h).1) (fun k hk p hp b hb h => ((hX b).1 h).2 k hk p hp hb))
  have hcalls := hent.2 _ _ w us hargs mc
  have hks : ∀ k, k ∈ ks → ∃ p, J k = some p := by
    intro k hk
    obtain ⟨i, hi⟩ := List.mem_iff_getElem?.1 hk
    obtain ⟨o', ho', _⟩ := (pickObs_ok hobjs).2 i k hi
    obtain ⟨p, hp, _⟩ := r.mem.ob k o' ho'
    exact ⟨p, hp⟩
  unfold Oper.wp
  rw [hrun hent.1, Oper.upon_enter]
  refine Calls.mono hcalls ?_
  rintro e w' ⟨R, O, v, J', hq, rfl, hR, m', hk, hown, hstay⟩
  have hc := hc R O hq
  generalize hck : (Nat.ble ks.length O.length && freshOk st.obj ks d 0 (O.length - ks.length)) = qk at hc
  cases qk with
  | false => exact hc.elim
  | true =>
  simp only at hc
  simp only [Bool.and_eq_true] at hck
  obtain ⟨hlen, hfr⟩ := hck
  have hlen := Nat.le_of_ble_eq_true hlen
  have hfresh : ∀ i, ks.length ≤ i → i < O.length → J (10000 * (i - ks.length + 1) + d) = none := by
    intro i h1 h2
    exact r.mem.free (freshOk_ok hfr (i - ks.length) (Nat.zero_le _) (by omega))
  simp only
  rw [hdst]
  by_cases hb : bs = []
  · subst hb
    simp only at hc
    obtain ⟨J'', hr, hs⟩ := after_rel r (hd) hnd hks hlen hfresh (fun b h => ⟨.inl h, by simp, fun k _ p hp => (r.mem.x0 b h).2 k p hp⟩) (fun _ => rfl)
      (.inr fun k p b hp hk' hb => ⟨.inr ⟨k, p, hp, hb⟩, by simp, fun k2 hk2 p2 hp2 hb2 => r.mem.sep k k2 p p2 hp hp2 (by rintro rfl; exact hk' hk2) b hb hb2⟩) hR m' hk hown hstay
    exact hn _ J'' _ w' hc hr Act.put_size hs
  · have hc' : (R.loose && flatObs O) = true ∧ K (after st ks d O R) ∨ K (after (st.frz bs) ks d O R) := by
      cases bs with
      | nil => exact absurd rfl hb
      | cons k0 bs =>
        simp only at hc
        split at hc
        · rename_i h; exact .inl ⟨h, hc⟩
        · exact .inr hc
    rcases hc' with ⟨hf, hK⟩ | hK
    · simp only [Bool.and_eq_true] at hf
      obtain ⟨J'', hr, hs⟩ := after_rel r (hd) hnd hks hlen hfresh (fun b h => ⟨.inl h, fun k _ p hp => (r.mem.x0 b h).2 k p hp, fun k _ p hp => (r.mem.x0 b h).2 k p hp⟩) (fun _ => rfl)
        (.inl hf) hR m' hk hown hstay
      exact hn _ J'' _ w' hK hr Act.put_size hs
    · have rf := frz_rel r bs
      have hnot : ∀ k, k ∈ ks → k ∉ bs := fun k hk hm => hap k hm hk
      obtain ⟨J'', hr, hs⟩ := after_rel rf (hd) hnd (fun k hk => by rw [less_of (hnot k hk)]; exact hks k hk) hlen
        (fun i h1 h2 => by
          have := hfresh i h1 h2
          unfold less; split
          · rfl
          · exact this)
        (fun b h => ⟨.inl h, fun k _ p hp => (r.mem.x0 b h).2 k p hp, fun k _ p hp => (r.mem.x0 b h).2 k p hp⟩)
        (fun i => by
          show (ks[i]?).bind J = _
          cases hki : ks[i]? with
          | none => rfl
          | some k => exact (less_of (hnot k (List.mem_of_getElem? hki))).symm)
        (.inr fun k p b hp hk' hb => by
          obtain ⟨h1, h2⟩ := less_some hp
          exact ⟨.inr ⟨k, p, h1, hb⟩, fun k2 hk2 p2 hp2 hb2 => r.mem.sep k k2 p p2 h1 hp2 (by rintro rfl; exact h2 hk2) b hb hb2, fun k2 hk2 p2 hp2 hb2 => r.mem.sep k k2 p p2 h1 hp2 (by rintro rfl; exact hk' hk2) b hb hb2⟩)
        hR m' hk hown hstay
      refine hn _ J'' _ w' hK hr Act.put_size ⟨⟨hs.kept.os, hs.kept.tape, hs.kept.output, hs.kept.size, fun b hb' hF => hs.kept.block b hb' ?_⟩, fun k p b hp hbp => (hs.own k p b hp hbp).imp ?_ id, fun k p hk' hp => hs.stay k p hk' ?_⟩
      · rintro ⟨k, p, hp, hbp⟩; exact hF ⟨k, p, (less_some hp).1, hbp⟩
      · rintro ⟨k, p, hp, hbp⟩; exact ⟨k, p, (less_some hp).1, hbp⟩
      · rw [less_of]
        · exact hp
        · intro hm
          have := bigs_le hbig k hm
          omega


theorem op_callValue (r : Rel X0 J st a w) (hd : ∀ d, o.dst = some d → d < a.tmps.size) (hn : Leads P X0 J a w K next) {f : FuncId} {vs : List AV} {us : Array Value}
    (hrun : Enters P f → (execOp a.eval o).run P w = .ok (.enter f us) w) (hus : AV.repL w (Xof X0 J) J vs us.toList)
    (hc : evCmd P cx o.dst (.call f vs) st K) : o.wp P a w next Q := by
  simp only [evCmd] at hc
  unfold evCall at hc
  cases hdst : o.dst with
  | none => rw [hdst] at hc; exact hc.elim
  | some d =>
    rw [hdst] at hc
    simp only at hc
    cases hro : has (1000000 + f) cx.mu with
    | true =>
      rw [hro] at hc
      simp only at hc
      obtain ⟨args, bs, hc, hl⟩ := evRo_ok r.mem hc hus
      exact op_callCore r (hd d hdst) hdst hn hrun hl hc
    | false =>
    rw [hro] at hc
    simp only at hc
    cases hh : has f cx.mu with
    | true =>
      rw [hh] at hc
      exact op_callCore r (hd d hdst) hdst hn hrun (fun X' hX _ => AV.repL_mono (fun b _ hx h => hx (hX b h)) (fun _ _ _ => rfl) (fun _ p hp => ⟨p, hp, p.like_refl⟩) hus) (show evCallIn P f vs [] d st K from hc)
    | false =>
      rw [hh] at hc
      exact op_callCore r (hd d hdst) hdst hn hrun (fun X' hX hb => lend_rep r.mem hX vs _ _ _ rfl hus hb) (show evCallIn P f (lend (look · st.obj) vs).1 (lend (look · st.obj) vs).2 d st K from hc)

theorem op_call (r : Rel X0 J st a w) (hd : ∀ d, o.dst = some d → d < a.tmps.size) (hn : Leads P X0 J a w K next) {c : Call} {f : Operand} (hop : o.op = .call c) (hf : c.callee = .value f)
    (hc : evCmd P cx o.dst (opCmd cx.T o st) st K) : o.wp P a w next Q := by
  simp only [opCmd, hop, hf] at hc
  split at hc
  case h_2 => exact hc.elim
  rename_i g caps hg
  split at hc
  case h_2 => exact hc.elim
  rename_i vs hvs
  have h1 := r.ev hg
  simp only [AV.rep] at h1
  obtain ⟨cs, he, hcs⟩ := h1
  have h2 := r.evs hvs
  refine op_callValue r hd hn (us := c.args.map a.eval ++ cs) (fun hent => ?_) ?_ hc
  · simp [execOp, hop, resolve, hf, he, Deferred.ofValue, invoke, run_callFunc hent]
  · rw [Array.toList_append, Array.toList_map]
    exact AV.repL_append h2 hcs
end
end Go.Pm
