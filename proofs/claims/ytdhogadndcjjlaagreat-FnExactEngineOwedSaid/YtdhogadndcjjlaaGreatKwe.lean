/-
A part of the proof (packed).
-/
import Derived.MapKept
import Derived.Orders
import Derived.Test.YtdhogadndcjjlaaGreatKwd
namespace Go.Pm
open Go
set_option linter.unusedVariables false
variable {P : Program}
section
variable {X0 : Nat → Prop} {J Jf : Nat → Option Place} {σ : Nat → Option Ob} {w : World} {bs : List Nat}
mutual
theorem frz_rep (m : Mem X0 J σ w) (hJf : ∀ k, Jf k = match has k bs with | true => none | false => J k) (hX : ∀ b, Xof X0 Jf b → Xof X0 J b)
    (hB : ∀ k, k ∈ bs → ∀ p, J k = some p → ∀ b, b ∈ p.fp → ¬ Xof X0 Jf b) : ∀ (v : AV) (u : Value), v.rep w (Xof X0 J) J u → (v.frz σ bs).rep w (Xof X0 Jf) Jf u
  | .d x, u, h => by
    simp only [AV.frz, AV.rep] at h ⊢
    exact D.rep_mono (fun b _ hx h => hx (hX b h)) x u [] (fun _ _ _ => rfl) h
  | .c _, u, h => by simp only [AV.frz, AV.rep] at h ⊢; exact h
  | .snil, u, h => by simp only [AV.frz, AV.rep] at h ⊢; exact h
  | .bot, u, h => by simp only [AV.frz, AV.rep] at h ⊢; exact h
  | .rd cs, u, h => by
    simp only [AV.frz, AV.rep] at h ⊢
    obtain ⟨b, off, vs, h1, h2, h3, h4, h5⟩ := h
    exact ⟨b, off, vs, h1, h2, fun h => h3 (hX b h), repL_mono (fun b _ hx h => hx (hX b h)) cs vs [] (fun _ _ _ => rfl) h4, h5⟩
  | .agg cs, u, h => by
    simp only [AV.frz, AV.rep] at h ⊢
    obtain ⟨vs, hv, hr⟩ := h
    exact ⟨vs, hv, frzL_rep m hJf hX hB cs _ hr⟩
  | .tup cs, u, h => by
    simp only [AV.frz, AV.rep] at h ⊢
    obtain ⟨vs, hv, hr⟩ := h
    exact ⟨vs, hv, frzL_rep m hJf hX hB cs _ hr⟩
  | .fn g cs, u, h => by
    simp only [AV.frz, AV.rep] at h ⊢
    obtain ⟨vs, hv, hr⟩ := h
    exact ⟨vs, hv, frzL_rep m hJf hX hB cs _ hr⟩
  | .ptr k o, u, h => by
    simp only [AV.rep] at h
    obtain ⟨p, hp, hu⟩ := h
    have bot : AV.bot.rep w (Xof X0 Jf) Jf u := by simp only [AV.rep]; rw [hu]; rfl
    simp only [AV.frz]
    split
    · rename_i hk
      split
      case h_2 => exact bot
      rename_i cells hc
      split
      case h_2 => exact bot
      rename_i tl htl
      obtain ⟨rfl, hle⟩ := drop_some htl
      split
      case h_2 => exact bot
      rename_i c cs ks hshow
      split
      case h_2 => exact bot
      rename_i hin
      obtain ⟨p', vcs, t, hp', ⟨hh, hn⟩, hcs, hrc⟩ := m.var hc
      rw [hp] at hp'; cases hp'
      have hl := showL_rep m hX _ _ _ _ hshow (AV.repL_drop (n := o) hrc) (fun k' hk' => hB k' (inside_ok hin k' hk'))
      simp only [AV.rep]
      refine ⟨p.blk, o, vcs.toList.drop o, hu, ?_, hB k ((has_iff _ _).1 hk) p hp p.blk (p.blk_fp hh), hl, rangeAt_heap hcs o⟩
      intro e
      rw [e] at hl
      simp only [repL] at hl
      obtain ⟨_, _, _, _, e, _⟩ := hl
      cases e
    · rename_i hk; simp only [AV.rep]; exact ⟨p, by rw [hJf, hk]; exact hp, hu⟩
  | .eptr k s i o, u, h => by
    simp only [AV.rep] at h
    obtain ⟨p, hp, hu⟩ := h
    simp only [AV.frz]
    split
    · simp only [AV.rep]; rw [hu]; rfl
    · rename_i hk; simp only [AV.rep]; exact ⟨p, by rw [hJf, hk]; exact hp, hu⟩
  | .own k, u, h => by
    have h' := h
    simp only [AV.rep] at h
    obtain ⟨p, hp, hu, hu1⟩ := h
    simp only [AV.frz]
    split
    · rename_i hk
      split
      · rename_i x k1 hs
        simp only [AV.rep]
        refine show_rep m hX (.own k) u x k1 hs h' ?_
        have : k1 = [k] := by
          simp only [AV.show] at hs
          split at hs <;> first | (simp only [Option.some.injEq, Prod.mk.injEq] at hs; exact hs.2.symm) | cases hs
        subst this
        intro k2 hk2
        rw [List.mem_singleton.1 hk2]
        exact hB k ((has_iff _ _).1 hk)
      · simp only [AV.rep]; rw [hu]; exact hu1
    · rename_i hk; simp only [AV.rep]; exact ⟨p, by rw [hJf, hk]; exact hp, hu, hu1⟩
  | .win k s lo hi, u, h => by
    have h' := h
    simp only [AV.rep] at h
    obtain ⟨p, a0, n0, c0, a, c, hp, hpv, q1, q2, q3, hu, q4, q5⟩ := h
    simp only [AV.frz]
    split
    · rename_i hk
      split
      · rename_i x k1 hs
        simp only [AV.rep]
        refine show_rep m hX (.win k s lo hi) u x k1 hs h' ?_
        have : k1 = [k] := by
          simp only [AV.show] at hs
          split at hs
          · split at hs
            · split at hs <;> (simp only [Option.some.injEq, Prod.mk.injEq] at hs; exact hs.2.symm)
            · cases hs
          · cases hs
        subst this
        intro k2 hk2
        rw [List.mem_singleton.1 hk2]
        exact hB k ((has_iff _ _).1 hk)
      · simp only [AV.rep]; rw [hu]; rfl
    · rename_i hk; simp only [AV.rep]; exact ⟨p, a0, n0, c0, a, c, by rw [hJf, hk]; exact hp, hpv, q1, q2, q3, hu, q4, q5⟩
theorem frzL_rep (m : Mem X0 J σ w) (hJf : ∀ k, Jf k = match has k bs with | true => none | false => J k) (hX : ∀ b, Xof X0 Jf b → Xof X0 J b)
    (hB : ∀ k, k ∈ bs → ∀ p, J k = some p → ∀ b, b ∈ p.fp → ¬ Xof X0 Jf b) : ∀ (vs : List AV) (us : List Value), AV.repL w (Xof X0 J) J vs us → AV.repL w (Xof X0 Jf) Jf (frzL σ bs vs) us
  | [], us, h => by simp only [frzL, AV.repL] at h ⊢; exact h
  | v :: vs, us, h => by
    simp only [frzL, AV.repL] at h ⊢
    obtain ⟨u, us', hu, h1, h2⟩ := h
    exact ⟨u, us', hu, frz_rep m hJf hX hB v u h1, frzL_rep m hJf hX hB vs us' h2⟩
end
theorem look_frzEnv (l : List (Nat × AV)) (t : Nat) : look t (frzEnv σ bs l) = (look t l).map (AV.frz σ bs) := by
  induction l with
  | nil => rfl
  | cons x l ih =>
    obtain ⟨k, v⟩ := x
    simp only [frzEnv, look_cons]
    split
    · rfl
    · exact ih
theorem look_frzObj (l : List (Nat × Ob)) (t : Nat) : look t (frzObj σ bs l) = match has t bs with | true => none | false => (look t l).map (Ob.frz σ bs) := by
  induction l with
  | nil => simp only [frzObj, look_nil]; split <;> rfl
  | cons x l ih =>
    obtain ⟨k, v⟩ := x
    simp only [frzObj]
    cases hk : has k bs with
    | true =>
      simp only
      rw [ih, look_cons]
      by_cases e : k = t
      · subst e; rw [hk]
      · rw [if_neg e]
    | false =>
      simp only
      rw [look_cons, look_cons, ih]
      by_cases e : k = t
      · subst e; rw [if_pos rfl, if_pos rfl, hk]; rfl
      · rw [if_neg e, if_neg e]
end
section
variable {X0 : Nat → Prop} {J : Nat → Option Place} {st : St} {a : Act} {w : World}
def less (J : Nat → Option Place) (bs : List Nat) (k : Nat) : Option Place := match has k bs with | true => none | false => J k
theorem less_some {bs : List Nat} {k : Nat} {p : Place} (h : less J bs k = some p) : J k = some p ∧ k ∉ bs := by
  unfold less at h
  split at h
  · cases h
  · rename_i hk; exact ⟨h, fun hm => by rw [(has_iff _ _).2 hm] at hk; cases hk⟩
theorem less_of {bs : List Nat} {k : Nat} (h : k ∉ bs) : less J bs k = J k := by
  unfold less
  split
  · rename_i hk; exact absurd ((has_iff _ _).1 hk) h
  · rfl
theorem frz_rel (r : Rel X0 J st a w) (bs : List Nat) : Rel X0 (less J bs) (st.frz bs) a w := by
  have hX : ∀ b, Xof X0 (less J bs) b → Xof X0 J b := by
    rintro b (h | ⟨k, p, hp, hb⟩)
    · exact .inl h
    · exact .inr ⟨k, p, (less_some hp).1, hb⟩
  have hB : ∀ k, k ∈ bs → ∀ p, J k = some p → ∀ b, b ∈ p.fp → ¬ Xof X0 (less J bs) b := by
    rintro k hk p hp b hb (h | ⟨k', p', hp', hb'⟩)
    · exact (r.mem.x0 b h).2 k p hp hb
    · obtain ⟨h1, h2⟩ := less_some hp'
      refine r.mem.sep k k' p p' hp h1 ?_ b hb hb'
      rintro rfl
      exact h2 hk
  refine ⟨fun t v ht => ?_, ⟨fun k o ho => ?_, fun k p hp => ?_, fun k k' p p' hp hp' => r.mem.sep k k' p p' (less_some hp).1 (less_some hp').1, fun k p hp => r.mem.nd k p (less_some hp).1, fun b hb => ⟨(r.mem.x0 b hb).1, fun k p hp => (r.mem.x0 b hb).2 k p (less_some hp).1⟩⟩, r.defers⟩
  · simp only [St.frz] at ht
    rw [look_frzEnv] at ht
    cases hv : look t st.env with
    | none => rw [hv] at ht; cases ht
    | some v0 =>
      rw [hv] at ht
      cases ht
      obtain ⟨u, hu, hr⟩ := r.env t v0 hv
      exact ⟨u, hu, frz_rep r.mem (fun _ => rfl) hX hB v0 u hr⟩
  · simp only [St.frz] at ho
    rw [look_frzObj] at ho
    split at ho
    · cases ho
    · rename_i hk
      cases hv : look k st.obj with
      | none => rw [hv] at ho; cases ho
      | some o0 =>
        rw [hv] at ho
        cases ho
        obtain ⟨p, hp, hr⟩ := r.mem.ob k o0 hv
        refine ⟨p, by unfold less; rw [hk]; exact hp, ?_⟩
        cases o0 with
        | var cells =>
          obtain ⟨hh, hn, cs, t, h1, h2⟩ := hr
          exact ⟨hh, hn, cs, t, h1, frzL_rep r.mem (fun _ => rfl) hX hB cells _ h2⟩
        | arr sz deep xs =>
          obtain ⟨h0, a0, c0, h1, h2, h3⟩ := hr
          refine ⟨h0, a0, c0, h1, h2, h3.imp id ?_⟩
          rintro ⟨g1, g2, g3, g4, g5⟩
          exact ⟨g1, g2, g3, repRows_less hX g4, g5⟩
        | bld t e l => exact hr
        | mp es =>
          obtain ⟨hh, hn, hv, ents, clock, hc, hr⟩ := hr
          exact ⟨hh, hn, hv, ents, clock, hc, mpRep_mono (fun b _ hx h => hx (hX b h)) (fun _ _ _ => rfl) hr⟩
        | opn sz xs els =>
          have := Ob.rep_ren (f := without bs) (X' := Xof X0 (less J bs)) (J' := less J bs) (fun b _ hx h => hx (hX b h)) (fun _ _ _ => rfl) (fun k p j hp hj => by
            have hjk : j = k := by unfold without at hj; split at hj <;> simp_all
            subst hjk
            refine ⟨p, ?_, p.like_refl⟩
            unfold less
            unfold without at hj
            split at hj
            · cases hj
            · rename_i h; rw [h]; exact hp) hr
          exact this
        | gone => exact hr
  · simp only [St.frz]
    rw [look_frzObj]
    obtain ⟨h1, h2⟩ := less_some hp
    obtain ⟨o, ho⟩ := r.mem.dom k p h1
    have : has k bs = false := Bool.eq_false_iff.2 fun e => h2 ((has_iff _ _).1 e)
    rw [this]
    exact ⟨o.frz _ bs, by simp only; rw [show look k st.obj = some o from ho]; rfl⟩
end
theorem run_callFunc {f : FuncId} (h : Enters P f) (args : Array Value) (w : World) : (callFunc f args).run P w = .ok (.enter f args) w := by
  obtain ⟨fn, h1, h2, h3⟩ := h
  simp only [callFunc, Sem.run_bind, run_program, Result.andThen_ok, h1, h2, h3, Bool.false_eq_true, if_false, Sem.run_pure]
section
variable {cx : Cx} {X0 : Nat → Prop} {J : Nat → Option Place} {st : St} {a : Act} {w : World} {o : Oper} {K : St → Prop} {next : Act → World → Prop} {Q : Exit → Act → World → Prop}
theorem evRo_ok {σ : Nat → Option Ob} (m : Mem X0 J σ w) : ∀ {vs : List AV} {us : List Value} {K : List AV → List Nat → Prop}, evRo σ vs K → AV.repL w (Xof X0 J) J vs us →
    ∃ args bs, K args bs ∧ ∀ X' : Nat → Prop, (∀ b, X' b → Xof X0 J b) → (∀ k, k ∈ bs → ∀ p, J k = some p → ∀ b, b ∈ p.fp → ¬ X' b) → AV.repL w X' J args us
  | [], us, K, h, hr => by
    simp only [evRo] at h
    exact ⟨[], [], h, fun X' _ _ => by simp only [AV.repL] at hr ⊢; exact hr⟩
  | v :: vs, us, K, h, hr => by
    simp only [AV.repL] at hr
    obtain ⟨u, us', rfl, h1, h2⟩ := hr
    have gen : (match v.show σ with
        | some (x, k1) => evRo σ vs fun l bs => K (.d x :: l) (k1 ++ bs)
        | none => evRo σ vs fun l bs => K (v :: l) bs) → ∃ args bs, K args bs ∧ ∀ X' : Nat → Prop, (∀ b, X' b → Xof X0 J b) → (∀ k, k ∈ bs → ∀ p, J k = some p → ∀ b, b ∈ p.fp → ¬ X' b) → AV.repL w X' J args (u :: us') := by
      intro h
      split at h
      · rename_i x k1 hx
        obtain ⟨args, bs, hK, hrest⟩ := evRo_ok m h h2
        refine ⟨_, _, hK, fun X' hX hb => ?_⟩
        simp only [AV.repL]
        refine ⟨u, us', rfl, ?_, hrest X' hX fun k hk => hb k (List.mem_append_right _ hk)⟩
        simp only [AV.rep]
        exact show_rep m hX v u x k1 hx h1 fun k hk => hb k (List.mem_append_left _ hk)
      · obtain ⟨args, bs, hK, hrest⟩ := evRo_ok m h h2
        refine ⟨_, _, hK, fun X' hX hb => ?_⟩
        simp only [AV.repL]
        exact ⟨u, us', rfl, AV.rep_mono (fun b _ hx h => hx (hX b h)) (fun _ _ _ => rfl) (fun _ p hp => ⟨p, hp, p.like_refl⟩) h1, hrest X' hX hb⟩
    cases v with
    | ptr k off =>
      simp only [evRo] at h
      split at h
      case h_2 => exact h.elim
      rename_i cells hk
      split at h
      case h_2 => exact h.elim
      rename_i tl htl
      obtain ⟨rfl, hle⟩ := drop_some htl
      split at h
      case h_2 => exact h.elim
      rename_i c cs ks hshow
      obtain ⟨args, bs, hK, hrest⟩ := evRo_ok m h h2
      refine ⟨_, _, hK, fun X' hX hb => ?_⟩
      simp only [AV.repL]
      refine ⟨u, us', rfl, ?_, hrest X' hX fun k' hk' => hb k' (List.mem_cons_of_mem _ (List.mem_append_right _ hk'))⟩
      simp only [AV.rep] at h1
      obtain ⟨p, hp, rfl⟩ := h1
      obtain ⟨p', vcs, t, hp', ⟨hh, hn⟩, hcs, hrc⟩ := m.var hk
      rw [hp] at hp'; cases hp'
      have hl := showL_rep m hX _ _ _ _ hshow (AV.repL_drop (n := off) hrc) (fun k' hk' => hb k' (List.mem_cons_of_mem _ (List.mem_append_left _ hk')))
      simp only [AV.rep]
      refine ⟨p.blk, off, vcs.toList.drop off, rfl, ?_, hb k (List.mem_cons_self ..) p hp p.blk (p.blk_fp hh), hl, rangeAt_heap hcs off⟩
      intro e
      rw [e] at hl
      simp only [repL] at hl
      obtain ⟨_, _, _, _, e, _⟩ := hl
      cases e
    | eptr k s j off =>
      simp only [evRo] at h
      split at h
      case h_2 => exact h.elim
      rename_i sz dp xs hk
      split at h
      case h_2 => exact h.elim
      rename_i hbq
      have hss := Nat.eq_of_beq_eq_true hbq
      subst hss
      obtain ⟨x, hx, h⟩ := h
      split at h
      case h_2 => exact h.elim
      rename_i c cs htl
      obtain ⟨htl, hle⟩ := drop_some htl
      obtain ⟨args, bs, hK, hrest⟩ := evRo_ok m h h2
      refine ⟨_, _, hK, fun X' hX hb => ?_⟩
      simp only [AV.repL]
      refine ⟨u, us', rfl, ?_, hrest X' hX fun k' hk' => hb k' (List.mem_cons_of_mem _ hk')⟩
      simp only [AV.rep] at h1
      obtain ⟨p, hp, rfl⟩ := h1
      obtain ⟨p', hp', g0, a0, c0, g1, g2, g3⟩ := m.ob k _ hk
      rw [hp] at hp'; cases hp'
      have hbk := hb k (List.mem_cons_self ..) p hp
      rcases g3 with ⟨_, g3, _⟩ | ⟨hh, ha, g3, g4, g5⟩
      · subst g3; simp at hx
      · have her := repRows_erase hX _ _ _ _ _ g4 (fun b hb => hbk b (p.nest_fp hh hb))
        have hget : (eraseL xs)[j]? = some x.erase := by
          have key : ∀ (l : List D) (i : Nat), l[i]? = some x → (eraseL l)[i]? = some x.erase := by
            intro l
            induction l with
            | nil => intro i h; simp at h
            | cons y l ih =>
              intro i h
              cases i with
              | zero => simp at h; subst h; simp [eraseL]
              | succ i => simpa [eraseL] using ih i (by simpa using h)
          exact key xs j hx
        obtain ⟨v0, k1, k2, k3, k4⟩ := repRows_get her hget
        rw [Nat.zero_add] at k4
        have hcr := repL_drop (n := off) (D.cells_rep k1)
        rw [htl] at hcr
        have hrd := rangeAt_drop (n := off) k4
        simp only [AV.rep]
        refine ⟨p.blk, j * s + off, v0.cells.toList.drop off, rfl, ?_, hbk p.blk (p.blk_fp hh), hcr, hrd⟩
        intro e
        rw [e] at hcr
        simp only [repL] at hcr
        obtain ⟨_, _, _, _, e, _⟩ := hcr
        cases e
    | d y => simp only [evRo] at h; exact gen h
    | c y => simp only [evRo] at h; exact gen h
    | snil => simp only [evRo] at h; exact gen h
    | agg y => simp only [evRo] at h; exact gen h
    | tup y => simp only [evRo] at h; exact gen h
    | own y => simp only [evRo] at h; exact gen h
    | win k s lo hi => simp only [evRo] at h; exact gen h
    | rd y => simp only [evRo] at h; exact gen h
    | fn g y => simp only [evRo] at h; exact gen h
    | bot => simp only [evRo] at h; exact gen h
theorem op_callCore (r : Rel X0 J st a w) {d : Nat} (hd : d < a.tmps.size) (hdst : o.dst = some d) (hn : Leads P X0 J a w K next) {f : FuncId} {args : List AV} {bs : List Nat} {us : Array Value}
    (hrun : Enters P f → (execOp a.eval o).run P w = .ok (.enter f us) w)
    (hlend : ∀ X' : Nat → Prop, (∀ b, X' b → Xof X0 J b) → (∀ k, k ∈ bs → ∀ p, J k = some p → ∀ b, b ∈ p.fp → ¬ X' b) → AV.repL w X' J args us.toList)
    (hc : evCallIn P f args bs d st K) : o.wp P a w next Q := by
  unfold evCallIn at hc
  rw [forceN_eq] at hc
  generalize reachN (look · st.obj) 50 (refsL args) [] = ks at hc
  simp only at hc
  generalize hcheck : (nodup ks && apart bs ks && bigs bs && inside (refsL args) ks) = q at hc
  cases q with
  | false => exact hc.elim
  | true =>
  simp only at hc
  simp only [Bool.and_eq_true] at hcheck
  obtain ⟨⟨⟨hnd, hap⟩, hbig⟩, _⟩ := hcheck
  generalize hobjs : pickObs (look · st.obj) (idx · ks 0) ks = qo at hc
  cases qo with
  | none => exact hc.elim
  | some objs =>
  simp only at hc
  obtain ⟨QQ, hent, hc⟩ := hc
  have hnd := nodup_ok hnd
  have hap := apart_ok hap
  obtain ⟨hX, mc, hargs⟩ := mem_callee r.mem (X0c := fun b => Xof X0 J b ∧ (∀ k, k ∈ bs → ∀ p, J k = some p → b ∉ p.fp) ∧ ∀ k, k ∈ ks → ∀ p, J k = some p → b ∉ p.fp) (Jc := fun i => (ks[i]?).bind J) hnd hap hobjs (fun _ => Iff.rfl) (fun _ => rfl)
  have hargs := hargs args us.toList (hlend _ (fun b h => ((hX b).1 h).1) (fun k hk p hp b hb h => ((hX b).1 h).2 k hk p hp hb))
  have hcalls := hent.2 _ _ w us hargs mc
  have hks : ∀ k, k ∈ ks → ∃ p, J k = some p := by
    intro k hk
    obtain ⟨i, hi⟩ := List.mem_iff_getElem?.1 hk
    obtain ⟨o', ho', _⟩ := (pickObs_ok hobjs).2 i k hi
    obtain ⟨p, hp, _⟩ := r.mem.ob k o' ho'
    exact ⟨p, hp⟩
  unfold Oper.wp
  rw [hrun hent.1, Oper.upon_enter]
  refine Calls.mono hcalls ?_
  rintro e w' ⟨R, O, v, J', hq, rfl, hR, m', hk, hown, hstay⟩
  have hc := hc R O hq
  generalize hck : (Nat.ble ks.length O.length && freshOk st.obj ks d 0 (O.length - ks.length)) = qk at hc
  cases qk with
  | false => exact hc.elim
  | true =>
  simp only at hc
  simp only [Bool.and_eq_true] at hck
  obtain ⟨hlen, hfr⟩ := hck
  have hlen := Nat.le_of_ble_eq_true hlen
  have hfresh : ∀ i, ks.length ≤ i → i < O.length → J (10000 * (i - ks.length + 1) + d) = none := by
    intro i h1 h2
    exact r.mem.free (freshOk_ok hfr (i - ks.length) (Nat.zero_le _) (by omega))
  simp only
  rw [hdst]
  by_cases hb : bs = []
  · subst hb
    simp only at hc
    obtain ⟨J'', hr, hs⟩ := after_rel r (hd) hnd hks hlen hfresh (fun b h => ⟨.inl h, by simp, fun k _ p hp => (r.mem.x0 b h).2 k p hp⟩) (fun _ => rfl)
      (.inr fun k p b hp hk' hb => ⟨.inr ⟨k, p, hp, hb⟩, by simp, fun k2 hk2 p2 hp2 hb2 => r.mem.sep k k2 p p2 hp hp2 (by rintro rfl; exact hk' hk2) b hb hb2⟩) hR m' hk hown hstay
    exact hn _ J'' _ w' hc hr Act.put_size hs
  · have hc' : (R.loose && flatObs O) = true ∧ K (after st ks d O R) ∨ K (after (st.frz bs) ks d O R) := by
      cases bs with
      | nil => exact absurd rfl hb
      | cons k0 bs =>
        simp only at hc
        split at hc
        · rename_i h; exact .inl ⟨h, hc⟩
        · exact .inr hc
    rcases hc' with ⟨hf, hK⟩ | hK
    · simp only [Bool.and_eq_true] at hf
      obtain ⟨J'', hr, hs⟩ := after_rel r (hd) hnd hks hlen hfresh (fun b h => ⟨.inl h, fun k _ p hp => (r.mem.x0 b h).2 k p hp, fun k _ p hp => (r.mem.x0 b h).2 k p hp⟩) (fun _ => rfl)
        (.inl hf) hR m' hk hown hstay
      exact hn _ J'' _ w' hK hr Act.put_size hs
    · have rf := frz_rel r bs
      have hnot : ∀ k, k ∈ ks → k ∉ bs := fun k hk hm => hap k hm hk
      obtain ⟨J'', hr, hs⟩ := after_rel rf (hd) hnd (fun k hk => by rw [less_of (hnot k hk)]; exact hks k hk) hlen
        (fun i h1 h2 => by
          have := hfresh i h1 h2
          unfold less; split
          · rfl
          · exact this)
        (fun b h => ⟨.inl h, fun k _ p hp => (r.mem.x0 b h).2 k p hp, fun k _ p hp => (r.mem.x0 b h).2 k p hp⟩)
        (fun i => by
          show (ks[i]?).bind J = _
          cases hki : ks[i]? with
          | none => rfl
          | some k => exact (less_of (hnot k (List.mem_of_getElem? hki))).symm)
        (.inr fun k p b hp hk' hb => by
          obtain ⟨h1, h2⟩ := less_some hp
          exact ⟨.inr ⟨k, p, h1, hb⟩, fun k2 hk2 p2 hp2 hb2 => r.mem.sep k k2 p p2 h1 hp2 (by rintro rfl; exact h2 hk2) b hb hb2, fun k2 hk2 p2 hp2 hb2 => r.mem.sep k k2 p p2 h1 hp2 (by rintro rfl; exact hk' hk2) b hb hb2⟩)
        hR m' hk hown hstay
      refine hn _ J'' _ w' hK hr Act.put_size ⟨⟨hs.kept.os, hs.kept.tape, hs.kept.output, hs.kept.size, fun b hb' hF => hs.kept.block b hb' ?_⟩, fun k p b hp hbp => (hs.own k p b hp hbp).imp ?_ id, fun k p hk' hp => hs.stay k p hk' ?_⟩
      · rintro ⟨k, p, hp, hbp⟩; exact hF ⟨k, p, (less_some hp).1, hbp⟩
      · rintro ⟨k, p, hp, hbp⟩; exact ⟨k, p, (less_some hp).1, hbp⟩
      · rw [less_of]
        · exact hp
        · intro hm
          have := bigs_le hbig k hm
          omega
theorem op_callValue (r : Rel X0 J st a w) (hd : ∀ d, o.dst = some d → d < a.tmps.size) (hn : Leads P X0 J a w K next) {f : FuncId} {vs : List AV} {us : Array Value}
    (hrun : Enters P f → (execOp a.eval o).run P w = .ok (.enter f us) w) (hus : AV.repL w (Xof X0 J) J vs us.toList)
    (hc : evCmd P cx o.dst (.call f vs) st K) : o.wp P a w next Q := by
  simp only [evCmd] at hc
  unfold evCall at hc
  cases hdst : o.dst with
  | none => rw [hdst] at hc; exact hc.elim
  | some d =>
    rw [hdst] at hc
    simp only at hc
    cases hro : has (1000000 + f) cx.mu with
    | true =>
      rw [hro] at hc
      simp only at hc
      obtain ⟨args, bs, hc, hl⟩ := evRo_ok r.mem hc hus
      exact op_callCore r (hd d hdst) hdst hn hrun hl hc
    | false =>
    rw [hro] at hc
    simp only at hc
    cases hh : has f cx.mu with
    | true =>
      rw [hh] at hc
      exact op_callCore r (hd d hdst) hdst hn hrun (fun X' hX _ => AV.repL_mono (fun b _ hx h => hx (hX b h)) (fun _ _ _ => rfl) (fun _ p hp => ⟨p, hp, p.like_refl⟩) hus) (show evCallIn P f vs [] d st K from hc)
    | false =>
      rw [hh] at hc
      exact op_callCore r (hd d hdst) hdst hn hrun (fun X' hX hb => lend_rep r.mem hX vs _ _ _ rfl hus hb) (show evCallIn P f (lend (look · st.obj) vs).1 (lend (look · st.obj) vs).2 d st K from hc)
theorem op_call (r : Rel X0 J st a w) (hd : ∀ d, o.dst = some d → d < a.tmps.size) (hn : Leads P X0 J a w K next) {c : Call} {f : Operand} (hop : o.op = .call c) (hf : c.callee = .value f)
    (hc : evCmd P cx o.dst (opCmd cx.T o st) st K) : o.wp P a w next Q := by
  simp only [opCmd, hop, hf] at hc
  split at hc
  case h_2 => exact hc.elim
  rename_i g caps hg
  split at hc
  case h_2 => exact hc.elim
  rename_i vs hvs
  have h1 := r.ev hg
  simp only [AV.rep] at h1
  obtain ⟨cs, he, hcs⟩ := h1
  have h2 := r.evs hvs
  refine op_callValue r hd hn (us := c.args.map a.eval ++ cs) (fun hent => ?_) ?_ hc
  · simp [execOp, hop, resolve, hf, he, Deferred.ofValue, invoke, run_callFunc hent]
  · rw [Array.toList_append, Array.toList_map]
    exact AV.repL_append h2 hcs
end
end Go.Pm
namespace Go.Pm
open Go
set_option linter.unusedVariables false
variable {P : Program}
section
variable {cx : Cx} {X0 : Nat → Prop} {J : Nat → Option Place} {st : St} {a : Act} {w : World} {o : Oper} {K : St → Prop} {next : Act → World → Prop} {Q : Exit → Act → World → Prop}
theorem argsTwo {args : Array Operand} {av xv : AV} (r : Rel X0 J st a w) (h : st.evs args.toList = some [av, xv]) : ∃ s x, args = #[s, x] ∧ st.ev s = some av ∧ st.ev x = some xv := by
  match hl : args.toList with
  | [s, x] =>
    rw [hl] at h
    refine ⟨s, x, by apply Array.ext'; simpa using hl, ?_⟩
    simp only [St.evs] at h
    split at h
    · rename_i v1 h1
      split at h
      · rename_i l1 hl1
        split at hl1
        · rename_i v2 h2
          simp only [Option.some.injEq] at hl1 h
          subst hl1
          simp only [List.cons.injEq] at h
          exact ⟨by rw [h1, h.1], by rw [h2, h.2.1]⟩
        · cases hl1
      · cases h
    · cases h
  | [] => rw [hl] at h; simp [St.evs] at h
  | [s] =>
    rw [hl] at h
    simp only [St.evs] at h
    split at h <;> simp at h
  | s :: x :: y :: l =>
    exfalso
    rw [hl] at h
    have := AV.repL_length (r.evs h)
    simp at this
theorem op_min (r : Rel X0 J st a w) (hd : ∀ d, o.dst = some d → d < a.tmps.size) (hn : Leads P X0 J a w K next) {args : Array Operand} {ts : Array TypeId} {b : Builtin} (hop : o.op = .call { callee := .builtin b, args := args, argTypes := ts }) (hb : b = .min ∨ b = .max)
    (hc : evCmd P cx o.dst (builtinC cx.T st b ts.toList args.toList) st K) : o.wp P a w next Q := by
  unfold builtinC at hc
  split at hc
  case h_1 => exact hc.elim
  rename_i vs hvs
  rcases hb with rfl | rfl
  · simp only at hc
    split at hc
    case h_2 => exact hc.elim
    rename_i k x k' y
    obtain ⟨rfl, hc⟩ := hc
    obtain ⟨s, z, rfl, hs, hz⟩ := argsTwo r hvs
    have h1 := r.ev hs
    have h2 := r.ev hz
    simp only [AV.rep, D.rep] at h1 h2
    refine wp_val r hd hn hc (u := .int k (if y < x then y else x)) (w' := w) ?_ (Same.refl w) (by simp [AV.rep, D.rep])
    simp [execOp, hop, resolve, invoke, builtin, h1.1, h2.1, Builtin.min_, Builtin.min2]
  · simp only at hc
    split at hc
    case h_2 => exact hc.elim
    rename_i k x k' y
    obtain ⟨rfl, hc⟩ := hc
    obtain ⟨s, z, rfl, hs, hz⟩ := argsTwo r hvs
    have h1 := r.ev hs
    have h2 := r.ev hz
    simp only [AV.rep, D.rep] at h1 h2
    refine wp_val r hd hn hc (u := .int k (if y > x then y else x)) (w' := w) ?_ (Same.refl w) (by simp [AV.rep, D.rep])
    simp [execOp, hop, resolve, invoke, builtin, h1.1, h2.1, Builtin.max_, Builtin.max2]
theorem flat_take {sz : Nat} : ∀ {us : List Value} {n : Nat}, (∀ u ∈ us, u.cells.size = sz) → n ≤ us.length → (flat us).take (n * sz) = flat (us.take n)
  | us, 0, _, _ => by simp [flat]
  | [], n + 1, _, h => by simp at h
  | u :: us, n + 1, hs, h => by
    have ih := flat_take (us := us) (n := n) (fun v hv => hs v (List.mem_cons_of_mem _ hv)) (by simpa using h)
    simp only [flat] at ih
    have hu : u.cells.toList.length = sz := by rw [Array.length_toList]; exact hs u (List.mem_cons_self ..)
    simp only [flat, List.flatMap_cons, List.take_succ_cons]
    rw [Nat.add_mul, Nat.one_mul, Nat.add_comm, ← hu, List.take_append, List.take_of_length_le (by omega), hu, Nat.add_sub_cancel_left, ih]
theorem repL_takeN {X : Nat → Prop} : ∀ {xs : List D} {us : List Value} {n : Nat}, repL w X xs us [] → repL w X (xs.take n) (us.take n) [] := repL_take
theorem repRows_over {X : Nat → Prop} {b sz lo : Nat} {xs ys : List D} {vs : List Value} (hb : X b) (h : repRows w X b sz xs 0 []) (hv : repL w X ys vs []) (hyl : ∀ y ∈ ys, y.cells.length = sz) (hvl : ∀ u ∈ vs, u.cells.size = sz ∧ ∀ c ∈ u.cells.toList, c.oneCell' = true)
    (hle : lo + ys.length ≤ xs.length) (hth : w.there b (lo * sz) (flat vs).length) : repRows (w.setCells b (lo * sz) (flat vs)) X b sz (xs.take lo ++ ys ++ xs.drop (lo + ys.length)) 0 [] := by
  obtain ⟨us, q1, q2, q3, q4⟩ := repRows_inv h
  have hul := repL_length q1
  have hvl' := repL_length hv
  have hA : Agree w (w.setCells b (lo * sz) (flat vs)) X [] := by
    intro c hc hx
    refine (kept_setCells b _ _ w).block c hc fun e => ?_
    rcases hx with hx | hx
    · cases hx
    · exact hx (e ▸ hb)
  have hall := repL_join (repL_join (repL_take (n := lo) q1) hv) (repL_drop (n := lo + ys.length) q1)
  have hsz : ∀ u ∈ us.take lo ++ vs ++ us.drop (lo + ys.length), u.cells.size = sz ∧ ∀ c ∈ u.cells.toList, c.oneCell' = true := by
    intro u hu
    rcases List.mem_append.1 hu with hu | hu
    · rcases List.mem_append.1 hu with hu | hu
      · exact q3 u (List.mem_of_mem_take hu)
      · exact hvl u hu
    · exact q3 u (List.mem_of_mem_drop hu)
  have hru := rangeAt_flat (off := 0) (fun u hu => (q3 u hu).1) q4
  have hsplit : flat us = flat (us.take lo) ++ flat ((us.drop lo).take ys.length) ++ flat (us.drop (lo + ys.length)) := by
    rw [← flat_append, ← flat_append, List.append_assoc, ← List.drop_drop, List.take_append_drop, List.take_append_drop]
  have l1 : (flat (us.take lo)).length = lo * sz := by
    rw [flat_length (fun u hu => (q3 u (List.mem_of_mem_take hu)).1), List.length_take, Nat.min_eq_left (by omega)]
  have l2 : (flat ((us.drop lo).take ys.length)).length = ys.length * sz := by
    rw [flat_length (fun u hu => (q3 u (List.mem_of_mem_drop (List.mem_of_mem_take hu))).1), List.length_take, List.length_drop, Nat.min_eq_left (by omega)]
  have l3 : (flat vs).length = ys.length * sz := by rw [flat_length (fun u hu => (hvl u hu).1), hvl']
  refine repRows_of (us := us.take lo ++ vs ++ us.drop (lo + ys.length)) (off := 0) (repL_mono (fun _ _ hx => hx) _ _ _ hA hall) ?_ hsz (rangeAt_rows (fun u hu => (hsz u hu).1) ?_)
  · intro y hy
    rcases List.mem_append.1 hy with hy | hy
    · rcases List.mem_append.1 hy with hy | hy
      · exact q2 y (List.mem_of_mem_take hy)
      · exact hyl y hy
    · exact q2 y (List.mem_of_mem_drop hy)
  · rw [hsplit] at hru
    obtain ⟨h12, h3⟩ := rangeAt_app.1 hru
    obtain ⟨h1, h2⟩ := rangeAt_app.1 h12
    rw [flat_append, flat_append]
    refine rangeAt_app.2 ⟨rangeAt_app.2 ⟨rangeAt_apart h1 (.inr (.inl (by omega))), ?_⟩, ?_⟩
    · rw [Nat.zero_add, l1]
      exact World.rangeAt_setCells_same w b _ _ hth
    · have e : 0 + (flat (us.take lo) ++ flat vs).length = 0 + (flat (us.take lo) ++ flat ((us.drop lo).take ys.length)).length := by simp only [List.length_append]; omega
      rw [e]
      refine rangeAt_apart h3 (.inr (.inr ?_))
      simp only [List.length_append]; omega
theorem op_copy (tok : TOk P cx.T) (r : Rel X0 J st a w) (hd : ∀ d, o.dst = some d → d < a.tmps.size) (hn : Leads P X0 J a w K next) {args : Array Operand} {ts : Array TypeId} (hop : o.op = .call { callee := .builtin .copy, args := args, argTypes := ts })
    (hc : evCmd P cx o.dst (builtinC cx.T st .copy ts.toList args.toList) st K) : o.wp P a w next Q := by
  unfold builtinC at hc
  split at hc
  case h_1 => exact hc.elim
  rename_i vs hvs
  simp only at hc
  split at hc
  case h_2 => exact hc.elim
  rename_i t t2 hts
  have hts' : ts = #[t, t2] := by apply Array.ext'; simpa using hts
  subst hts'
  split at hc
  case h_2 => exact hc.elim
  rename_i i i2 hi hi2
  have h1 := tok t i hi
  have h2 := tok t2 i2 hi2
  subst h1; subst h2
  split at hc
  case h_2 => exact hc.elim
  rename_i e hk
  have hu := kind_slice (P := P) (t := t) hk
  split at hc
  case h_2 => exact hc.elim
  rename_i ie hie
  have h3 := tok e ie hie
  subst h3
  have main : ∀ {k s lo hi : Nat} {dv xv : AV}, vs = [dv, xv] → (∀ u, dv.rep w (Xof X0 J) J u → ∀ xs, look k st.obj = some (.arr s false xs) → lo ≤ hi → hi ≤ xs.length → ∃ p a1 c, J k = some p ∧ u = .slice a1 (hi - lo) c ∧ (lo < hi → a1 = some ⟨p.blk, lo * s, none⟩)) →
      evCmd P cx o.dst (copyC (look · st.obj) k s lo hi xv (tdOf P e).size (tdOf P t2).kind) st K → o.wp P a w next Q := by
    clear hc
    rintro k s lo hi dv xv rfl hdst hc
    obtain ⟨sd, sx, rfl, hsd, hsx⟩ := argsTwo r hvs
    unfold copyC at hc
    split at hc
    case h_2 => exact hc.elim
    rename_i sz xs hob
    split at hc
    case h_2 => exact hc.elim
    rename_i hbq
    simp only [Bool.and_eq_true] at hbq
    have hss := Nat.eq_of_beq_eq_true hbq.1
    subst hss
    have hse : s = P.cellsOf e := Nat.eq_of_beq_eq_true hbq.2
    have hob : look k st.obj = some (.arr s false xs) := hob
    obtain ⟨p', hp', hr⟩ := r.mem.ob k _ hob
    have go : ∀ {ys : List D} {us : List Value}, hi ≤ xs.length → lo ≤ hi → (∀ y ∈ ys, y.cells.length = s) → repL w (Xof X0 J) ys us [] → (∀ u ∈ us, u.cells.size = s ∧ ∀ c ∈ u.cells.toList, c.oneCell' = true) →
        (Builtin.lenOf (a.eval sx)).run P w = .ok ys.length w → (∀ n, n ≤ ys.length → (Builtin.firstCells s n (a.eval sx)).run P w = .ok (flat (us.take n)).toArray w) →
        K ((st.set k (.arr s false (copied xs ys lo hi))).put o.dst (.d (.i .i64 (min (hi - lo) ys.length : Nat)))) → o.wp P a w next Q := by
      intro ys us hhi hlo hyl hv hvl hlen hcells hK
      obtain ⟨p, a1, c1, hp, hdv, haddr⟩ := hdst _ (r.ev hsd) xs hob hlo hhi
      obtain rfl : p = p' := by rw [hp] at hp'; exact Option.some.inj hp'
      obtain ⟨g0, a0, c0, g1, g2, g3⟩ := hr
      have hvs' := repL_length hv
      have hne : P.cellsOf e ≠ 0 := by omega
      obtain ⟨ei, hei⟩ : ∃ ei, P.info? e = some ei := by
        cases hq : P.info? e with
        | some ei => exact ⟨ei, rfl⟩
        | none => simp [Program.cellsOf, hq] at hne
      have hsize := run_sizeOf (P := P) w hei
      rw [← hse] at hsize
      obtain ⟨n, hn'⟩ : ∃ n, n = min (hi - lo) ys.length := ⟨_, rfl⟩
      have hmin : Nat.min ys.length (hi - lo) = n := by rw [hn']; exact Nat.min_comm _ _
      have hc0 := hcells n (by omega)
      have hcop : copied xs ys lo hi = xs.take lo ++ ys.take n ++ xs.drop (lo + (ys.take n).length) := by
        unfold copied
        have : ys.take (hi - lo) = ys.take n := by rw [hn', ← List.take_take, List.take_length]
        rw [this, List.length_take, hn']
        congr 3; omega
      rw [← hn'] at hK
      have hv' := repL_take (n := n) hv
      have hfl : (flat (us.take n)).length = n * s := by
        rw [flat_length (fun u hu => (hvl u (List.mem_of_mem_take hu)).1), List.length_take, Nat.min_eq_left (by omega)]
      by_cases hn0 : n = 0
      ·
        have hrun : (Builtin.copy_ #[t, t2] o.type #[a.eval sd, a.eval sx]).run P w = .ok (goInt n) w := by
          have hf0 : flat (us.take n) = [] := List.eq_nil_of_length_eq_zero (by rw [hfl, hn0, Nat.zero_mul])
          rw [hf0] at hc0
          cases a1 <;> simp [Builtin.copy_, run_underlying hu, hdv, hlen, hsize, hmin, hc0, storeCells]
        have hsame : copied xs ys lo hi = xs := by rw [hcop, hn0]; simp
        rw [hsame] at hK
        obtain ⟨m', hrep, hstep⟩ := Mem.gen (obj' := (look · (st.set k (.arr s false xs)).obj)) (J' := J) (w' := w) (f := some) (F := fun _ => False) (C := []) r.mem (fun k j h => (Option.some.inj h).symm) (fun _ _ => rfl) (by simp) (fun _ _ => rfl)
          (fun q _ => by
            rw [St.set_look]
            by_cases e1 : k = q
            · subst e1; rw [if_pos rfl]; simp only [hob, Option.map_some, Ob.ren]
            · rw [if_neg e1, ren_some_map]) (by simp) (by simp) (Kept.refl _ w) (fun _ h => h.elim) (by simp) (by simp) (by simp)
        unfold Oper.wp
        have hrun2 : (execOp a.eval o).run P w = .ok (.value (goInt n)) w := by simp [execOp, hop, resolve, invoke, builtin, hrun]
        rw [hrun2]
        have r' : Rel X0 J (st.set k (.arr s false xs)) a w := ⟨r.env, m', r.defers⟩
        exact hn _ J _ w hK (r'.put hd (by simp [AV.rep, D.rep, goInt])) Act.put_size hstep
      · have hlt : lo < hi := by omega
        have ha1 := haddr hlt
        subst ha1
        rcases g3 with ⟨_, g3, _⟩ | ⟨hh, ga, g3, g4, g5⟩
        · subst g3; simp at hhi; omega
        · have hnest := g5 rfl
          rw [hnest] at g4
          obtain ⟨cs, tt, hcs, hcn⟩ := g3
          have hbnd : lo + n ≤ c0 := by omega
          have hle2 : lo * s + n * s ≤ c0 * s := by rw [← Nat.add_mul]; exact Nat.mul_le_mul_right _ hbnd
          have hth : w.there p.blk (lo * s) (flat (us.take n)).length := plain_there ⟨cs, tt, hcs, hcn⟩ (by rw [hfl]; exact hle2)
          have hst := run_storeCells_cells (P := P) p.blk (lo * s) (flat (us.take n)) 0 w (fun j hj => by simpa using (hth j hj).1) (fun j hj => by simpa using (hth j hj).2) (flat_ones fun u hu => (hvl u (List.mem_of_mem_take hu)).2)
          simp only [Nat.add_zero] at hst
          have hrun : (Builtin.copy_ #[t, t2] o.type #[a.eval sd, a.eval sx]).run P w = .ok (goInt n) (w.setCells p.blk (lo * s) (flat (us.take n))) := by
            simp [Builtin.copy_, run_underlying hu, hdv, hlen, hsize, hmin, hc0, hst]
          have hXb : Xof X0 J p.blk := .inr ⟨k, p, hp, p.blk_fp hh⟩
          have hnl : (ys.take n).length = n := by rw [List.length_take]; omega
          have hrows := repRows_over (lo := lo) hXb g4 hv' (fun y hy => hyl y (List.mem_of_mem_take hy)) (fun u hu => hvl u (List.mem_of_mem_take hu)) (by omega) hth
          rw [← hcop] at hrows
          have hcl : (copied xs ys lo hi).length = xs.length := by
            rw [hcop]; simp only [List.length_append, List.length_take, List.length_drop]; omega
          have hkept := kept_setCells p.blk (lo * s) (flat (us.take n)) w
          obtain ⟨m', hrep, hstep⟩ := Mem.upd (o0 := .arr s false (copied xs ys lo hi)) (obj' := (look · (st.set k (.arr s false (copied xs ys lo hi))).obj)) (w' := w.setCells p.blk (lo * s) (flat (us.take n))) r.mem hp hh (fun j => by
            rw [St.set_look]
            by_cases e : k = j
            · rw [if_pos e, if_pos e.symm]
            · rw [if_neg e, if_neg (Ne.symm e)]) hkept
            ⟨g0, a0, c0, by rw [hcl]; exact g1, by rw [hcl]; exact g2, .inr ⟨hh, ga, plain_setCells ⟨cs, tt, hcs, hcn⟩, by rw [hnest]; exact hrows, fun _ => hnest⟩⟩
          unfold Oper.wp
          have hrun2 : (execOp a.eval o).run P w = .ok (.value (goInt n)) (w.setCells p.blk (lo * s) (flat (us.take n))) := by simp [execOp, hop, resolve, invoke, builtin, hrun]
          rw [hrun2]
          have r' : Rel X0 J (st.set k (.arr s false (copied xs ys lo hi))) a (w.setCells p.blk (lo * s) (flat (us.take n))) := ⟨fun t x hx => let ⟨u, hu, h⟩ := r.env t x hx; ⟨u, hu, hrep _ _ h⟩, m', r.defers⟩
          exact hn _ J _ _ hK (r'.put hd (by simp [AV.rep, D.rep, goInt])) Act.put_size hstep
    have hxv := r.ev hsx
    split at hc
    ·
      rename_i ys
      split at hc
      case h_2 => exact hc.elim
      obtain ⟨⟨c1, c2, c3⟩, hK⟩ := hc
      simp only [AV.rep, D.rep] at hxv
      obtain ⟨_, _, a2, c, hxe, hcap, hrows⟩ := hxv
      rcases hrows with rfl | ⟨b2, off2, sz2, hne, rfl, hsz2, hrows, hX⟩
      · refine go (us := []) c1 c2 c3 (by simp [repL]) (by simp) (by rw [hxe]; rfl) (fun n hn => ?_) hK
        have hn : n = 0 := by simpa using hn
        subst hn
        rw [hxe]
        cases a2 with
        | none => simp [Builtin.firstCells, flat]
        | some ad => simp [Builtin.firstCells, flat, loadCells, loadCellsFrom]
      · obtain ⟨us, q1, q2, q3, q4⟩ := repRows_inv hrows
        have hs2 : sz2 = s := by
          cases ys with
          | nil => exact absurd rfl hne
          | cons y ys => rw [← q2 y (List.mem_cons_self ..), c3 y (List.mem_cons_self ..)]
        subst hs2
        refine go (us := us) c1 c2 c3 q1 q3 (by rw [hxe]; rfl) (fun n hn => ?_) hK
        rw [hxe]
        have hul := repL_length q1
        have hrg := rangeAt_flat (fun u hu => (q3 u hu).1) q4
        refine run_firstCells_some (P := P) w sz2 n ⟨b2, off2, none⟩ ys.length c (flat (us.take n)) ?_ (fun j u hj => ?_)
        · rw [flat_length (fun u hu => (q3 u (List.mem_of_mem_take hu)).1), List.length_take, Nat.min_eq_left (by omega)]
        · rw [Addr.add_mid]
          rw [← flat_take (fun u hu => (q3 u hu).1) (by omega)] at hj
          rw [List.getElem?_take] at hj
          split at hj
          · exact hrg j u hj
          · cases hj
    ·
      rename_i l
      split at hc
      case h_2 => exact hc.elim
      split at hc
      case h_2 => exact hc.elim
      rename_i hb1
      have hs1 : s = 1 := Nat.eq_of_beq_eq_true hb1
      obtain ⟨⟨c1, c2⟩, hK⟩ := hc
      simp only [AV.rep, D.rep] at hxv
      have hlen : (u8s l).length = l.length := by simp [u8s]
      have key : ∀ l : List UInt8, repL w (Xof X0 J) (u8s l) (l.map fun c => Value.int .u8 (c.toNat : Int)) [] := by
        intro l
        induction l with
        | nil => simp [u8s, repL]
        | cons c l ih =>
          simp only [u8s, List.map_cons, repL, D.rep]
          exact ⟨_, _, [], [], rfl, rfl, ⟨rfl, rfl⟩, ih⟩
      refine go (us := l.map fun c => Value.int .u8 (c.toNat : Int)) c1 c2 ?_ (key l) ?_ ?_ (fun n hn => ?_) hK
      · intro y hy
        simp only [u8s, List.mem_map] at hy
        obtain ⟨c, _, rfl⟩ := hy
        rw [hs1]; rfl
      · intro u hu'
        simp only [List.mem_map] at hu'
        obtain ⟨c, _, rfl⟩ := hu'
        rw [hs1]
        exact ⟨rfl, by simp [Value.cells, Value.oneCell']⟩
      · rw [hxv.1, hlen]; simp [Builtin.lenOf, ByteArray.size]
      · rw [hxv.1, ← List.map_take, flat_ints]
        simp [Builtin.firstCells]
    · exact hc.elim
  split at hc
  · rename_i k s lo hi x
    refine main (k := k) (s := s) (lo := lo) (hi := hi) rfl (fun u hu' xs hob hlo hhi => ?_) hc
    simp only [AV.rep] at hu'
    obtain ⟨p, a0, n0, c0, a1, c1, hp, hpv, q1, q2, q3, hv, q4, q5⟩ := hu'
    exact ⟨p, a1, c1, hp, hv, fun h => (q5 h).2⟩
  · rename_i k x
    split at hc
    case h_2 => exact hc.elim
    rename_i s xs hob0
    refine main (k := k) (s := s) (lo := 0) (hi := xs.length) rfl (fun u hu' xs' hob hlo hhi => ?_) hc
    rw [hob0] at hob
    cases hob
    simp only [AV.rep] at hu'
    obtain ⟨p, hp, hv, _⟩ := hu'
    obtain ⟨p', hp', g0, a0, c0, g1, g2, g3⟩ := r.mem.ob _ _ hob0
    rw [hp] at hp'; cases hp'
    refine ⟨p, a0, c0, hp, by rw [hv, g1, Nat.sub_zero], fun h => ?_⟩
    rcases g3 with ⟨_, g3, _⟩ | ⟨_, ga, _⟩
    · subst g3; simp at h
    · rw [ga, Nat.zero_mul]
  · exact hc.elim
theorem op_sliceNil (tok : TOk P cx.T) (r : Rel X0 J st a w) (hd : ∀ d, o.dst = some d → d < a.tmps.size) (hn : Leads P X0 J a w K next) {t : TypeId} {x m : Operand} {lo hi : Option Operand} (hop : o.op = .slice t x lo hi (some m))
    (hc : evCmd P cx o.dst (opCmd cx.T o st) st K) : o.wp P a w next Q := by
  simp only [opCmd, hop] at hc
  split at hc
  case h_2 => exact hc.elim
  rename_i v hx
  split at hc
  case h_2 => exact hc.elim
  split at hc
  case h_2 => exact hc.elim
  rename_i h
  split at hc
  case h_2 => exact hc.elim
  rename_i hz
  simp only [Bool.and_eq_true] at hz
  obtain ⟨⟨hv, hh⟩, hm⟩ := hz
  have zero : ∀ {y : Operand}, isZero (st.ev y) = true → ∃ k, a.eval y = .int k 0 := by
    intro y hy
    unfold isZero at hy
    split at hy
    · rename_i k hk
      have := r.ev hk
      simp only [AV.rep, D.rep] at this
      exact ⟨k, this.1⟩
    · cases hy
  obtain ⟨k1, hh⟩ := zero hh
  obtain ⟨k2, hm⟩ := zero hm
  have hxv := r.ev hx
  obtain ⟨a0, n, cap, hxe, hcap⟩ : ∃ a0 n cap, a.eval x = .slice a0 n cap ∧ n ≤ cap := by
    unfold isSlice at hv
    split at hv
    · simp only [AV.rep, D.rep] at hxv; obtain ⟨_, _, a0, cap, h1, h2, _⟩ := hxv; exact ⟨a0, _, cap, h1, h2⟩
    · simp only [AV.rep] at hxv; exact ⟨none, 0, 0, hxv, Nat.le_refl _⟩
    · simp only [AV.rep] at hxv; obtain ⟨p, a0, n0, c0, a1, c1, _, _, _, _, _, h1, h2, _⟩ := hxv; exact ⟨a1, _, c1, h1, h2⟩
    · cases hv
  unfold sliceNil at hc
  split at hc
  case h_1 => exact hc.elim
  rename_i i hi
  have hti := tok t i hi
  subst hti
  split at hc
  case h_2 => exact hc.elim
  rename_i e hk
  have hu := kind_slice (P := P) (t := t) hk
  split at hc
  case h_2 => exact hc.elim
  rename_i ie hie
  have hte := tok e ie hie
  subst hte
  split at hc
  case h_2 => exact hc.elim
  rename_i hpos
  have hpos : 0 < P.cellsOf e := by simpa [Nat.blt_eq, tdOf] using hpos
  cases hdst : o.dst with
  | none => rw [hdst] at hc; exact hc.elim
  | some d =>
    rw [hdst] at hc
    simp only [evCmd] at hc
    split at hc
    case h_2 => exact hc.elim
    rename_i hfree
    rw [← hdst] at hc
    have hue : P.elem t = e := by simp [Program.elem, hu]
    have hu' : P.underlying t = some (.slice (P.elem t)) := by rw [hue]; exact hu
    obtain ⟨ei, hei⟩ : ∃ ei, P.info? e = some ei := by
      cases hq : P.info? e with
      | some ei => exact ⟨ei, rfl⟩
      | none => simp [Program.cellsOf, hq] at hpos
    have hs := run_sizeOf (P := P) w hei
    have hrun : (execOp a.eval o).run P w = .ok (.value (.slice a0 0 0)) w := by
      simp [execOp, hop, hxe, Option.map_none, Option.map_some, run_sliceAt_slice (P := P) w t _ _ _ _ hu', run_slice_any (P := P) w t a0 n cap hu', Instr.sliceBounds, Instr.sliceBound, asIntOf, hh, hm, hue, hs, sliced]
    refine wp_fresh r hd hn (p := ⟨0, [], .slice a0 0 0, false⟩) (Nat.le_add_right _ _) hfree (Same.refl w) hrun rfl (fun h => by cases h) ?_ ?_ hc
    · intro J' hJ'
      exact ⟨hpos, a0, 0, rfl, Nat.le_refl _, .inl ⟨rfl, rfl, rfl⟩⟩
    · intro J' hJ'
      simp only [AV.rep]
      exact ⟨_, hJ', rfl, rfl⟩
theorem shut_rel (r : Rel X0 J st a w) (k : Nat) : ∃ J', Rel X0 J' (st.shut k) a w ∧ Step J w J' w := by
  unfold St.shut
  split
  · rename_i sz xs els hob
    obtain ⟨els', ks, he⟩ : ∃ els' ks, absorbEls (absorbK (look · st.obj) 10) els = (els', ks) := ⟨_, _, rfl⟩
    rw [he]
    simp only
    split
    · rename_i hck
      simp only [Bool.and_eq_true, Bool.not_eq_true'] at hck
      obtain ⟨⟨hkk, hndk⟩, hbig⟩ := hck
      have hkks : k ∉ ks := fun hm => by rw [(has_iff k ks).2 hm] at hkk; cases hkk
      obtain ⟨p, hp, hr⟩ := r.mem.ob k _ hob
      obtain ⟨nest', hrows, hperm⟩ := opn_whole (fun key y ks q h1 h2 => absorbK_rep r.mem 10 key y ks q h1 h2) hr he
      obtain ⟨h0, cap, h1, h2, hh, h3, h4, h5, h6⟩ := hr
      have hndp := r.mem.nd k p hp
      rw [p.fp_hd hh] at hndp
      obtain ⟨nb, nn⟩ := List.nodup_cons.1 hndp
      have hgiv : ∀ b, b ∈ ks.flatMap (given J) → ∃ q pq, q ∈ ks ∧ J q = some pq ∧ b ∈ pq.fp := by
        intro b hb
        obtain ⟨q, hq, hbq⟩ := List.mem_flatMap.1 hb
        obtain ⟨pq, g1, g2⟩ := given_fp hbq
        exact ⟨q, pq, hq, g1, g2⟩
      have hgp : ∀ b, b ∈ ks.flatMap (given J) → b ∉ p.fp := by
        intro b hb hbp
        obtain ⟨q, pq, hq, hJq, hbq⟩ := hgiv b hb
        exact r.mem.sep q k pq p hJq hp (by rintro rfl; exact hkks hq) b hbq hbp
      have sub : ∀ b, b ∈ p.blk :: nest' → b ∈ p.fp ∨ b ∈ ks.flatMap (given J) := by
        intro b hb
        rcases List.mem_cons.1 hb with rfl | hb
        · exact .inl (p.blk_fp hh)
        · rcases List.mem_append.1 (hperm.mem_iff.1 hb) with h | h
          · exact .inl (p.nest_fp hh h)
          · exact .inr h
      obtain ⟨J', hJ'⟩ : ∃ J' : Nat → Option Place, J' = fun q => if q = k then some ⟨p.blk, nest', p.v, true⟩ else match without ks q with | some _ => J q | none => none := ⟨_, rfl⟩
      have Jk : J' k = some ⟨p.blk, nest', p.v, true⟩ := by rw [hJ']; simp
      have Jo : ∀ q, q ≠ k → J' q = match without ks q with | some _ => J q | none => none := fun q hq => by rw [hJ']; simp [hq]
      have hX : ∀ b, b < w.heap.size → ¬ Xof X0 J b → ¬ Xof X0 J' b := by
        rintro b hb hx (h0 | ⟨q, pl, hq, hb'⟩)
        · exact hx (.inl h0)
        · by_cases e1 : q = k
          · subst e1; rw [Jk] at hq; cases hq
            rcases sub b hb' with h | h
            · exact hx (.inr ⟨_, p, hp, h⟩)
            · obtain ⟨q, pq, _, hJq, hbq⟩ := hgiv b h
              exact hx (.inr ⟨q, pq, hJq, hbq⟩)
          · rw [Jo q e1] at hq
            split at hq
            · exact hx (.inr ⟨q, pl, hq, hb'⟩)
            · cases hq
      have hgen := r.mem.gen (J' := J') (w' := w) (f := without ks) (F := fun _ => False) (C := [k]) (obj' := fun q => look q ((st.ren (without ks)).set k (.arr sz true (baseXs xs els'))).obj)
        (fun q j h => without_id h) (fun q hq => without_small hbig hq)
        (fun q hq pl hpl' => by rw [List.mem_singleton.1 hq] at hpl' ⊢; rw [hp] at hpl'; cases hpl'; exact .inr ⟨_, Jk, rfl, rfl⟩)
        (fun q hq => Jo q fun h => hq (List.mem_singleton.2 h))
        (fun q hq => by
          rw [St.set_look, if_neg (fun h => hq (List.mem_singleton.2 h.symm))]
          show look q (renObj (without ks) st.obj) = _
          rw [look_renObj (fun q j h => without_id h)]
          cases without ks q <;> rfl)
        (fun q hq pl _ => by rw [List.mem_singleton.1 hq, St.set_look, if_pos rfl]; exact ⟨_, rfl⟩)
        (fun q hq ob hob' => by
          rw [List.mem_singleton.1 hq] at hob' ⊢
          rw [St.set_look, if_pos rfl] at hob'
          cases hob'
          refine ⟨_, Jk, h0, _, cap, by rw [baseXs_len]; exact h1, by rw [baseXs_len]; exact h2, .inr ⟨rfl, rfl, h3, ?_, fun h => by cases h⟩⟩
          exact repRows_mono hX _ _ _ _ _ (fun _ _ _ => rfl) (fun _ => rfl) hrows)
        (Kept.refl _ w) (fun _ h => h.elim)
        (fun q hq pl hpl' => by
          rw [List.mem_singleton.1 hq, Jk] at hpl'; cases hpl'
          show (p.blk :: nest').Nodup
          refine List.nodup_cons.2 ⟨fun hm => ?_, hperm.nodup_iff.2 (List.nodup_append.2 ⟨nn, given_nodup r.mem hndk, fun x hx y hy e => ?_⟩)⟩
          · rcases List.mem_append.1 (hperm.mem_iff.1 hm) with h | h
            · exact nb h
            · exact hgp _ h (p.blk_fp hh)
          · subst e; exact hgp _ hy (p.nest_fp hh hx))
        (fun q hq pl hpl' b hb => by
          rw [List.mem_singleton.1 hq, Jk] at hpl'; cases hpl'
          left
          rcases sub b hb with h | h
          · exact ⟨k, p, hp, .inr (List.mem_singleton.2 rfl), h⟩
          · obtain ⟨q, pq, hq', hJq, hbq⟩ := hgiv b h
            exact ⟨q, pq, hJq, .inl (without_none hq'), hbq⟩)
        (fun q q' pl pl' hq hq' _ _ hne => absurd ((List.mem_singleton.1 hq).trans (List.mem_singleton.1 hq').symm) hne)
      obtain ⟨m', tr, stp⟩ := hgen
      refine ⟨J', ⟨fun q u hq => ?_, m', r.defers⟩, stp⟩
      have hq : look q (renEnv (without ks) st.env) = some u := hq
      rw [look_renEnv] at hq
      cases hl : look q st.env with
      | none => rw [hl] at hq; cases hq
      | some u0 =>
        rw [hl] at hq
        cases hq
        obtain ⟨uu, hu, hr'⟩ := r.env q u0 hl
        exact ⟨uu, hu, tr u0 uu hr'⟩
    · exact ⟨J, r, Step.refl J w⟩
  · exact ⟨J, r, Step.refl J w⟩
theorem shuts_rel : ∀ (ks : List Nat) {st : St} {J : Nat → Option Place}, Rel X0 J st a w → ∃ J', Rel X0 J' (st.shuts ks) a w ∧ Step J w J' w
  | [], st, J, r => ⟨J, r, Step.refl J w⟩
  | k :: ks, st, J, r => by
    obtain ⟨J1, r1, s1⟩ := shut_rel r k
    obtain ⟨J2, r2, s2⟩ := shuts_rel ks r1
    exact ⟨J2, r2, s1.trans s2⟩
end
end Go.Pm
namespace Go.Pm
open Go
set_option linter.unusedVariables false
variable {P : Program}
theorem ba_beq (l k : List UInt8) : ((⟨l.toArray⟩ : ByteArray) == ⟨k.toArray⟩) = decide (l = k) := by
  rw [Bool.eq_iff_iff, MapKept.bytes_beq, decide_eq_true_iff]
  exact ⟨fun h => by simpa using congrArg (fun b : ByteArray => b.data.toList) h, fun h => by rw [h]⟩
theorem find_skip {l : List UInt8} : ∀ {es : List (List UInt8 × D)} {w : World} {X : Nat → Prop} {ents : List MapEntry} (i : Nat), findE l es = none → mpRep w X es ents → Instr.findNow .string (.string ⟨l.toArray⟩) ents i = some none
  | [], w, X, ents, i, _, h => by simp only [mpRep] at h; subst h; rfl
  | (k, x) :: es, w, X, ents, i, hf, h => by
    simp only [mpRep] at h
    obtain ⟨e, l', rfl, hk, _, hr⟩ := h
    simp only [findE] at hf
    split at hf
    · cases hf
    · rename_i hne
      have hne := of_decide_eq_false hne
      simp only [Instr.findNow, hk, Instr.sameNow, ba_beq, decide_eq_false (Ne.symm hne)]
      exact find_skip (i + 1) hf hr
theorem find_hit {l : List UInt8} {y : D} : ∀ {es : List (List UInt8 × D)} {w : World} {X : Nat → Prop} {ents : List MapEntry} (i : Nat), findE l es = some y → mpRep w X es ents → ∃ j v, Instr.findNow .string (.string ⟨l.toArray⟩) ents i = some (some (j, v)) ∧ y.rep w X v []
  | [], w, X, ents, i, hf, h => by simp only [findE] at hf; cases hf
  | (k, x) :: es, w, X, ents, i, hf, h => by
    simp only [mpRep] at h
    obtain ⟨e, l', rfl, hk, hx, hr⟩ := h
    simp only [findE] at hf
    split at hf
    · rename_i he
      have he := of_decide_eq_true he
      cases hf
      subst he
      exact ⟨i, e.val, by simp [Instr.findNow, hk, Instr.sameNow, ba_beq], hx⟩
    · rename_i hne
      have hne := of_decide_eq_false hne
      simp only [Instr.findNow, hk, Instr.sameNow, ba_beq, decide_eq_false (Ne.symm hne)]
      exact find_hit (i + 1) hf hr
theorem mpRep_push {w : World} {X : Nat → Prop} {l : List UInt8} {y : D} {e : MapEntry} (hk : e.key = .string ⟨l.toArray⟩) (hv : y.rep w X e.val []) : ∀ {es : List (List UInt8 × D)} {ents : List MapEntry}, mpRep w X es ents → mpRep w X (es ++ [(l, y)]) (ents ++ [e])
  | [], ents, h => by simp only [mpRep] at h; subst h; exact ⟨e, [], rfl, hk, hv, rfl⟩
  | (k, x) :: es, ents, h => by
    simp only [mpRep] at h
    obtain ⟨e1, l', rfl, h1, h2, hr⟩ := h
    exact ⟨e1, l' ++ [e], rfl, h1, h2, mpRep_push hk hv hr⟩
theorem isMapS_of {T : List TD} (tok : TOk P T) {t : TypeId} (h : isMapS T t = true) : ∃ k e, P.underlying t = some (.map k e) ∧ P.underlying k = some .string := by
  unfold isMapS at h
  split at h
  · rename_i i hi
    have hk := tok t i hi
    split at h
    · rename_i k e hkind
      split at h
      · rename_i ik hik
        have hkk := tok k ik hik
        split at h
        · rename_i hs
          refine ⟨k, e, ?_, ?_⟩
          · rw [hk] at hkind
            simp only [tdOf, kindOf] at hkind
            split at hkind <;> first | (split at hkind <;> cases hkind) | cases hkind
            assumption
          · rw [hkk] at hs
            simp only [tdOf, kindOf] at hs
            split at hs <;> first | (split at hs <;> cases hs) | cases hs
            assumption
        · cases h
      · cases h
    · cases h
  · cases h
theorem check_str {w : World} {k : TypeId} (hk : P.underlying k = some .string) (em : Bool) (s : ByteArray) : (Instr.checkKey em 10000 k (.string s)).run P w = .ok () w := by
  exact MapKept.run_checkKey hk (k := .string s) trivial em 9999
section
variable {cx : Cx} {X0 : Nat → Prop} {J : Nat → Option Place} {st : St} {a : Act} {w : World} {o : Oper} {K : St → Prop} {next : Act → World → Prop} {Q : Exit → Act → World → Prop}
theorem mapOf_rep (r : Rel X0 J st a w) {m : Operand} {k : Nat} {es : List (List UInt8 × D)} (h : mapOf st m = some (k, es)) : look k st.obj = some (.mp es) ∧ ∃ p ents clock, J k = some p ∧ p.hd = true ∧ p.nest = [] ∧ p.v = .map (some p.blk) ∧ a.eval m = .map (some p.blk) ∧ w.heap[p.blk]? = some (.map ents clock) ∧ mpRep w (Xof X0 J) es ents.toList := by
  unfold mapOf at h
  split at h
  · rename_i j hm
    split at h
    · rename_i es' ho
      cases h
      obtain ⟨p, hp, hh, hn, hv, ents, clock, hc, hr⟩ := r.mem.ob _ _ ho
      have := r.ev hm
      simp only [AV.rep] at this
      obtain ⟨p', hp', hv', _⟩ := this
      rw [hp] at hp'; cases hp'
      exact ⟨ho, p, ents, clock, hp, hh, hn, hv, hv'.trans hv, hc, hr⟩
    · cases h
  · cases h
theorem op_makeMap (tok : TOk P cx.T) (r : Rel X0 J st a w) (hd : ∀ d, o.dst = some d → d < a.tmps.size) (hn : Leads P X0 J a w K next) {t : TypeId} {rs : Option Operand} (hop : o.op = .makeMap t rs)
    (hc : evCmd P cx o.dst (opCmd cx.T o st) st K) : o.wp P a w next Q := by
  simp only [opCmd, hop] at hc
  split at hc
  case h_2 => exact hc.elim
  split at hc
  case h_2 => exact hc.elim
  rename_i hm
  cases hdst : o.dst with
  | none => rw [hdst] at hc; exact hc.elim
  | some d =>
    have h2 : look (10000 + d) st.obj = none ∧ K ((st.set (10000 + d) (.mp [])).put o.dst (.own (10000 + d))) := by
      rw [hdst] at hc ⊢
      simp only [evCmd] at hc
      split at hc
      · rename_i h0; exact ⟨h0, hc⟩
      · exact hc.elim
    obtain ⟨hfree, hK⟩ := h2
    refine wp_fresh r hd hn (p := ⟨w.heap.size, [], .map (some w.heap.size), true⟩) (Nat.le_add_right _ _) hfree (Same.push w (.map #[] 0)) (u := .map (some w.heap.size)) ?_ rfl (fun _ => Nat.le_refl _) ?_ ?_ hK
    · simp [execOp, hop, Instr.makeMap]
    · intro J' hJ'
      exact ⟨rfl, rfl, rfl, #[], 0, heap_push w _, rfl⟩
    · intro J' hJ'
      simp only [AV.rep]
      exact ⟨_, hJ', rfl, rfl⟩
theorem op_lookup (tok : TOk P cx.T) (r : Rel X0 J st a w) (hd : ∀ d, o.dst = some d → d < a.tmps.size) (hn : Leads P X0 J a w K next) {t : TypeId} {m x : Operand} {ok : Bool} (hop : o.op = .lookup t m x ok)
    (hc : evCmd P cx o.dst (opCmd cx.T o st) st K) : o.wp P a w next Q := by
  simp only [opCmd, hop] at hc
  split at hc
  case h_2 => exact hc.elim
  rename_i hm
  split at hc
  case h_2 => exact hc.elim
  split at hc
  case h_2 => exact hc.elim
  rename_i k es hmo
  split at hc
  case h_2 => exact hc.elim
  rename_i l hx
  split at hc
  case h_2 => exact hc.elim
  rename_i v hf
  obtain ⟨kt, et, ht, hks⟩ := isMapS_of tok hm
  obtain ⟨ho, p, ents, clock, hp, hh, hnn, hv, hev, hcell, hr⟩ := mapOf_rep r hmo
  have hxv := r.ev hx
  simp only [AV.rep, D.rep] at hxv
  obtain ⟨j, u, hnow, hu⟩ := find_hit 0 hf hr
  refine wp_val r hd hn hc (u := u) (w' := w) ?_ (Same.refl w) (by simpa only [AV.rep] using hu)
  simp [execOp, hop, hev, hxv.1, Instr.lookup, run_underlying ht, MapKept.run_getObj_map hcell, check_str hks, MapKept.run_findKey hks hnow, Result.andThen]
theorem op_mapUpdate (tok : TOk P cx.T) (r : Rel X0 J st a w) (hd : ∀ d, o.dst = some d → d < a.tmps.size) (hn : Leads P X0 J a w K next) {t : TypeId} {m x y : Operand} (hop : o.op = .mapUpdate t m x y)
    (hc : evCmd P cx o.dst (opCmd cx.T o st) st K) : o.wp P a w next Q := by
  simp only [opCmd, hop] at hc
  split at hc
  case h_2 => exact hc.elim
  rename_i hm
  split at hc
  case h_2 => exact hc.elim
  rename_i k es hmo
  split at hc
  case h_2 => exact hc.elim
  rename_i l hx
  split at hc
  case h_2 => exact hc.elim
  rename_i v hy
  split at hc
  case h_2 => exact hc.elim
  rename_i hf
  obtain ⟨kt, et, ht, hks⟩ := isMapS_of tok hm
  obtain ⟨ho, p, ents, clock, hp, hh, hnn, hv, hev, hcell, hr⟩ := mapOf_rep r hmo
  have hxv := r.ev hx
  have hyv := r.ev hy
  simp only [AV.rep, D.rep] at hxv hyv
  have hnow := find_skip 0 hf hr
  have hb : p.blk < w.heap.size := (Array.getElem?_eq_some_iff.1 hcell).1
  have hkept : Kept (· = p.blk) w { w with heap := w.heap.setIfInBounds p.blk (.map (ents.push { key := .string ⟨l.toArray⟩, val := a.eval y, born := clock }) (clock + 1)) } :=
    ⟨rfl, rfl, rfl, by simp, fun b hb hne => (MapKept.heap_set hcell).2 b hne⟩
  refine wp_upd r hd hn (w1 := { w with heap := w.heap.setIfInBounds p.blk (.map (ents.push { key := .string ⟨l.toArray⟩, val := a.eval y, born := clock }) (clock + 1)) }) hp hh ?_ hkept ?_ hc
  · simp [execOp, hop, hev, hxv.1, Instr.mapUpdate, run_underlying ht, MapKept.run_getObj_map hcell, check_str hks, MapKept.run_findKey hks hnow, MapKept.run_setObj_map _ hcell, Result.andThen]
  · refine ⟨hh, hnn, hv, _, _, (MapKept.heap_set hcell).1, ?_⟩
    have hA : Agree w { w with heap := w.heap.setIfInBounds p.blk (.map (ents.push { key := .string ⟨l.toArray⟩, val := a.eval y, born := clock }) (clock + 1)) } (Xof X0 J) [] := fun b hb hx => hkept.block b hb fun e => by
      rcases hx with h | h
      · cases h
      · exact h (.inr ⟨k, p, hp, e ▸ p.blk_fp hh⟩)
    rw [Array.toList_push]
    exact mpRep_push rfl (D.rep_mono (fun _ _ hx => hx) v _ _ hA hyv) (mpRep_mono (fun _ _ hx => hx) hA hr)
end
end Go.Pm
namespace Go.Pm
open Go
set_option linter.unusedVariables false
variable {P : Program}
section
variable {cx : Cx} {X0 : Nat → Prop} {J : Nat → Option Place} {st : St} {a : Act} {w : World} {o : Oper} {K : St → Prop} {next : Act → World → Prop} {Q : Exit → Act → World → Prop}
theorem op_sound (tok : TOk P cx.T) (r : Rel X0 J st a w) (hd : ∀ d, o.dst = some d → d < a.tmps.size) (hn : Leads P X0 J a w K next)
    (hc : evCmd P cx o.dst (opCmd cx.T o st) st K) : o.wp P a w next Q := by
  cases hop : o.op with
  | move x => exact op_move r hd hn (.inl hop) hc
  | assign x => exact op_move r hd hn (.inr hop) hc
  | pick c x y => exact op_pick r hd hn hop hc
  | nilCheck x => exact op_nilCheck r hd hn hop hc
  | extract x i => exact op_extract r hd hn hop hc
  | makeFunc f x y => exact op_makeFunc r hd hn hop hc
  | unOp p t x => exact op_unOp r hd hn hop hc
  | load t x => exact op_load tok r hd hn hop hc
  | field t x f => exact op_field tok r hd hn hop hc
  | fieldAddr t x f => exact op_fieldAddr tok r hd hn hop hc
  | index t x j => exact op_index tok r hd hn hop hc
  | indexAddr t x j => exact op_indexAddr tok r hd hn hop hc
  | slice t x lo hi mx => cases mx with
    | none => exact op_slice tok r hd hn hop hc
    | some m => exact op_sliceNil tok r hd hn hop hc
  | binOp p t x y yt => exact op_binOp tok r hd hn hop hc
  | alloc t => exact op_alloc tok r hd hn hop hc
  | box t x => exact op_box r hd hn hop hc
  | store t x y => exact op_store tok r hd hn hop hc
  | buildSlice t n ps => exact op_buildSlice tok r hd hn hop hc
  | makeSlice t x y => exact op_makeSlice tok r hd hn hop hc
  | convert s d x => exact op_convert r hd hn tok hop hc
  | build t ps => exact op_build r hd hn tok hop hc
  | makeMap t x => exact op_makeMap tok r hd hn hop hc
  | lookup t m x k => exact op_lookup tok r hd hn hop hc
  | mapUpdate t m x y => exact op_mapUpdate tok r hd hn hop hc
  | call c =>
    obtain ⟨callee, args, ts⟩ := c
    cases callee with
    | value f => exact op_call r hd hn hop rfl hc
    | builtin b =>
      have hc' : evCmd P cx o.dst (builtinC cx.T st b ts.toList args.toList) st K := by simp only [opCmd, hop] at hc; exact hc
      cases b with
      | len => exact op_len r hd hn tok hop hc'
      | append => exact op_append r hd hn tok hop hc'
      | min => exact op_min r hd hn hop (.inl rfl) hc'
      | max => exact op_min r hd hn hop (.inr rfl) hc'
      | copy => exact op_copy tok r hd hn hop hc'
      | _ => simp only [builtinC] at hc'; split at hc' <;> simp only [evCmd] at hc'
    | invoke x n => simp only [opCmd, hop, evCmd] at hc
  | _ => simp only [opCmd, hop, evCmd] at hc
theorem rep_undef {X : Nat → Prop} : (AV.tup []).rep w X J undef := by
  simp only [AV.rep]; exact ⟨#[], rfl, by simp [AV.repL]⟩
theorem Step.refl' (J : Nat → Option Place) (w : World) : Step J w J w := Step.refl J w
def evOne (P : Program) (cx : Cx) (all : List Oper) (o : Oper) (K : St → Prop) (st : St) : Prop :=
  match o.guard with
  | none => evCmd P cx o.dst (opCmd cx.T o st) st K
  | some (j, want) => match all[j]? with
    | some oj => match oj.dst with
      | some t => match look t st.env with
        | some (.d (.b x)) => (match want with
          | true => (match x with
            | true => evCmd P cx o.dst (opCmd cx.T o st) st K
            | false => K (st.put o.dst (.tup [])))
          | false => (match x with
            | true => K (st.put o.dst (.tup []))
            | false => evCmd P cx o.dst (opCmd cx.T o st) st K))
        | some (.tup []) => K (st.put o.dst (.tup []))
        | _ => False
      | none => False
    | none => False
theorem one_sound (tok : TOk P cx.T) (r : Rel X0 J st a w) (hd : ∀ d, o.dst = some d → d < a.tmps.size) (hn : Leads P X0 J a w K next) {ops : Array Oper} {i : Nat} (hi : ops[i]? = some o)
    (hc : evOne P cx ops.toList o K st) : wpOp P ops Q i next a w := by
  have hskip : K (st.put o.dst (.tup [])) → next (a.put o.dst undef) w := fun hK =>
    hn _ J _ w hK (r.put hd rep_undef) Act.put_size (Step.refl J w)
  unfold wpOp
  rw [hi]
  simp only
  cases hg : o.guard with
  | none =>
    have : Region.wanted o (yielded ops a.tmps) = true := by simp [Region.wanted, hg]
    rw [if_pos this]
    simp only [evOne, hg] at hc
    exact .inl (op_sound tok r hd hn hc)
  | some gw =>
    obtain ⟨j, want⟩ := gw
    simp only [evOne, hg] at hc
    split at hc
    case h_2 => exact hc.elim
    rename_i oj hoj
    split at hc
    case h_2 => exact hc.elim
    rename_i t ht
    have hj : ops[j]? = some oj := by simpa using hoj
    split at hc
    · rename_i x hx
      obtain ⟨u, hu, hr⟩ := r.env t _ hx
      simp only [AV.rep, D.rep] at hr
      have hy : yielded ops a.tmps j = some x := by simp [yielded, hj, ht, hu, hr.1]
      have hw : Region.wanted o (yielded ops a.tmps) = (x == want) := by simp [Region.wanted, hg, hy]
      rw [hw]
      cases want <;> cases x <;> simp only at hc
      · exact .inl (op_sound tok r hd hn hc)
      · exact hskip hc
      · exact hskip hc
      · exact .inl (op_sound tok r hd hn hc)
    · rename_i hx
      obtain ⟨u, hu, hr⟩ := r.env t _ hx
      simp only [AV.rep, AV.repL] at hr
      obtain ⟨vs, rfl, _⟩ := hr
      have hy : yielded ops a.tmps j = none := by simp [yielded, hj, ht, hu]
      have hw : Region.wanted o (yielded ops a.tmps) = false := by simp [Region.wanted, hg, hy]
      rw [hw]
      exact hskip hc
    · exact hc.elim
def evOneX (P : Program) (cx : Cx) (all : List Oper) (o : Oper) (K : St → Prop) (st : St) : Prop :=
  match o.guard with
  | none => evOp P cx o st K
  | some (j, want) => match all[j]? with
    | some oj => match oj.dst with
      | some t => match look t st.env with
        | some (.d (.b x)) => (match want with
          | true => (match x with
            | true => evOp P cx o st K
            | false => K (st.put o.dst (.tup [])))
          | false => (match x with
            | true => K (st.put o.dst (.tup []))
            | false => evOp P cx o st K))
        | some (.tup []) => K (st.put o.dst (.tup []))
        | _ => False
      | none => False
    | none => False
theorem Leads.then {J' : Nat → Option Place} {a' : Act} {w' : World} (hs : a'.tmps.size = a.tmps.size) (s : Step J w J' w') (h : Leads P X0 J a w K next) : Leads P X0 J' a' w' K next :=
  fun st2 J2 a2 w2 hK hr h2 s2 => h st2 J2 a2 w2 hK hr (h2.trans hs) (s.trans s2)
theorem evOp_sound (tok : TOk P cx.T) (r : Rel X0 J st a w) (hd : ∀ d, o.dst = some d → d < a.tmps.size) (hn : Leads P X0 J a w K next) (hc : evOp P cx o st K) : o.wp P a w next Q := by
  unfold evOp at hc
  split at hc
  · exact op_sound tok r hd hn (ev16_to _ _ _ _ hc)
  · split at hc
    · exact op_sound tok r hd hn (ev16_to _ _ _ _ hc)
    · rw [St.force_eq] at hc
      obtain ⟨J', r', s⟩ := shuts_rel (wholeFor o st) r
      exact op_sound tok r' hd (hn.then rfl s) (ev16_to _ _ _ _ hc)
theorem oneX_sound (tok : TOk P cx.T) (r : Rel X0 J st a w) (hd : ∀ d, o.dst = some d → d < a.tmps.size) (hn : Leads P X0 J a w K next) {ops : Array Oper} {i : Nat} (hi : ops[i]? = some o)
    (hc : evOneX P cx ops.toList o K st) : wpOp P ops Q i next a w := by
  have hskip : K (st.put o.dst (.tup [])) → next (a.put o.dst undef) w := fun hK =>
    hn _ J _ w hK (r.put hd rep_undef) Act.put_size (Step.refl J w)
  unfold wpOp
  rw [hi]
  simp only
  cases hg : o.guard with
  | none =>
    have : Region.wanted o (yielded ops a.tmps) = true := by simp [Region.wanted, hg]
    rw [if_pos this]
    simp only [evOneX, hg] at hc
    exact .inl (evOp_sound tok r hd hn hc)
  | some gw =>
    obtain ⟨j, want⟩ := gw
    simp only [evOneX, hg] at hc
    split at hc
    case h_2 => exact hc.elim
    rename_i oj hoj
    split at hc
    case h_2 => exact hc.elim
    rename_i t ht
    have hj : ops[j]? = some oj := by simpa using hoj
    split at hc
    · rename_i x hx
      obtain ⟨u, hu, hr⟩ := r.env t _ hx
      simp only [AV.rep, D.rep] at hr
      have hy : yielded ops a.tmps j = some x := by simp [yielded, hj, ht, hu, hr.1]
      have hw : Region.wanted o (yielded ops a.tmps) = (x == want) := by simp [Region.wanted, hg, hy]
      rw [hw]
      cases want <;> cases x <;> simp only at hc
      · exact .inl (evOp_sound tok r hd hn hc)
      · exact hskip hc
      · exact hskip hc
      · exact .inl (evOp_sound tok r hd hn hc)
    · rename_i hx
      obtain ⟨u, hu, hr⟩ := r.env t _ hx
      simp only [AV.rep, AV.repL] at hr
      obtain ⟨vs, rfl, _⟩ := hr
      have hy : yielded ops a.tmps j = none := by simp [yielded, hj, ht, hu]
      have hw : Region.wanted o (yielded ops a.tmps) = false := by simp [Region.wanted, hg, hy]
      rw [hw]
      exact hskip hc
    · exact hc.elim
theorem evOps_cons {all rest : List Oper} : evOps P cx all K (o :: rest) st = evOneX P cx all o (evOps P cx all K rest) st := by
  cases hg : o.guard with
  | none => simp only [evOps, evOneX, hg]
  | some gw => obtain ⟨j, want⟩ := gw; simp only [evOps, evOneX, hg]; rfl
theorem ops_sound (tok : TOk P cx.T) {ops : Array Oper} {n : Nat} (hdst : ∀ o ∈ ops.toList, ∀ d, o.dst = some d → d < n) :
    ∀ (rest : List Oper) (i : Nat), ops.toList.drop i = rest → ∀ (st : St) (a : Act) (w : World) (J : Nat → Option Place), Rel X0 J st a w → a.tmps.size = n →
      Leads P X0 J a w K (Q .normal) → evOps P cx ops.toList K rest st → wpOps P ops Q (List.range' i rest.length) a w
  | [], i, hi, st, a, w, J, r, hs, hn, hc => by
    simp only [List.length_nil, List.range'_zero, wpOps]
    exact hn st J a w hc r rfl (Step.refl J w)
  | o :: rest, i, hi, st, a, w, J, r, hs, hn, hc => by
    have ho : ops.toList[i]? = some o := by
      have := congrArg (fun l => l[0]?) hi
      simpa [List.getElem?_drop] using this
    have hm : o ∈ ops.toList := List.mem_of_getElem? ho
    have hrest : ops.toList.drop (i + 1) = rest := by
      rw [← List.drop_drop, hi]; rfl
    rw [List.length_cons, List.range'_succ, wpOps_cons]
    rw [evOps_cons] at hc
    refine oneX_sound tok r (fun d hd => hs ▸ hdst o hm d hd) ?_ (by simpa using ho) hc
    intro st' J' a' w' hK hr h1 h2
    exact ops_sound tok hdst rest (i + 1) hrest st' a' w' J' hr (h1.trans hs) (hn.then h1 h2) hK
theorem region_sound (tok : TOk P cx.T) (r : Rel X0 J st a w) {ops : Array Oper} (hdst : ∀ o ∈ ops.toList, ∀ d, o.dst = some d → d < a.tmps.size) {id : Nat}
    (hn : Leads P X0 J a w K (Q .normal)) (hc : evOps P cx ops.toList K ops.toList st) : (Code.region id ops false).wp P Q a w := by
  have := ops_sound tok hdst ops.toList 0 rfl st a w J r rfl hn hc
  refine wp_region ?_
  rw [List.range_eq_range']
  simpa using this
def edgeOk (done : List Nat) : List Edge → Bool
  | [] => true
  | e :: r => match Region.binds .any e with
    | false => edgeOk done r
    | true => match has e.on done with | true => edgeOk done r | false => false
def readyL (done : List Nat) : Nat → List Oper → List Nat
  | _, [] => []
  | i, o :: r => match has i done with
    | true => readyL done (i + 1) r
    | false => match edgeOk done o.after.toList with | true => i :: readyL done (i + 1) r | false => readyL done (i + 1) r
structure Both (a b : Prop) : Prop where
  one : a
  two : b
def evAll (f : Nat → Prop) : List Nat → Prop
  | [] => True
  | i :: is => match is with | [] => f i | _ :: _ => Both (f i) (evAll f is)
def evAny (P : Program) (cx : Cx) (all : List Oper) (K : St → Prop) : Nat → List Nat → St → Prop
  | 0, done, st => match readyL done 0 all with | [] => K st | _ :: _ => False
  | n + 1, done, st => match readyL done 0 all with
    | [] => K st
    | i :: is => evAll (fun i => match all[i]? with | some o => evOne P cx all o (evAny P cx all K n (i :: done)) st | none => False) (i :: is)
theorem evAll_ok {f : Nat → Prop} : ∀ {l : List Nat}, evAll f l → ∀ i, i ∈ l → f i
  | [], _, i, h => by cases h
  | [j], hf, i, h => by rw [List.mem_singleton.1 h]; exact hf
  | j :: k :: l, hf, i, h => by
    have hf' : Both (f j) (evAll f (k :: l)) := hf
    rcases List.mem_cons.1 h with rfl | h
    · exact hf'.one
    · exact evAll_ok hf'.two i h
theorem edgeOk_iff {done : List Nat} : ∀ {l : List Edge}, edgeOk done l = true ↔ ∀ e, e ∈ l → Region.binds .any e = true → has e.on done = true
  | [] => by simp [edgeOk]
  | e :: l => by
    simp only [edgeOk]
    cases hb : Region.binds .any e with
    | false =>
      simp only
      rw [edgeOk_iff]
      constructor
      · intro h x hx hxb
        rcases List.mem_cons.1 hx with rfl | hx
        · rw [hb] at hxb; cases hxb
        · exact h x hx hxb
      · exact fun h x hx => h x (List.mem_cons_of_mem _ hx)
    | true =>
      simp only
      cases hd : has e.on done with
      | false => simp only [Bool.false_eq_true, false_iff]; intro h; rw [h e (List.mem_cons_self ..) hb] at hd; cases hd
      | true =>
        simp only
        rw [edgeOk_iff]
        constructor
        · intro h x hx hxb
          rcases List.mem_cons.1 hx with rfl | hx
          · exact hd
          · exact h x hx hxb
        · exact fun h x hx => h x (List.mem_cons_of_mem _ hx)
theorem mem_readyL {done : List Nat} {i : Nat} : ∀ {l : List Oper} {j : Nat}, i ∈ readyL done j l ↔ ∃ m o, i = j + m ∧ l[m]? = some o ∧ has i done = false ∧ edgeOk done o.after.toList = true
  | [], j => by simp [readyL]
  | o :: l, j => by
    have key : i ∈ readyL done j (o :: l) ↔ (i = j ∧ has i done = false ∧ edgeOk done o.after.toList = true) ∨ i ∈ readyL done (j + 1) l := by
      simp only [readyL]
      cases hd : has j done with
      | true => simp only; constructor
                · exact .inr
                · rintro (⟨rfl, h, _⟩ | h)
                  · rw [hd] at h; cases h
                  · exact h
      | false =>
        simp only
        cases he : edgeOk done o.after.toList with
        | true =>
          simp only [List.mem_cons]
          constructor
          · rintro (rfl | h)
            · exact .inl ⟨rfl, hd, trivial⟩
            · exact .inr h
          · rintro (⟨rfl, _, _⟩ | h)
            · exact .inl rfl
            · exact .inr h
        | false =>
          simp only
          constructor
          · exact .inr
          · rintro (⟨_, _, h⟩ | h)
            · cases h
            · exact h
    rw [key, mem_readyL]
    constructor
    · rintro (⟨h1, h2, h3⟩ | ⟨m, o', h1, h2, h3, h4⟩)
      · exact ⟨0, o, by omega, rfl, h2, h3⟩
      · exact ⟨m + 1, o', by omega, by simpa using h2, h3, h4⟩
    · rintro ⟨m, o', h1, h2, h3, h4⟩
      cases m with
      | zero => simp at h2; subst h2; exact .inl ⟨by omega, h3, h4⟩
      | succ m => exact .inr ⟨m, o', by omega, by simpa using h2, h3, h4⟩
structure Booked (ops : Array Oper) (listed : Array Bool) (done : List Nat) : Prop where
  size : listed.size = ops.size
  get : ∀ k, listed.getD k false = has k done
theorem Booked.set {ops : Array Oper} {listed : Array Bool} {done : List Nat} (h : Booked ops listed done) {i : Nat} (hi : i < ops.size) : Booked ops (listed.setIfInBounds i true) (i :: done) := by
  refine ⟨by simp [h.size], fun k => ?_⟩
  simp only [has]
  by_cases e : i = k
  · subst e
    have : i < listed.size := by rw [h.size]; exact hi
    simp [this]
  · have hb : Nat.beq i k = false := Bool.eq_false_iff.2 fun hh => e (Nat.eq_of_beq_eq_true hh)
    rw [getD_set_ne false e, hb]; exact h.get k
theorem Booked.start (ops : Array Oper) : Booked ops (Array.replicate ops.size false) [] := by
  refine ⟨by simp, fun k => ?_⟩
  rw [Array.getD_eq_getD_getElem?, Array.getElem?_replicate]
  split <;> rfl
theorem Booked.ready {ops : Array Oper} {listed : Array Bool} {done : List Nat} (h : Booked ops listed done) (i : Nat) : i ∈ Region.ready .any ops listed ↔ i ∈ readyL done 0 ops.toList := by
  rw [mem_ready, mem_readyL]
  have hg : i < ops.size → listed.getD i true = has i done := by
    intro hi
    rw [← h.get i]
    have : i < listed.size := by rw [h.size]; exact hi
    simp [this]
  constructor
  · rintro ⟨h1, o, ho, h2⟩
    have hi : i < ops.size := (Array.getElem?_eq_some_iff.1 ho).1
    refine ⟨i, o, by omega, by simpa using ho, by rw [← hg hi]; exact h1, edgeOk_iff.2 fun e he hb => ?_⟩
    rw [← h.get]
    exact h2 e (Array.mem_toList_iff.1 he) hb
  · rintro ⟨m, o, hm, ho, h1, h2⟩
    have hm : m = i := by omega
    subst hm
    have ho' : ops[m]? = some o := by simpa using ho
    have hi : m < ops.size := (Array.getElem?_eq_some_iff.1 ho').1
    refine ⟨by rw [hg hi]; exact h1, o, ho', fun e he hb => ?_⟩
    rw [h.get]
    exact edgeOk_iff.1 h2 e (Array.mem_toList_iff.2 he) hb
theorem any_sound (tok : TOk P cx.T) {ops : Array Oper} {n : Nat} (hdst : ∀ o ∈ ops.toList, ∀ d, o.dst = some d → d < n) :
    ∀ (fuel : Nat) (listed : Array Bool) (done : List Nat), Booked ops listed done → ∀ (st : St) (a : Act) (w : World) (J : Nat → Option Place), Rel X0 J st a w → a.tmps.size = n →
      Leads P X0 J a w K (Q .normal) → evAny P cx ops.toList K fuel done st → wpAny P .any ops Q fuel listed a w
  | 0, listed, done, hb, st, a, w, J, r, hs, hn, hc => by
    simp only [evAny] at hc
    split at hc
    · rename_i hr
      refine ⟨?_, hn st J a w hc r rfl (Step.refl J w)⟩
      cases hrr : Region.ready .any ops listed with
      | nil => rfl
      | cons i is =>
        have := (hb.ready i).1 (by rw [hrr]; exact List.mem_cons_self ..)
        rw [hr] at this; cases this
    · exact hc.elim
  | fuel + 1, listed, done, hb, st, a, w, J, r, hs, hn, hc => by
    simp only [evAny] at hc
    split at hc
    · rename_i hr
      refine ⟨fun _ => hn st J a w hc r rfl (Step.refl J w), fun i hi => ?_⟩
      have := (hb.ready i).1 hi
      rw [hr] at this; cases this
    · rename_i i0 is hr
      have hne : i0 ∈ Region.ready .any ops listed := (hb.ready i0).2 (by rw [hr]; exact List.mem_cons_self ..)
      refine ⟨fun h => (by rw [h] at hne; cases hne), fun i hi => ?_⟩
      have hi' := (hb.ready i).1 hi
      rw [hr] at hi'
      have hci := evAll_ok hc i hi'
      split at hci
      · rename_i o ho
        have ho' : ops[i]? = some o := by simpa using ho
        have hm : o ∈ ops.toList := List.mem_of_getElem? ho
        refine one_sound tok r (fun d hd => hs ▸ hdst o hm d hd) ?_ ho' hci
        intro st' J' a' w' hK hr h1 h2
        exact any_sound tok hdst fuel _ _ (hb.set (Array.getElem?_eq_some_iff.1 ho').1) st' a' w' J' hr (h1.trans hs) (hn.then h1 h2) hK
      · exact hci.elim
theorem Step.drawn {J : Nat → Option Place} {w : World} {n : Nat} : Step J w J { w with drawn := n } := (Same.drawn w n).step J
theorem draw_sound (tok : TOk P cx.T) (hm : P.follows .mixedOrders = true) (r : Rel X0 J st a w) {ops : Array Oper} (hdst : ∀ o ∈ ops.toList, ∀ d, o.dst = some d → d < a.tmps.size) {id : Nat}
    (hn : Leads P X0 J a w K (Q .normal)) (hc : evAny P cx ops.toList K ops.size [] st) : (Code.region id ops true).wp P Q a w :=
  wp_region_any hm (any_sound tok hdst ops.size _ [] (Booked.start ops) st a _ J (r.same (Same.drawn w _)) rfl (hn.then rfl Step.drawn) hc)
end
end Go.Pm
namespace Go.Pm
open Go
set_option linter.unusedVariables false
variable {P : Program}
theorem evs_congr {s t : St} : ∀ {xs : List Operand}, (∀ x, x ∈ xs → s.ev x = t.ev x) → s.evs xs = t.evs xs
  | [], _ => rfl
  | x :: xs, h => by
    simp only [St.evs]
    rw [h x (List.mem_cons_self ..), evs_congr (xs := xs) fun y hy => h y (List.mem_cons_of_mem _ hy)]
theorem pairs_congr {s t : St} : ∀ {ps : List (Nat × Operand)}, (∀ x, x ∈ ps.map (·.2) → s.ev x = t.ev x) → pairs s ps = pairs t ps
  | [], _ => rfl
  | (j, x) :: ps, h => by
    simp only [pairs]
    rw [h x (by simp), pairs_congr (ps := ps) fun y hy => h y (List.mem_cons_of_mem _ hy)]
theorem opCmd_env {T : List TD} {o : Oper} {s t : St} (h : ∀ x, x ∈ o.op.operands.toList → s.ev x = t.ev x) (hk : ∀ k, look k s.obj = look k t.obj) : opCmd T o s = opCmd T o t := by
  have hf : (look · s.obj) = (look · t.obj) := funext hk
  cases hop : o.op with
  | call c =>
    obtain ⟨callee, args, ts⟩ := c
    simp only [hop, Op.operands, Call.operands] at h
    cases callee with
    | value f =>
      have h1 : s.ev f = t.ev f := h f (by simp)
      have h2 : s.evs args.toList = t.evs args.toList := evs_congr fun x hx => h x (by simp at hx ⊢; simp [hx])
      simp only [opCmd, hop, h1, h2]
    | builtin b =>
      have h2 : s.evs args.toList = t.evs args.toList := evs_congr fun x hx => h x (by simp at hx ⊢; simp [hx])
      simp only [opCmd, hop, builtinC, h2, hk]
    | invoke x n => simp only [opCmd, hop]
  | build ty ps =>
    simp only [hop, Op.operands] at h
    have h2 : pairs s ps.toList = pairs t ps.toList := pairs_congr fun x hx => h x (by simpa using hx)
    simp only [opCmd, hop, h2]
  | buildSlice ty n ps =>
    simp only [hop, Op.operands] at h
    have h2 : pairs s ps.toList = pairs t ps.toList := pairs_congr fun x hx => h x (by simpa using hx)
    simp only [opCmd, hop, h2, hf]
  | makeFunc f fi ca =>
    simp only [hop, Op.operands] at h
    have h2 : s.evs ca.toList = t.evs ca.toList := evs_congr fun x hx => h x (by simp at hx ⊢; simp [hx])
    simp only [opCmd, hop, h2]
  | slice ty x lo hi mx =>
    simp only [hop, Op.operands] at h
    have h1 : s.ev x = t.ev x := h x (by simp)
    have h2 : ∀ l, lo = some l → s.ev l = t.ev l := fun l hl => h l (by simp [hl])
    have h3 : ∀ l, hi = some l → s.ev l = t.ev l := fun l hl => h l (by simp [hl])
    have h4 : ∀ l, mx = some l → s.ev l = t.ev l := fun l hl => h l (by simp [hl])
    have hv : ∀ (ty : TypeId) (v : AV) (lo hi : Option AV), sliceV T s ty v lo hi = sliceV T t ty v lo hi := fun ty v lo hi => by unfold sliceV; rw [hf]
    cases mx with
    | some m =>
      cases lo with
      | none => cases hi with
        | none => simp only [opCmd, hop, h1]
        | some b => simp only [opCmd, hop, h1, h3 b rfl, h4 m rfl]
      | some a => simp only [opCmd, hop, h1]
    | none =>
    cases lo with
    | none => cases hi with
      | none => simp only [opCmd, hop, h1, hv]
      | some b => simp only [opCmd, hop, h1, h3 b rfl, hv]
    | some a => cases hi with
      | none => simp only [opCmd, hop, h1, h2 a rfl, hv]
      | some b => simp only [opCmd, hop, h1, h2 a rfl, h3 b rfl, hv]
  | convert a b x =>
    simp only [hop, Op.operands] at h
    have h1 : s.ev x = t.ev x := h x (by simp)
    simp only [opCmd, hop, h1, convC, hk]
  | store ty a v =>
    simp only [hop, Op.operands] at h
    have h1 : s.ev a = t.ev a := h a (by simp)
    have h2 : s.ev v = t.ev v := h v (by simp)
    simp only [opCmd, hop, h1, h2, hk]
  | _ =>
    simp only [hop, Op.operands] at h
    simp only [opCmd, hop]
    try (simp at h)
    try simp only [mapOf, h, hk]
def valOp : Op → Bool
  | .move _ | .assign _ | .pick .. | .nilCheck _ | .extract .. | .unOp .. | .load .. | .field .. | .fieldAddr .. | .index .. | .indexAddr .. | .binOp .. | .makeFunc .. | .build .. | .convert .. => true
  | .call c => match c.callee with | .builtin .len => true | _ => false
  | _ => false
theorem evs_refs {s : St} : ∀ {xs : List Operand} {vs : List AV}, s.evs xs = some vs → ∀ v, v ∈ vs → ∃ x, x ∈ xs ∧ s.ev x = some v
  | [], vs, h, v, hv => by cases h; cases hv
  | x :: xs, vs, h, v, hv => by
    simp only [St.evs] at h
    split at h
    case h_2 => cases h
    rename_i u hu
    split at h
    case h_2 => cases h
    rename_i l hl
    cases h
    rcases List.mem_cons.1 hv with rfl | hv
    · exact ⟨x, List.mem_cons_self .., hu⟩
    · obtain ⟨y, hy, h2⟩ := evs_refs hl v hv
      exact ⟨y, List.mem_cons_of_mem _ hy, h2⟩
theorem opCmd_far {T : List TD} {o : Oper} {s t : St} (hv : valOp o.op = true) (h : ∀ x, x ∈ o.op.operands.toList → s.ev x = t.ev x)
    (hr : ∀ x, x ∈ o.op.operands.toList → ∀ v, s.ev x = some v → ∀ k, k ∈ v.refs → look k s.obj = look k t.obj) : opCmd T o s = opCmd T o t := by
  rw [← opCmd_env (T := T) (o := o) (s := ⟨t.env, s.obj⟩) (t := s) (fun x hx => by
    rw [h x hx]; cases x <;> rfl) (fun _ => rfl)]
  have hr' : ∀ x, x ∈ o.op.operands.toList → ∀ v, t.ev x = some v → ∀ k, k ∈ v.refs → look k s.obj = look k t.obj := fun x hx v hv' => hr x hx v ((h x hx).trans hv')
  have he : ∀ x, (⟨t.env, s.obj⟩ : St).ev x = t.ev x := fun x => by cases x <;> rfl
  have hes : ∀ xs : List Operand, (⟨t.env, s.obj⟩ : St).evs xs = t.evs xs := fun xs => evs_congr fun x _ => he x
  have hps : ∀ ps : List (Nat × Operand), pairs ⟨t.env, s.obj⟩ ps = pairs t ps := fun ps => pairs_congr fun x _ => he x
  cases hop : o.op with
  | load ty a =>
    simp only [hop, Op.operands] at hr'
    have h1 := hr' a (by simp)
    simp only [opCmd, hop, he]
    split
    · rename_i i hi
      split
      · rename_i k off hx; rw [h1 _ hx k (by simp [AV.refs])]
      · rfl
      · rename_i k sz j off hx; rw [h1 _ hx k (by simp [AV.refs])]
      · rfl
    · rfl
  | indexAddr ty x j =>
    simp only [hop, Op.operands] at hr'
    have h1 := hr' x (by simp)
    simp only [opCmd, hop, he]
    split
    · rename_i i hi
      split
      · split
        · split
          · split
            · rfl
            · rename_i k hx; rw [h1 _ hx k (by simp [AV.refs])]
            · rfl
            · rfl
          · rfl
        · rfl
      · rfl
    · rfl
  | convert a b x =>
    simp only [hop, Op.operands] at hr'
    have h1 := hr' x (by simp)
    simp only [opCmd, hop, he]
    cases hx : t.ev x with
    | none => rfl
    | some v =>
      have h2 := h1 v hx
      cases v with
      | own k => simp only [convC]; rw [h2 k (by simp [AV.refs])]
      | d y => cases y <;> simp only [convC]
      | _ => simp only [convC]
  | call c =>
    obtain ⟨callee, args, ts⟩ := c
    cases callee with
    | value f => simp [valOp, hop] at hv
    | invoke x n => simp [valOp, hop] at hv
    | builtin b =>
      cases b with
      | len =>
        simp only [hop, Op.operands, Call.operands] at hr'
        simp only [opCmd, hop, builtinC, hes]
        cases hx : t.evs args.toList with
        | none => rfl
        | some vs =>
          have h2 : ∀ v, v ∈ vs → ∀ k, k ∈ v.refs → look k s.obj = look k t.obj := by
            intro v hv2 k hk
            obtain ⟨x, hx1, hx2⟩ := evs_refs hx v hv2
            exact hr' x (by simpa using hx1) v hx2 k hk
          simp only
          split
          · split
            · split
              · split
                · rfl
                · rfl
                · rename_i k
                  rw [h2 (.own k) (List.mem_cons_self ..) k (by simp [AV.refs])]
                · rfl
                · rfl
              · rfl
              · rfl
            · rfl
          · rfl
      | _ => simp [valOp, hop] at hv
  | move x => simp only [opCmd, hop, he]
  | assign x => simp only [opCmd, hop, he]
  | pick c x y => simp only [opCmd, hop, he]
  | nilCheck x => simp only [opCmd, hop, he]
  | extract x i => simp only [opCmd, hop, he]
  | unOp p ty x => simp only [opCmd, hop, he]
  | field ty x f => simp only [opCmd, hop, he]
  | fieldAddr ty x f => simp only [opCmd, hop, he]
  | index ty x j => simp only [opCmd, hop, he]
  | binOp p ty x y yt => simp only [opCmd, hop, he]
  | makeFunc f x y => simp only [opCmd, hop, hes]
  | build ty ps => simp only [opCmd, hop, hps]
  | _ => simp [valOp, hop] at hv
end Go.Pm
namespace Go.Pm
open Go
set_option linter.unusedVariables false
variable {P : Program}
def over (x : Option (Nat × AV)) (k : Nat) (o : Option AV) : Option AV := match x with | some (d, v) => if d = k then some v else o | none => o
structure Ext (x : Option (Nat × AV)) (s t : St) : Prop where
  env : ∀ k, look k t.env = over x k (look k s.env)
  obj : ∀ k, look k t.obj = look k s.obj
structure Far (prot : List Nat) (e : Nat) (s s' : St) : Prop where
  obj : ∀ k, k ∈ prot → look k s'.obj = look k s.obj
  env : ∀ t, t ≠ e → (∀ u, look t s.env = some u → ∀ k, k ∈ u.refs → k ∈ prot ∨ k < 10000) → look t s'.env = look t s.env
def closedIn (obj : List (Nat × Ob)) (prot : List Nat) : List Nat → Bool
  | [] => true
  | k :: r => match look k obj with
    | some o => match inside o.refs prot with | true => closedIn obj prot r | false => false
    | none => false
theorem closedIn_ok {obj : List (Nat × Ob)} {prot : List Nat} : ∀ {l : List Nat}, closedIn obj prot l = true → ∀ k, k ∈ l → ∃ o, look k obj = some o ∧ ∀ j, j ∈ o.refs → j ∈ prot
  | [], _, k, h => by cases h
  | j :: l, hh, k, h => by
    simp only [closedIn] at hh
    split at hh
    · rename_i o ho
      split at hh
      · rename_i hi
        rcases List.mem_cons.1 h with e | h
        · subst e; exact ⟨o, ho, inside_ok hi⟩
        · exact closedIn_ok hh k h
      · cases hh
    · cases hh
mutual
theorem AV.ren_id {f : Nat → Option Nat} : ∀ (v : AV), (∀ k, k ∈ v.refs → f k = some k) → v.ren f = v
  | .d _, _ => rfl
  | .c _, _ => rfl
  | .snil, _ => rfl
  | .rd _, _ => rfl
  | .bot, _ => rfl
  | .ptr k o, h => by simp only [AV.ren]; rw [h k (by simp [AV.refs])]
  | .eptr k s i o, h => by simp only [AV.ren]; rw [h k (by simp [AV.refs])]
  | .own k, h => by simp only [AV.ren]; rw [h k (by simp [AV.refs])]
  | .win k a b c, h => by simp only [AV.ren]; rw [h k (by simp [AV.refs])]
  | .agg cs, h => by simp only [AV.ren]; rw [renL_id cs h]
  | .tup cs, h => by simp only [AV.ren]; rw [renL_id cs h]
  | .fn g cs, h => by simp only [AV.ren]; rw [renL_id cs h]
theorem renL_id {f : Nat → Option Nat} : ∀ (vs : List AV), (∀ k, k ∈ refsL vs → f k = some k) → renL f vs = vs
  | [], _ => rfl
  | v :: vs, h => by
    simp only [renL]
    rw [AV.ren_id v (fun k hk => h k (by simp only [refsL]; exact List.mem_append_left _ hk)), renL_id vs (fun k hk => h k (by simp only [refsL]; exact List.mem_append_right _ hk))]
end
theorem Ob.ren_id {f : Nat → Option Nat} (o : Ob) (h : ∀ k, k ∈ o.refs → f k = some k) : o.ren f = o := by
  cases o with
  | var cells => simp only [Ob.ren]; rw [renL_id cells h]
  | arr _ _ _ => rfl
  | bld _ _ _ => rfl
  | mp _ => rfl
  | gone => rfl
  | opn sz xs els =>
    have cells : ∀ cs : List OC, (∀ k, k ∈ cellKeys cs → f k = some k) → renCells f cs = cs := by
      intro cs
      induction cs with
      | nil => intro _; rfl
      | cons y cs ih =>
        intro hk
        cases y with
        | d x => simp only [renCells]; rw [ih hk]
        | k key => simp only [renCells, hk key (by simp [cellKeys])]; rw [ih fun j hj => hk j (by simp [cellKeys, hj])]
    have all : ∀ l : List OE, (∀ k, k ∈ elKeys l → f k = some k) → renEls f l = l := by
      intro l
      induction l with
      | nil => intro _; rfl
      | cons y l ih =>
        intro hk
        simp only [renEls]
        rw [cells y.cells fun k hj => hk k (by simp [elKeys, hj]), ih fun k hj => hk k (by simp [elKeys, hj])]
    simp only [Ob.ren]
    rw [all els h]
mutual
theorem AV.frz_id {σ : Nat → Option Ob} {bs : List Nat} : ∀ (v : AV), (∀ k, k ∈ v.refs → has k bs = false) → v.frz σ bs = v
  | .d _, _ => rfl
  | .c _, _ => rfl
  | .snil, _ => rfl
  | .rd _, _ => rfl
  | .bot, _ => rfl
  | .ptr k o, h => by simp only [AV.frz]; rw [h k (by simp [AV.refs])]
  | .eptr k s i o, h => by simp only [AV.frz]; rw [h k (by simp [AV.refs])]
  | .own k, h => by simp only [AV.frz]; rw [h k (by simp [AV.refs])]
  | .win k a b c, h => by simp only [AV.frz]; rw [h k (by simp [AV.refs])]
  | .agg cs, h => by simp only [AV.frz]; rw [frzL_id cs h]
  | .tup cs, h => by simp only [AV.frz]; rw [frzL_id cs h]
  | .fn g cs, h => by simp only [AV.frz]; rw [frzL_id cs h]
theorem frzL_id {σ : Nat → Option Ob} {bs : List Nat} : ∀ (vs : List AV), (∀ k, k ∈ refsL vs → has k bs = false) → frzL σ bs vs = vs
  | [], _ => rfl
  | v :: vs, h => by
    simp only [frzL]
    rw [AV.frz_id v (fun k hk => h k (by simp only [refsL]; exact List.mem_append_left _ hk)), frzL_id vs (fun k hk => h k (by simp only [refsL]; exact List.mem_append_right _ hk))]
end
theorem Ob.frz_id {σ : Nat → Option Ob} {bs : List Nat} (o : Ob) (h : ∀ k, k ∈ o.refs → has k bs = false) : o.frz σ bs = o := by
  cases o with
  | var cells => simp only [Ob.frz]; rw [frzL_id cells h]
  | arr _ _ _ => rfl
  | bld _ _ _ => rfl
  | mp _ => rfl
  | gone => rfl
  | opn sz xs els =>
    have := Ob.ren_id (f := without bs) (.opn sz xs els) (fun k hk => by unfold without; rw [h k hk])
    exact this
section
variable {x : Option (Nat × AV)} {s t : St}
theorem Ext.put (h : Ext x s t) {e : Nat} (hne : ∀ d v, x = some (d, v) → d ≠ e) (u : AV) : Ext x (s.put (some e) u) (t.put (some e) u) := by
  refine ⟨fun k => ?_, h.obj⟩
  rw [St.put_look, St.put_look, h.env]
  by_cases h1 : e = k
  · subst h1
    rw [if_pos rfl, if_pos rfl]
    cases x with
    | none => rfl
    | some dv => obtain ⟨d, v⟩ := dv; simp only [over]; rw [if_neg (hne d v rfl)]
  · rw [if_neg h1, if_neg h1]
theorem Ext.set (h : Ext x s t) (k0 : Nat) (o : Ob) : Ext x (s.set k0 o) (t.set k0 o) := by
  refine ⟨h.env, fun k => ?_⟩
  rw [St.set_look, St.set_look, h.obj]
theorem over_map {g : AV → AV} (hv : ∀ d v, x = some (d, v) → g v = v) (k : Nat) (o : Option AV) : (over x k o).map g = over x k (o.map g) := by
  cases x with
  | none => rfl
  | some dv =>
    obtain ⟨d, v⟩ := dv
    simp only [over]
    by_cases e : d = k
    · rw [if_pos e, if_pos e]; simp [hv d v rfl]
    · rw [if_neg e, if_neg e]
theorem Ext.ren (h : Ext x s t) {f : Nat → Option Nat} (hf : ∀ k j, f k = some j → j = k) (hv : ∀ d v, x = some (d, v) → v.ren f = v) : Ext x (s.ren f) (t.ren f) := by
  refine ⟨fun k => ?_, fun k => ?_⟩
  · show look k (renEnv f t.env) = over x k (look k (renEnv f s.env))
    rw [look_renEnv, look_renEnv, h.env, over_map hv]
  · show look k (renObj f t.obj) = look k (renObj f s.obj)
    rw [look_renObj hf, look_renObj hf, h.obj]
theorem Ext.look (h : Ext x s t) : (Pm.look · t.obj) = (Pm.look · s.obj) := funext h.obj
theorem Ext.frz (h : Ext x s t) {bs : List Nat} (hv : ∀ d v, x = some (d, v) → ∀ k, k ∈ v.refs → has k bs = false) : Ext x (s.frz bs) (t.frz bs) := by
  refine ⟨fun k => ?_, fun k => ?_⟩
  · show Pm.look k (frzEnv (Pm.look · t.obj) bs t.env) = over x k (Pm.look k (frzEnv (Pm.look · s.obj) bs s.env))
    rw [look_frzEnv, look_frzEnv, h.env, h.look, over_map (fun d v hd => AV.frz_id v (hv d v hd))]
  · show Pm.look k (frzObj (Pm.look · t.obj) bs t.obj) = Pm.look k (frzObj (Pm.look · s.obj) bs s.obj)
    rw [look_frzObj, look_frzObj, h.obj, h.look]
theorem Ext.setAll : ∀ (O : List Ob) (i : Nat) (g : Nat → Option Nat) (s t : St), Ext x s t → Ext x (setAll s g i O) (setAll t g i O)
  | [], _, _, _, _, h => h
  | o :: O, i, g, s, t, h => by
    simp only [Pm.setAll]
    split
    · exact Ext.setAll O (i + 1) g _ _ (h.set _ _)
    · exact h
theorem Ext.after (h : Ext x s t) {e : Nat} (hne : ∀ d v, x = some (d, v) → d ≠ e) (ks : List Nat) (O : List Ob) (R : AV) : Ext x (after s ks e O R) (after t ks e O R) :=
  (Ext.setAll O 0 _ s t h).put hne _
variable {s' : St} {prot : List Nat} {e : Nat}
theorem Far.refl (prot : List Nat) (e : Nat) (s : St) : Far prot e s s := ⟨fun _ _ => rfl, fun _ _ _ => rfl⟩
theorem Far.put (h : Far prot e s s') (u : AV) : Far prot e s (s'.put (some e) u) := by
  refine ⟨h.obj, fun t ht hu => ?_⟩
  rw [St.put_look, if_neg (Ne.symm ht)]
  exact h.env t ht hu
theorem Far.set (h : Far prot e s s') {k0 : Nat} {o : Ob} (hk : k0 ∉ prot) : Far prot e s (s'.set k0 o) := by
  refine ⟨fun k hp => ?_, h.env⟩
  rw [St.set_look, if_neg (by rintro rfl; exact hk hp)]
  exact h.obj k hp
theorem Far.ren {f : Nat → Option Nat} (hf : ∀ k j, f k = some j → j = k) (hp : ∀ k, k ∈ prot → f k = some k) (hsm : ∀ k, k < 10000 → f k = some k) (hc : ∀ k, k ∈ prot → ∃ o, look k s.obj = some o ∧ ∀ j, j ∈ o.refs → j ∈ prot) : Far prot e s (s.ren f) := by
  refine ⟨fun k hk => ?_, fun t ht hu => ?_⟩
  · show look k (renObj f s.obj) = _
    rw [look_renObj hf, hp k hk]
    obtain ⟨o, ho, hr⟩ := hc k hk
    simp only [ho, Option.map_some]
    rw [Ob.ren_id o fun j hj => hp j (hr j hj)]
  · show look t (renEnv f s.env) = _
    rw [look_renEnv]
    cases hl : look t s.env with
    | none => rfl
    | some u => simp only [Option.map_some]; rw [AV.ren_id u fun k hk => (hu u hl k hk).elim (hp k) (hsm k)]
theorem Far.frz {bs : List Nat} (hp : ∀ k, k ∈ prot → has k bs = false) (hsm : ∀ k, k < 10000 → has k bs = false) (hc : ∀ k, k ∈ prot → ∃ o, look k s.obj = some o ∧ ∀ j, j ∈ o.refs → j ∈ prot) : Far prot e s (s.frz bs) := by
  refine ⟨fun k hk => ?_, fun t ht hu => ?_⟩
  · show look k (frzObj (look · s.obj) bs s.obj) = _
    rw [look_frzObj, hp k hk]
    obtain ⟨o, ho, hr⟩ := hc k hk
    simp only [ho, Option.map_some]
    rw [Ob.frz_id o fun j hj => hp j (hr j hj)]
  · show look t (frzEnv (look · s.obj) bs s.env) = _
    rw [look_frzEnv]
    cases hl : look t s.env with
    | none => rfl
    | some u => simp only [Option.map_some]; rw [AV.frz_id u fun k hk => (hu u hl k hk).elim (hp k) (hsm k)]
theorem Far.setAll {s0 : St} : ∀ (O : List Ob) (i : Nat) (g : Nat → Option Nat) (s' : St), Far prot e s0 s' → (∀ j k, i ≤ j → j < i + O.length → g j = some k → k ∉ prot) → Far prot e s0 (setAll s' g i O)
  | [], _, _, _, h, _ => h
  | o :: O, i, g, s', h, hg => by
    simp only [Pm.setAll]
    split
    · rename_i k hk
      refine Far.setAll O (i + 1) g _ (h.set (hg i k (Nat.le_refl _) (by simp) hk)) fun j k hj hl => hg j k (by omega) (by simp only [List.length_cons]; omega)
    · exact h
end
end Go.Pm
namespace Go.Pm
open Go
set_option linter.unusedVariables false
variable {P : Program}
def argsOf (cx : Cx) (f : FuncId) (vs : List AV) (st : St) : List AV × List Nat := match has f cx.mu with | true => (vs, []) | false => lend (look · st.obj) vs
def okC (cx : Cx) (prot : List Nat) (st : St) (dst : Option Nat) : Cmd → Bool
  | .newVar _ => match dst with | some d => apart [10000 + d] prot | none => true
  | .newArr _ _ _ ks => match litAt cx dst with | true => true | false => match dst with | some d => apart ((10000 + d) :: ks) prot | none => true
  | .app k _ _ _ ks => apart (k :: ks) prot
  | .upd k _ _ => apart [k] prot
  | .call .. => false
  | .alt .. => false
  | .newNil .. => false
  | .newMp => false
  | .bit _ => false
  | .opens .. => false
  | .put k _ ks => apart (k :: ks) prot
  | _ => true
def evCallInS (P : Program) (f : FuncId) (args : List AV) (bs : List Nat) (free : Bool) (d : Nat) (st : St) (K : St → Prop) : Prop :=
  forceN (reachN (look · st.obj) 50 (refsL args) []) fun ks =>
    match nodup ks && apart bs ks && bigs bs && inside (refsL args) ks with
    | false => False
    | true => match pickObs (look · st.obj) (idx · ks 0) ks with
      | none => False
      | some objs => ∃ Q, EntQ P f (renL (idx · ks 0) args) objs Q ∧ ∀ R O, Q R O →
        (match Nat.ble ks.length O.length && freshOk st.obj ks d 0 (O.length - ks.length) with
        | false => False
        | true => match bs with
          | [] => K (after st ks d O R)
          | _ => match R.loose && flatObs O with
            | true => K (after st ks d O R)
            | false => match free with | true => K (after (st.frz bs) ks d O R) | false => False)
def evCallP (P : Program) (cx : Cx) (prot : List Nat) (f : FuncId) (vs : List AV) (dst : Option Nat) (st : St) (K : St → Prop) : Prop :=
  match dst with
  | none => False
  | some d => match has (1000000 + f) cx.mu with
    | true => False
    | false => match argsOf cx f vs st with
      | (args, bs) => match apart (reachN (look · st.obj) 50 (refsL args) []) prot with
        | false => False
        | true => evCallInS P f args bs (apart bs prot) d st K
def evCmdP (P : Program) (cx : Cx) (prot : List Nat) : Option Nat → Cmd → St → (St → Prop) → Prop
  | dst, .need p c, st, K => p ∧ evCmdP P cx prot dst c st K
  | dst, .get xs i f, st, K => ∃ x, xs[i]? = some x ∧ evCmdP P cx prot dst (f x) st K
  | dst, .call f vs, st, K => evCallP P cx prot f vs dst st K
  | dst, c, st, K => match okC cx prot st dst c with | true => evCmd P cx dst c st K | false => False
theorem evCallInS_up {f : FuncId} {args : List AV} {bs : List Nat} {free free' : Bool} {d : Nat} {st : St} {K K' : St → Prop} (hf : free = true → free' = true) (hK : ∀ s, K s → K' s) (h : evCallInS P f args bs free d st K) : evCallInS P f args bs free' d st K' := by
  unfold evCallInS at h ⊢
  rw [forceN_eq] at h ⊢
  split at h
  · exact h.elim
  · split at h
    · exact h.elim
    · obtain ⟨Q, hent, hQ⟩ := h
      refine ⟨Q, hent, fun R O hq => ?_⟩
      have h := hQ R O hq
      split at h
      · exact h.elim
      · split at h
        · exact hK _ h
        · split at h
          · exact hK _ h
          · cases free with
            | false => exact h.elim
            | true => rw [hf rfl]; exact hK _ h
theorem evCallInS_to {f : FuncId} {args : List AV} {bs : List Nat} {free : Bool} {d : Nat} {st : St} {K : St → Prop} (h : evCallInS P f args bs free d st K) : evCallIn P f args bs d st K := by
  unfold evCallInS at h
  unfold evCallIn
  rw [forceN_eq] at h ⊢
  generalize reachN (look · st.obj) 50 (refsL args) [] = ks at h ⊢
  simp only at h ⊢
  generalize (nodup ks && apart bs ks && bigs bs && inside (refsL args) ks) = q at h ⊢
  cases q with
  | false => exact h.elim
  | true =>
  simp only at h ⊢
  generalize pickObs (look · st.obj) (idx · ks 0) ks = po at h ⊢
  cases po with
  | none => exact h.elim
  | some objs =>
  simp only at h ⊢
  obtain ⟨Q, hent, hQ⟩ := h
  refine ⟨Q, hent, fun R O hq => ?_⟩
  have h := hQ R O hq
  generalize (Nat.ble ks.length O.length && freshOk st.obj ks d 0 (O.length - ks.length)) = q at h ⊢
  cases q with
  | false => exact h.elim
  | true =>
  simp only at h ⊢
  cases bs with
  | nil => exact h
  | cons b0 bs =>
    simp only at h ⊢
    generalize (R.loose && flatObs O) = q at h ⊢
    cases q with
    | true => exact h
    | false =>
      cases free with
      | false => exact h.elim
      | true => exact h
theorem evCallP_to {cx : Cx} {prot : List Nat} {f : FuncId} {vs : List AV} {dst : Option Nat} {st : St} {K : St → Prop} (h : evCallP P cx prot f vs dst st K) : evCall P cx f vs dst st K := by
  unfold evCallP at h
  unfold evCall
  cases dst with
  | none => exact h
  | some d =>
    simp only at h ⊢
    cases hro : has (1000000 + f) cx.mu with
    | true => rw [hro] at h; exact h.elim
    | false =>
      rw [hro] at h
      simp only at h ⊢
      split at h
      · exact h.elim
      · have h := evCallInS_to h
        unfold argsOf at h
        cases hh : has f cx.mu <;> (rw [hh] at h; exact h)
theorem evCallP_mono {cx : Cx} {prot : List Nat} {f : FuncId} {vs : List AV} {dst : Option Nat} {st : St} {K K' : St → Prop} (hK : ∀ s, K s → K' s) (h : evCallP P cx prot f vs dst st K) : evCallP P cx prot f vs dst st K' := by
  unfold evCallP at h ⊢
  cases dst with
  | none => exact h
  | some d =>
    simp only at h ⊢
    split at h
    · exact h.elim
    · split at h
      · exact h.elim
      · exact evCallInS_up id hK h
section
variable {cx : Cx} {st : St} {K K' : St → Prop} {dst : Option Nat} {prot prot' rs : List Nat}
theorem apart_less : ∀ {bs : List Nat}, (∀ k, k ∈ prot' → k ∈ prot) → apart bs prot = true → apart bs prot' = true
  | [], _, _ => rfl
  | k :: bs, hs, h => by
    simp only [apart] at h ⊢
    cases hk : has k prot with
    | true => rw [hk] at h; cases h
    | false =>
      rw [hk] at h
      have : has k prot' = false := Bool.eq_false_iff.2 fun e => by
        rw [(has_iff _ _).2 (hs k ((has_iff _ _).1 e))] at hk; cases hk
      rw [this]
      exact apart_less hs h
theorem apart_tail {k : Nat} {ks : List Nat} (h : apart (k :: ks) prot = true) : apart ks prot = true := by
  simp only [apart] at h
  split at h
  · cases h
  · exact h
theorem okC_less (hs : ∀ k, k ∈ prot' → k ∈ prot) {c : Cmd} (h : okC cx prot st dst c = true) : okC cx prot' st dst c = true := by
  cases c with
  | newVar cells => cases dst with
    | none => rfl
    | some d => exact apart_less hs h
  | newArr a b c ks =>
    simp only [okC] at h ⊢
    cases hlit : litAt cx dst with
    | true => rfl
    | false =>
      rw [hlit] at h
      cases dst with
      | none => rfl
      | some d => exact apart_less hs h
  | app k a b c ks => exact apart_less hs h
  | upd k o v => exact apart_less hs h
  | call f vs => exact h
  | alt => exact h
  | newNil => exact h
  | newMp => exact h
  | bit => exact h
  | opens => exact h
  | put k o ks => exact apart_less hs h
  | _ => rfl
theorem evCallP_less (hs : ∀ k, k ∈ prot' → k ∈ prot) {f : FuncId} {vs : List AV} (h : evCallP P cx prot f vs dst st K) : evCallP P cx prot' f vs dst st K := by
  unfold evCallP at h ⊢
  cases dst with
  | none => exact h
  | some d =>
    simp only at h ⊢
    split at h
    · exact h.elim
    · split at h
      · exact h.elim
      · rename_i ha
        rw [apart_less hs ha]
        exact evCallInS_up (fun e => apart_less hs e) (fun _ h => h) h
theorem evCmdP_less (hs : ∀ k, k ∈ prot' → k ∈ prot) : ∀ {c : Cmd}, evCmdP P cx prot dst c st K → evCmdP P cx prot' dst c st K := by
  intro c
  induction c with
  | need p c ih => exact fun h => ⟨h.1, ih h.2⟩
  | get xs i f ih => exact fun ⟨x, hx, h⟩ => ⟨x, hx, ih x h⟩
  | call f vs => exact evCallP_less hs
  | _ =>
    intro h
    simp only [evCmdP] at h ⊢
    split at h
    · rename_i ho; rw [okC_less hs ho]; exact h
    · exact h.elim
theorem evCmdP_to : ∀ {c : Cmd}, evCmdP P cx prot dst c st K → evCmd P cx dst c st K := by
  intro c
  induction c with
  | need p c ih => exact fun h => ⟨h.1, ih h.2⟩
  | get xs i f ih => exact fun ⟨x, hx, h⟩ => ⟨x, hx, ih x h⟩
  | call f vs => exact evCallP_to
  | _ =>
    intro h
    simp only [evCmdP] at h
    split at h
    · exact h
    · exact h.elim
theorem freshOk_congr {a b : List (Nat × Ob)} {ks : List Nat} {d : Nat} (h : ∀ k, look k a = look k b) : ∀ {n i : Nat}, freshOk a ks d i n = freshOk b ks d i n
  | 0, _ => rfl
  | n + 1, i => by simp only [freshOk]; rw [h, freshOk_congr h]
theorem callIn_comm {x : Option (Nat × AV)} {e : Nat} {s t : St} (hx : Ext x s t) (hne : ∀ d v, x = some (d, v) → d ≠ e) (hsub : ∀ k, k ∈ rs → k ∈ prot) (hvp : ∀ d v, x = some (d, v) → ∀ k, k ∈ v.refs → k ∈ rs ∨ k < 10000) (hc : ∀ k, k ∈ rs → ∃ o, look k s.obj = some o ∧ ∀ j, j ∈ o.refs → j ∈ rs)
    {f : FuncId} {args : List AV} {bs : List Nat} {free : Bool} (hbs : free = true → apart bs prot = true) (hks : apart (reachN (look · s.obj) 50 (refsL args) []) prot = true) (h : evCallInS P f args bs free e t K) :
    evCallInS P f args bs free e s (fun s' => ∃ t', K t' ∧ Ext x s' t' ∧ Far rs e s s') := by
  unfold evCallInS at h ⊢
  rw [forceN_eq] at h ⊢
  rw [hx.look] at h
  generalize reachN (look · s.obj) 50 (refsL args) [] = ks at h hks ⊢
  have hks := apart_ok hks
  simp only at h ⊢
  generalize hchk : (nodup ks && apart bs ks && bigs bs && inside (refsL args) ks) = q at h ⊢
  cases q with
  | false => exact h.elim
  | true =>
  simp only [Bool.and_eq_true] at hchk
  have hbig : bigs bs = true := hchk.1.2
  simp only at h ⊢
  generalize hpo : pickObs (look · s.obj) (idx · ks 0) ks = po at h ⊢
  cases po with
  | none => exact h.elim
  | some objs =>
  simp only at h ⊢
  obtain ⟨Q, hent, hK⟩ := h
  refine ⟨Q, hent, fun R O hq => ?_⟩
  have h := hK R O hq
  rw [freshOk_congr hx.obj] at h
  generalize hck : (Nat.ble ks.length O.length && freshOk s.obj ks e 0 (O.length - ks.length)) = q at h ⊢
  cases q with
  | false => exact h.elim
  | true =>
  simp only [Bool.and_eq_true] at hck
  have hfr := freshOk_ok hck.2
  have hnot : ∀ j k, 0 ≤ j → j < 0 + O.length → nameOf ks e j = some k → k ∉ rs := by
    intro j k _ hj hn hp
    by_cases hjl : j < ks.length
    · rw [nameOf_lt hjl] at hn
      cases hn
      exact hks _ (List.getElem_mem hjl) (hsub _ hp)
    · rw [nameOf_ge (by omega)] at hn
      cases hn
      have h1 := hfr (j - ks.length) (Nat.zero_le _) (by omega)
      obtain ⟨o, ho, _⟩ := hc _ hp
      rw [h1] at ho; cases ho
  have plain : ∀ {s0 t0 : St}, Ext x s0 t0 → Far rs e s s0 → K (after t0 ks e O R) → ∃ t', K t' ∧ Ext x (after s0 ks e O R) t' ∧ Far rs e s (after s0 ks e O R) :=
    fun {s0 t0} h1 h2 h3 => ⟨_, h3, h1.after hne ks O R, (Far.setAll O 0 _ s0 h2 hnot).put _⟩
  cases bs with
  | nil => exact plain hx (Far.refl _ _ _) h
  | cons b0 bs =>
    simp only at h ⊢
    split
    · rename_i hf; rw [hf] at h; exact plain hx (Far.refl _ _ _) h
    · rename_i hf
      rw [hf] at h
      cases free with
      | false => exact h.elim
      | true =>
        have hbs := apart_ok (hbs rfl)
        have hpb : ∀ k, k ∈ rs → has k (b0 :: bs) = false := fun k hk => Bool.eq_false_iff.2 fun e => hbs k ((has_iff _ _).1 e) (hsub _ hk)
        have hsm : ∀ k, k < 10000 → has k (b0 :: bs) = false := fun k hk => Bool.eq_false_iff.2 fun e => by have := bigs_le hbig k ((has_iff _ _).1 e); omega
        have hvb : ∀ d v, x = some (d, v) → ∀ k, k ∈ v.refs → has k (b0 :: bs) = false := fun d v hd k hk => (hvp d v hd k hk).elim (hpb k) (hsm k)
        exact plain (hx.frz hvb) (Far.frz hpb hsm hc) h
theorem comm {x : Option (Nat × AV)} {e : Nat} {s t : St} (hx : Ext x s t) (hsub : ∀ k, k ∈ rs → k ∈ prot) (hvp : ∀ d v, x = some (d, v) → ∀ k, k ∈ v.refs → k ∈ rs ∨ k < 10000) (hc : ∀ k, k ∈ rs → ∃ o, look k s.obj = some o ∧ ∀ j, j ∈ o.refs → j ∈ rs)
    (hd : ∀ e', dst = some e' → (∀ d v, x = some (d, v) → d ≠ e') ∧ e' = e) : ∀ (c : Cmd), evCmdP P cx prot dst c t K → evCmdP P cx prot dst c s (fun s' => ∃ t', K t' ∧ Ext x s' t' ∧ Far rs e s s') := by
  have put : ∀ {s0 t0 : St} (u : AV), Ext x s0 t0 → Far rs e s s0 → Ext x (s0.put dst u) (t0.put dst u) ∧ Far rs e s (s0.put dst u) := by
    intro s0 t0 u h1 h2
    cases hdst : dst with
    | none => exact ⟨h1, h2⟩
    | some e' =>
      obtain ⟨g1, rfl⟩ := hd e' hdst
      exact ⟨h1.put g1 u, h2.put u⟩
  have without_in : ∀ {ks : List Nat}, apart ks prot = true → ∀ k, k ∈ rs → without ks k = some k := by
    intro ks hk k hp
    unfold without
    have : has k ks = false := Bool.eq_false_iff.2 fun e => apart_ok hk k ((has_iff _ _).1 e) (hsub _ hp)
    rw [this]
  intro c
  induction c with
  | need p c ih => exact fun h => ⟨h.1, ih h.2⟩
  | get xs i f ih => exact fun ⟨y, hy, h⟩ => ⟨y, hy, ih y h⟩
  | stuck => intro h; simp only [evCmdP, okC, evCmd] at h
  | val u =>
    intro h
    simp only [evCmdP, okC, evCmd] at h ⊢
    exact ⟨_, h, put u hx (Far.refl _ _ _)⟩
  | str xs =>
    intro h
    simp only [evCmdP, okC, evCmd] at h ⊢
    obtain ⟨l, hl, hK⟩ := h
    exact ⟨l, hl, _, hK, put _ hx (Far.refl _ _ _)⟩
  | newVar cells =>
    intro h
    simp only [evCmdP] at h ⊢
    cases hdst : dst with
    | none => rw [hdst] at h; simp only [okC, evCmd] at h
    | some e' =>
      rw [hdst] at h put
      simp only [okC] at h ⊢
      split at h
      case h_2 => exact h.elim
      rename_i ho
      try rw [ho]
      simp only [evCmd] at h ⊢
      rw [hx.obj] at h
      split at h
      · rename_i hl
        try simp only
        exact ⟨_, h, put _ (hx.set _ _) ((Far.refl rs e s).set (fun hm => apart_ok ho _ (List.mem_cons_self ..) (hsub _ hm)))⟩
      · exact h.elim
  | newArr sz deep xs ks =>
    intro h
    simp only [evCmdP] at h ⊢
    cases hlit : litAt cx dst with
    | true =>
      simp only [okC, hlit, evCmd] at h ⊢
      cases deep with
      | true => exact h.elim
      | false =>
        cases ks with
        | cons _ _ => exact h.elim
        | nil => exact ⟨_, h, put _ hx (Far.refl _ _ _)⟩
    | false =>
    cases hdst : dst with
    | none => rw [hdst] at h hlit; simp only [okC, evCmd, hlit] at h
    | some e' =>
      rw [hdst] at h put hlit
      simp only [okC, hlit] at h ⊢
      split at h
      case h_2 => exact h.elim
      rename_i ho
      try rw [ho]
      simp only [evCmd, hlit] at h ⊢
      rw [hx.obj] at h
      split at h
      · rename_i hl
        try simp only
        cases ks with
        | nil =>
          simp only at h ⊢
          exact ⟨_, h, put _ (hx.set _ _) ((Far.refl rs e s).set (fun hm => apart_ok ho _ (List.mem_cons_self ..) (hsub _ hm)))⟩
        | cons k ks =>
          simp only at h ⊢
          split at h
          · exact h.elim
          · rename_i hb
            have hsm : ∀ k0, k0 < 10000 → without ((10000 + e') :: k :: ks) k0 = some k0 := fun k0 hk0 => without_small (by simp only [bigs] at hb ⊢; rw [show Nat.ble 10000 (10000 + e') = true from Nat.ble_eq_true_of_le (Nat.le_add_right _ _)]; exact hb) hk0
            refine ⟨_, h, put _ ((hx.ren (fun k j h => without_id h) (fun d v hd => AV.ren_id v fun k hk => (hvp d v hd k hk).elim (without_in ho k) (hsm k))).set _ _) (Far.set (Far.ren (fun k j h => without_id h) (without_in ho) hsm hc) (fun hm => apart_ok ho _ (List.mem_cons_self ..) (hsub _ hm)))⟩
      · exact h.elim
  | app k sz deep xs ks =>
    intro h
    simp only [evCmdP, okC] at h ⊢
    split at h
    case h_2 => exact h.elim
    rename_i ho
    try rw [ho]
    simp only [evCmd] at h ⊢
    split at h
    · rename_i hb
      try rw [hb]
      exact ⟨_, h, put _ ((hx.ren (fun k j h => without_id h) (fun d v hd => AV.ren_id v fun k hk => (hvp d v hd k hk).elim (without_in ho k) (without_small hb))).set _ _) (Far.set (Far.ren (fun k j h => without_id h) (without_in ho) (fun k hk => without_small hb hk) hc) (fun hm => apart_ok ho _ (List.mem_cons_self ..) (hsub _ hm)))⟩
    · exact h.elim
  | put k ob ks =>
    intro h
    simp only [evCmdP, okC] at h ⊢
    split at h
    case h_2 => exact h.elim
    rename_i ho
    try rw [ho]
    have hot := apart_tail ho
    simp only [evCmd] at h ⊢
    split at h
    · rename_i hb
      try rw [hb]
      exact ⟨_, h, put _ ((hx.ren (fun k j h => without_id h) (fun d v hd => AV.ren_id v fun k hk => (hvp d v hd k hk).elim (without_in hot k) (without_small hb))).set _ _) (Far.set (Far.ren (fun k j h => without_id h) (without_in hot) (fun k hk => without_small hb hk) hc) (fun hm => apart_ok ho _ (List.mem_cons_self ..) (hsub _ hm)))⟩
    · exact h.elim
  | upd k o u =>
    intro h
    simp only [evCmdP, okC] at h ⊢
    split at h
    case h_2 => exact h.elim
    rename_i ho
    try rw [ho]
    simp only [evCmd] at h ⊢
    exact ⟨_, h, put _ (hx.set _ _) ((Far.refl rs e s).set (fun hm => apart_ok ho _ (List.mem_cons_self ..) (hsub _ hm)))⟩
  | call f vs =>
    intro h
    simp only [evCmdP] at h ⊢
    unfold evCallP at h ⊢
    cases hdst : dst with
    | none => rw [hdst] at h; exact h.elim
    | some e' =>
      rw [hdst] at h
      obtain ⟨hne, rfl⟩ := hd e' hdst
      simp only at h ⊢
      have ha : argsOf cx f vs t = argsOf cx f vs s := by unfold argsOf; rw [hx.look]
      rw [ha, hx.look] at h
      split at h
      · exact h.elim
      · split at h
        · exact h.elim
        · rename_i hks
          exact callIn_comm hx hne hsub hvp hc id hks h
  | alt => intro h; simp only [evCmdP, okC] at h
  | newNil => intro h; simp only [evCmdP, okC] at h
  | newMp => intro h; simp only [evCmdP, okC] at h
  | bit => intro h; simp only [evCmdP, okC] at h
  | opens => intro h; simp only [evCmdP, okC] at h
end
end Go.Pm
