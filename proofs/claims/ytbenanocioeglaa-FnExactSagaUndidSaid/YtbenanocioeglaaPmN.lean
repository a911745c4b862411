/-
A walk of Go's code over values: the code.
-/
import Derived.Test.YtbenanocioeglaaPmRe
namespace Go.Pm
open Go
set_option linter.unusedVariables false
variable {P : Program}

def smallsIn : List (Nat × Ob) → List Nat → Bool
  | [], _ => true
  | (k, _) :: r, ks => match Nat.ble 10000 k with | true => smallsIn r ks | false => match has k ks with | true => smallsIn r ks | false => false

def dstOk (n : Nat) : List Oper → Bool
  | [] => true
  | o :: r => match o.dst with | some d => (match Nat.blt d n with | true => dstOk n r | false => false) | none => dstOk n r
def codeOk (n : Nat) : Code → Bool
  | .region _ ops _ => dstOk n ops.toList
  | .seq a b => match codeOk n a with | true => codeOk n b | false => false
  | .cond _ a b => match codeOk n a with | true => codeOk n b | false => false
  | .block _ b => codeOk n b
  | .loop b => codeOk n b
  | _ => true

def St.smalls (st : St) (ks : List Nat) : Prop := smallsIn st.obj ks = true

/-! The walk's state is brought to its own form behind each region. -/
def AV.force (v : AV) (K : AV → Prop) : Prop := match v with
  | .d x => K (.d x)
  | .c u => K (.c u)
  | .snil => K .snil
  | .agg cs => K (.agg cs)
  | .tup vs => K (.tup vs)
  | .ptr k o => K (.ptr k o)
  | .eptr k s i o => K (.eptr k s i o)
  | .own k => K (.own k)
  | .rd cs => K (.rd cs)
  | .fn g caps => K (.fn g caps)
  | .bot => K .bot
theorem AV.force_eq (v : AV) (K : AV → Prop) : v.force K = K v := by cases v <;> rfl
def forceL : List AV → (List AV → Prop) → Prop
  | [], K => K []
  | v :: r, K => v.force fun v' => forceL r fun r' => K (v' :: r')
theorem forceL_eq : ∀ (l : List AV) (K : List AV → Prop), forceL l K = K l
  | [], K => rfl
  | v :: r, K => by simp only [forceL, AV.force_eq, forceL_eq r]
def Ob.force (o : Ob) (K : Ob → Prop) : Prop := match o with
  | .var cells => forceL cells fun c => K (.var c)
  | .arr s dp xs => K (.arr s dp xs)
  | .bld e l => K (.bld e l)
theorem Ob.force_eq (o : Ob) (K : Ob → Prop) : o.force K = K o := by cases o <;> simp only [Ob.force, forceL_eq]
def forceEnv : List (Nat × AV) → (List (Nat × AV) → Prop) → Prop
  | [], K => K []
  | (n, v) :: r, K => v.force fun v' => forceEnv r fun r' => K ((n, v') :: r')
theorem forceEnv_eq : ∀ (l : List (Nat × AV)) (K : List (Nat × AV) → Prop), forceEnv l K = K l
  | [], K => rfl
  | (n, v) :: r, K => by simp only [forceEnv, AV.force_eq, forceEnv_eq r]
def forceObj : List (Nat × Ob) → (List (Nat × Ob) → Prop) → Prop
  | [], K => K []
  | (n, v) :: r, K => v.force fun v' => forceObj r fun r' => K ((n, v') :: r')
theorem forceObj_eq : ∀ (l : List (Nat × Ob)) (K : List (Nat × Ob) → Prop), forceObj l K = K l
  | [], K => rfl
  | (n, v) :: r, K => by simp only [forceObj, Ob.force_eq, forceObj_eq r]
def St.force (st : St) (K : St → Prop) : Prop := forceEnv st.env fun e => forceObj st.obj fun o => K ⟨e, o⟩
theorem St.force_eq (st : St) (K : St → Prop) : st.force K = K st := by simp only [St.force, forceEnv_eq, forceObj_eq]

/-- How a drawn region is cut off from what stands behind it: by the slots and blocks that are kept, and what is then true; or not at all. -/
structure Cut (id : Nat) where
  c : Option (List Nat × List Nat × (St → Prop))
/-- The code. -/
def evk (P : Program) (cx : Cx) : Code → (Ex → St → Prop) → St → Prop
  | .skip, K, st => K .normal st
  | .region id ops draw, K, st => match draw with
    | false => evOps P cx ops.toList (fun s => s.force (K .normal)) ops.toList st
    | true => ∃ c : Cut id, match c.c with
      | none => evS P cx ops.toList (fun s => s.force (K .normal)) ops.size [] [] st
      | some (L, Ko, I) => evS P cx ops.toList (fun s => smallsIn s.obj Ko = true ∧ (s.only L Ko).force I) ops.size [] [] st ∧ ∀ s, I s → s.force (K .normal)
  | .seq a b, K, st => evk P cx a (fun e s => match e with | .normal => evk P cx b K s | .exit i => K (.exit i) s | .ret => K .ret s) st
  | .cond c a b, K, st => match st.ev c with
    | some (.d (.b t)) => (match t with | true => evk P cx a K st | false => evk P cx b K st)
    | _ => False
  | .block id b, K, st => evk P cx b (fun e s => match e with
    | .normal => K .normal s
    | .exit i => (match Nat.beq i id with | true => K .normal s | false => K (.exit i) s)
    | .ret => K .ret s) st
  | .loop b, K, st => ∃ (L Ko : List Nat) (I : St → Prop) (μ : St → Nat), smallsIn st.obj Ko = true ∧ I (st.only L Ko) ∧
      ∀ s, I s → evk P cx b (fun e s' => match e with
        | .normal => smallsIn s'.obj Ko = true ∧ I (s'.only L Ko) ∧ μ (s'.only L Ko) < μ s
        | .exit i => K (.exit i) s'
        | .ret => K .ret s') s
  | .exit i, K, st => K (.exit i) st
  | .ret, K, st => K .ret st
  | _, _, _ => False

theorem dstOk_ok {n : Nat} : ∀ {l : List Oper}, dstOk n l = true → ∀ o ∈ l, ∀ d, o.dst = some d → d < n
  | [], _, o, h, _, _ => by cases h
  | x :: l, hh, o, h, d, hd => by
    simp only [dstOk] at hh
    rcases List.mem_cons.1 h with rfl | h
    · rw [hd] at hh
      simp only at hh
      cases hb : Nat.blt d n with
      | true => exact Nat.le_of_ble_eq_true hb
      | false => rw [hb] at hh; cases hh
    · cases hx : x.dst with
      | none => rw [hx] at hh; exact dstOk_ok hh o h d hd
      | some e =>
        rw [hx] at hh
        simp only at hh
        cases hb : Nat.blt e n with
        | true => rw [hb] at hh; exact dstOk_ok hh o h d hd
        | false => rw [hb] at hh; cases hh

theorem look_pickEnv {l : List (Nat × AV)} {t : Nat} {v : AV} : ∀ {ts : List Nat}, look t (pickEnv l ts) = some v → look t l = some v
  | [], h => by cases h
  | x :: ts, h => by
    simp only [pickEnv] at h
    cases hx : look x l with
    | none => rw [hx] at h; exact look_pickEnv h
    | some u =>
      rw [hx] at h
      simp only at h
      rw [look_cons] at h
      by_cases e : x = t
      · subst e; rw [if_pos rfl] at h; rw [hx]; exact h
      · rw [if_neg e] at h; exact look_pickEnv h
theorem look_pickObj {l : List (Nat × Ob)} {t : Nat} : ∀ {ts : List Nat}, look t (pickObj l ts) = match has t ts with | true => look t l | false => none
  | [] => rfl
  | x :: ts => by
    simp only [pickObj, has]
    by_cases e : x = t
    · subst e
      have hb : Nat.beq x x = true := by simp
      rw [hb]
      cases hx : look x l with
      | none =>
        simp only
        rw [look_pickObj]
        split
        · exact hx
        · rfl
      | some u => simp only; rw [look_cons, if_pos rfl]
    · have hb : Nat.beq x t = false := Bool.eq_false_iff.2 fun h => e (Nat.eq_of_beq_eq_true h)
      rw [hb]
      cases hx : look x l with
      | none => simp only; exact look_pickObj
      | some u => simp only; rw [look_cons, if_neg e]; exact look_pickObj

theorem within_id {ks : List Nat} {k j : Nat} (h : Pm.within ks k = some j) : j = k := by
  unfold Pm.within at h
  split at h
  · cases h; rfl
  · cases h
theorem smallsIn_ok : ∀ {l : List (Nat × Ob)} {ks : List Nat}, smallsIn l ks = true → ∀ k o, look k l = some o → k < 10000 → has k ks = true
  | [], ks, _, k, o, h, _ => by cases h
  | (j, x) :: l, ks, hh, k, o, h, hk => by
    rw [look_cons] at h
    simp only [smallsIn] at hh
    by_cases e : j = k
    · subst e
      cases hb : Nat.ble 10000 j with
      | true => have := Nat.le_of_ble_eq_true hb; omega
      | false =>
        rw [hb] at hh
        simp only at hh
        cases hj : has j ks with
        | true => rfl
        | false => rw [hj] at hh; cases hh
    · rw [if_neg e] at h
      cases hb : Nat.ble 10000 j with
      | true => rw [hb] at hh; exact smallsIn_ok hh k o h hk
      | false =>
        rw [hb] at hh
        simp only at hh
        cases hj : has j ks with
        | true => rw [hj] at hh; exact smallsIn_ok hh k o h hk
        | false => rw [hj] at hh; cases hh

section
variable {cx : Cx} {X0 : Nat → Prop} {J : Nat → Option Place} {st : St} {a : Act} {w : World} {K : Ex → St → Prop} {Q : Exit → Act → World → Prop}

/-- Slots and blocks may be forgotten. -/
theorem only_rel (r : Rel X0 J st a w) {L Ko : List Nat} (hs : smallsIn st.obj Ko = true) : ∃ J', Rel X0 J' (st.only L Ko) a w ∧ Step J w J' w := by
  let J' : Nat → Option Place := fun k => match has k Ko with | true => J k | false => none
  have hJ : ∀ {k p}, J' k = some p → J k = some p ∧ has k Ko = true := by
    intro k p h
    have h' : (match has k Ko with | true => J k | false => none) = some p := h
    cases hk : has k Ko with
    | true => rw [hk] at h'; exact ⟨h', rfl⟩
    | false => rw [hk] at h'; cases h'
  have hJ' : ∀ {k}, has k Ko = true → J' k = J k := by
    intro k hk
    show (match has k Ko with | true => J k | false => none) = _
    rw [hk]
  have hX : ∀ b, Xof X0 J' b → Xof X0 J b := by
    rintro b (h | ⟨k, p, hp, hb⟩)
    · exact .inl h
    · exact .inr ⟨k, p, (hJ hp).1, hb⟩
  have hJJ : ∀ k p j, J k = some p → Pm.within Ko k = some j → ∃ p', J' j = some p' ∧ p.like p' := by
    intro k p j hp hj
    have e := within_id hj
    subst e
    unfold Pm.within at hj
    split at hj
    · rename_i hk; exact ⟨p, by rw [hJ' hk]; exact hp, p.like_refl⟩
    · cases hj
  have hobj : ∀ k, look k (st.only L Ko).obj = match has k Ko with | true => (look k st.obj).map (Ob.ren (Pm.within Ko)) | false => none := by
    intro k
    show look k (renObj (Pm.within Ko) (pickObj st.obj Ko)) = _
    rw [look_renObj (fun k j h => within_id h), look_pickObj]
    unfold Pm.within
    cases has k Ko <;> rfl
  refine ⟨J', ⟨fun t v ht => ?_, ⟨fun k o ho => ?_, fun k p hp => ?_, fun k k' p p' hp hp' => r.mem.sep k k' p p' (hJ hp).1 (hJ hp').1, fun k p hp => r.mem.nd k p (hJ hp).1, fun b hb => ⟨(r.mem.x0 b hb).1, fun k p hp => (r.mem.x0 b hb).2 k p (hJ hp).1⟩⟩, r.defers⟩, ?_⟩
  · have ht' : look t (renEnv (Pm.within Ko) (pickEnv st.env L)) = some v := ht
    rw [look_renEnv] at ht'
    cases hv : look t (pickEnv st.env L) with
    | none => rw [hv] at ht'; cases ht'
    | some v0 =>
      rw [hv] at ht'
      cases ht'
      obtain ⟨u, hu, hr⟩ := r.env t v0 (look_pickEnv hv)
      exact ⟨u, hu, AV.rep_ren (fun b _ hx h => hx (hX b h)) (fun _ _ _ => rfl) hJJ v0 u hr⟩
  · rw [hobj] at ho
    cases hk : has k Ko with
    | false => rw [hk] at ho; cases ho
    | true =>
      rw [hk] at ho
      simp only at ho
      cases hv : look k st.obj with
      | none => rw [hv] at ho; cases ho
      | some o0 =>
        rw [hv] at ho
        cases ho
        obtain ⟨p, hp, hr⟩ := r.mem.ob k o0 hv
        exact ⟨p, by rw [hJ' hk]; exact hp, Ob.rep_ren (fun b _ hx h => hx (hX b h)) (fun _ _ _ => rfl) hJJ hr⟩
  · rw [hobj, (hJ hp).2]
    obtain ⟨o, ho⟩ := r.mem.dom k p (hJ hp).1
    exact ⟨o.ren (Pm.within Ko), by simp only; rw [show look k st.obj = some o from ho]; rfl⟩
  · refine ⟨Kept.refl _ w, fun k p b hp hb => .inl ⟨k, p, (hJ hp).1, hb⟩, fun k p hk hp => ?_⟩
    obtain ⟨o, ho⟩ := r.mem.dom k p hp
    exact ⟨p, by rw [hJ' (smallsIn_ok hs k o ho hk)]; exact hp, p.like_refl⟩

/-- What the walk's exits lead to. -/
def LeadsTo (X0 : Nat → Prop) (J : Nat → Option Place) (a : Act) (w : World) (K : Ex → St → Prop) (Q : Exit → Act → World → Prop) : Prop :=
  ∀ e st' J' a' w', K e st' → Rel X0 J' st' a' w' → a'.tmps.size = a.tmps.size → Step J w J' w' →
    Q (match e with | .normal => .normal | .exit i => .exit i | .ret => .ret) a' w'

theorem LeadsTo.then {J' : Nat → Option Place} {a' : Act} {w' : World} (hs : a'.tmps.size = a.tmps.size) (s : Step J w J' w') (h : LeadsTo X0 J a w K Q) : LeadsTo X0 J' a' w' K Q :=
  fun e st2 J2 a2 w2 hK hr h2 s2 => h e st2 J2 a2 w2 hK hr (h2.trans hs) (s.trans s2)

theorem exists_least (R : Nat → Prop) (h : ∃ n, R n) : ∃ n, R n ∧ ∀ m, R m → n ≤ m := by
  obtain ⟨n, hn⟩ := h
  induction n using Nat.strongRecOn with
  | _ n ih =>
    by_cases hh : ∃ m, m < n ∧ R m
    · obtain ⟨m, hm, hr⟩ := hh
      exact ih m hm hr
    · exact ⟨n, hn, fun m hm => Nat.le_of_not_lt fun hlt => hh ⟨m, hlt, hm⟩⟩

/-- A loop, with something that the machine does not show. -/
theorem wp_loop_ghost {G : Type} {c : Code} (I : G → Act → World → Prop) (μ : G → Nat) {g : G} (h0 : I g a w)
    (round : ∀ g a w, I g a w → c.wp P (Exit.then (fun a' w' => ∃ g', I g' a' w' ∧ μ g' < μ g) Q) a w) : (Code.loop c).wp P Q a w := by
  classical
  let R : Act → World → Nat → Prop := fun a w n => ∃ g, I g a w ∧ μ g = n
  let ν : Act → World → Nat := fun a w => if h : ∃ n, R a w n then Classical.choose (exists_least (R a w) h) else 0
  refine wp_loop (fun a w => ∃ g, I g a w) ν ⟨g, h0⟩ fun a w hI => ?_
  have hex : ∃ n, R a w n := let ⟨g, hg⟩ := hI; ⟨μ g, g, hg, rfl⟩
  obtain ⟨g, hg, hμ⟩ := (Classical.choose_spec (exists_least (R a w) hex)).1
  refine wp_mono (round g a w hg) fun e a' w' hq => ?_
  cases e with
  | normal =>
    obtain ⟨g', hg', hlt⟩ := hq
    refine ⟨⟨g', hg'⟩, ?_⟩
    have hex' : ∃ n, R a' w' n := ⟨μ g', g', hg', rfl⟩
    show (if h : ∃ n, R a' w' n then Classical.choose (exists_least (R a' w') h) else 0) < (if h : ∃ n, R a w n then Classical.choose (exists_least (R a w) h) else 0)
    rw [dif_pos hex', dif_pos hex, ← hμ]
    exact Nat.lt_of_le_of_lt ((Classical.choose_spec (exists_least (R a' w') hex')).2 _ ⟨g', hg', rfl⟩) hlt
  | _ => exact hq

theorem evk_sound (tok : TOk P cx.T) (hm : P.follows .mixedOrders = true) {n : Nat} : ∀ (c : Code) (K : Ex → St → Prop) (st : St) (J : Nat → Option Place) (a : Act) (w : World) (Q : Exit → Act → World → Prop),
    codeOk n c = true → a.tmps.size = n → Rel X0 J st a w → LeadsTo X0 J a w K Q → evk P cx c K st → c.wp P Q a w
  | .skip, K, st, J, a, w, Q, _, hs, r, hl, hc => wp_skip (hl .normal st J a w hc r rfl (Step.refl J w))
  | .exit i, K, st, J, a, w, Q, _, hs, r, hl, hc => wp_exit (hl (.exit i) st J a w hc r rfl (Step.refl J w))
  | .ret, K, st, J, a, w, Q, _, hs, r, hl, hc => wp_ret (hl .ret st J a w hc r rfl (Step.refl J w))
  | .region id ops draw, K, st, J, a, w, Q, hok, hs, r, hl, hc => by
    simp only [codeOk] at hok
    have hdst := dstOk_ok hok
    rw [← hs] at hdst
    simp only [evk, St.force_eq] at hc
    cases draw with
    | false => exact region_sound tok r hdst (fun st' J' a' w' hK hr h1 h2 => hl .normal st' J' a' w' hK hr h1 h2) hc
    | true =>
      obtain ⟨⟨c⟩, hc⟩ := hc
      cases c with
      | none => exact draw_soundS tok hm r hdst (fun st' J' a' w' hK hr h1 h2 => hl .normal st' J' a' w' hK hr h1 h2) hc
      | some c =>
        obtain ⟨L, Ko, I⟩ := c
        obtain ⟨hc, hI⟩ := hc
        refine draw_soundS tok hm r hdst (fun st' J' a' w' hK hr h1 h2 => ?_) hc
        obtain ⟨J3, hr3, hs3⟩ := only_rel (L := L) hr hK.1
        exact hl .normal _ J3 a' w' (hI _ hK.2) hr3 h1 (h2.trans hs3)
  | .seq x y, K, st, J, a, w, Q, hok, hs, r, hl, hc => by
    simp only [codeOk] at hok
    cases hx : codeOk n x with
    | false => rw [hx] at hok; cases hok
    | true =>
      rw [hx] at hok
      simp only [evk] at hc
      refine wp_seq (evk_sound tok hm x _ st J a w _ hx hs r ?_ hc)
      intro e st' J' a' w' hK hr h1 h2
      cases e with
      | normal => exact evk_sound tok hm y K st' J' a' w' Q hok (h1.trans hs) hr (hl.then h1 h2) hK
      | exit i => exact hl (.exit i) st' J' a' w' hK hr h1 h2
      | ret => exact hl .ret st' J' a' w' hK hr h1 h2
  | .cond c x y, K, st, J, a, w, Q, hok, hs, r, hl, hc => by
    simp only [codeOk] at hok
    cases hx : codeOk n x with
    | false => rw [hx] at hok; cases hok
    | true =>
      rw [hx] at hok
      simp only [evk] at hc
      split at hc
      · rename_i t ht
        have hb : a.eval c = .bool t := by have := r.ev ht; simp only [AV.rep, D.rep] at this; exact this.1
        cases t
        · exact wp_cond_false hb (evk_sound tok hm y K st J a w Q hok hs r hl hc)
        · exact wp_cond_true hb (evk_sound tok hm x K st J a w Q hx hs r hl hc)
      · exact hc.elim
  | .block id b, K, st, J, a, w, Q, hok, hs, r, hl, hc => by
    simp only [codeOk] at hok
    simp only [evk] at hc
    refine wp_block (evk_sound tok hm b _ st J a w _ hok hs r ?_ hc)
    intro e st' J' a' w' hK hr h1 h2
    cases e with
    | normal => exact hl .normal st' J' a' w' hK hr h1 h2
    | exit i =>
      simp only at hK
      show (if i = id then Q .normal a' w' else Q (.exit i) a' w')
      by_cases e : i = id
      · rw [if_pos e]
        have : Nat.beq i id = true := by simpa using e
        rw [this] at hK
        exact hl .normal st' J' a' w' hK hr h1 h2
      · rw [if_neg e]
        have : Nat.beq i id = false := Bool.eq_false_iff.2 fun h => e (Nat.eq_of_beq_eq_true h)
        rw [this] at hK
        exact hl (.exit i) st' J' a' w' hK hr h1 h2
    | ret => exact hl .ret st' J' a' w' hK hr h1 h2
  | .loop b, K, st, J, a, w, Q, hok, hs, r, hl, hc => by
    simp only [codeOk] at hok
    simp only [evk] at hc
    obtain ⟨L, Ko, I, μ, hsm, hI, hround⟩ := hc
    obtain ⟨J1, hr1, hs1⟩ := only_rel (L := L) r hsm
    refine wp_loop_ghost (G := St) (fun s a' w' => I s ∧ a'.tmps.size = n ∧ ∃ J', Rel X0 J' s a' w' ∧ Step J w J' w') μ (g := st.only L Ko) ⟨hI, hs, J1, hr1, hs1⟩ ?_
    rintro s a' w' ⟨hIs, hsz, J', hr, hst⟩
    refine evk_sound tok hm b _ s J' a' w' _ hok hsz hr ?_ (hround s hIs)
    intro e st2 J2 a2 w2 hK hr2 h1 h2
    cases e with
    | normal =>
      obtain ⟨h3, h4, h5⟩ := hK
      obtain ⟨J3, hr3, hs3⟩ := only_rel (L := L) hr2 h3
      exact ⟨st2.only L Ko, ⟨h4, h1.trans hsz, J3, hr3, (hst.trans h2).trans hs3⟩, h5⟩
    | exit i => exact hl (.exit i) st2 J2 a2 w2 hK hr2 (h1.trans (hsz.trans hs.symm)) (hst.trans h2)
    | ret => exact hl .ret st2 J2 a2 w2 hK hr2 (h1.trans (hsz.trans hs.symm)) (hst.trans h2)
  | .rangeFunc .., K, st, J, a, w, Q, _, _, _, _, hc => hc.elim
  | .scope .., K, st, J, a, w, Q, _, _, _, _, hc => hc.elim
  | .label .., K, st, J, a, w, Q, _, _, _, _, hc => hc.elim
  | .goto .., K, st, J, a, w, Q, _, _, _, _, hc => hc.elim
  | .refuse .., K, st, J, a, w, Q, _, _, _, _, hc => hc.elim
end
end Go.Pm
