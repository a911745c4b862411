/-
A walk of Go's code over values: the code.
-/
import Derived.Test.YtjjnmkhcdbmhoaaPmRe
namespace Go.Pm
open Go
set_option linter.unusedVariables false
variable {P : Program}

def smallsIn : List (Nat × Ob) → List Nat → Bool
  | [], _ => true
  | (k, _) :: r, ks => match Nat.ble 10000 k with | true => smallsIn r ks | false => match has k ks with | true => smallsIn r ks | false => false

def dstOk (n : Nat) : List Oper → Bool
  | [] => true
  | o :: r => match o.dst with | some d => (match Nat.blt d n with | true => dstOk n r | false => false) | none => dstOk n r
def codeOk (n : Nat) : Code → Bool
  | .region _ ops _ => dstOk n ops.toList
  | .seq a b => match codeOk n a with | true => codeOk n b | false => false
  | .cond _ a b => match codeOk n a with | true => codeOk n b | false => false
  | .block _ b => codeOk n b
  | .loop b => codeOk n b
  | _ => true

def St.smalls (st : St) (ks : List Nat) : Prop := smallsIn st.obj ks = true

/-! A state brought to a form of one's choice: arrays made whole, slices without a block named. -/
def KO.key : KO → Nat
  | .k n => n
  | .slot n _ _ _ => n
  | .part n _ _ _ _ => n
  | .cell n _ _ _ _ => n
def keysOf : List KO → List Nat
  | [] => []
  | x :: r => x.key :: keysOf r
/-- The cell c, if it is nil, under that name. -/
def nameCell (key : Nat) : Nat → List AV → Option (List AV)
  | 0, .snil :: r => some (.own key :: r)
  | n + 1, v :: r => match nameCell key n r with | some l => some (v :: l) | none => none
  | _, _ => none
def St.name (st : St) (key sz : Nat) (deep : Bool) : St := st.set key (.arr sz deep [])
def isFree (st : St) (key sz : Nat) : Bool := match look key st.obj with | none => Nat.ble 10000 key && Nat.blt 0 sz | some _ => false
def KO.norm (ks : List Nat) (st : St) : KO → St
  | .k n => match look n st.obj with
    | some (.opn _ _ els) => match inside (elKeys els) ks with | true => st | false => st.shut n
    | _ => st
  | .slot key sz deep s => match look s st.env with
    | some .snil => match isFree st key sz with | true => (st.name key sz deep).put (some s) (.own key) | false => st
    | _ => st
  | .part key sz deep s c => match look s st.env with
    | some (.agg cs) => match nameCell key c cs with
      | some cs' => match isFree st key sz with | true => (st.name key sz deep).put (some s) (.agg cs') | false => st
      | none => st
    | _ => st
  | .cell key sz deep b c => match look b st.obj with
    | some (.var cells) => match nameCell key c cells with
      | some cs' => match isFree st key sz && !(Nat.beq key b) with | true => (st.name key sz deep).set b (.var cs') | false => st
      | none => st
    | _ => st
def normL (ks : List Nat) : List KO → St → St
  | [], st => st
  | x :: r, st => normL ks r (x.norm ks st)
def plainK : List KO → Bool
  | [] => true
  | .k _ :: r => plainK r
  | _ => false
def St.norm (st : St) (Ko : List KO) : St := match plainK Ko with
  | false => normL (keysOf Ko) Ko st
  | true => match anyOpn st.obj with | false => st | true => normL (keysOf Ko) Ko st

/-- The nil slices that are named ahead of a region. -/
def nmOf (id : Nat) : List (Nat × List KO) → List KO
  | [] => []
  | (i, l) :: r => match Nat.beq i id with | true => l | false => nmOf id r
/-- How a drawn region is cut off from what stands behind it: by the slots and blocks that are kept, and what is then true; or not at all. -/
structure Cut (id : Nat) where
  c : Option (List Nat × List KO × (St → Prop))
/-- The code. -/
def evk (P : Program) (cx : Cx) : Code → (Ex → St → Prop) → St → Prop
  | .skip, K, st => K .normal st
  | .region id ops draw, K, st => match draw with
    | false => match nmOf id cx.nm with
      | [] => evOps P cx ops.toList (fun s => s.force (K .normal)) ops.toList st
      | Ko => (st.norm Ko).force fun st => evOps P cx ops.toList (fun s => s.force (K .normal)) ops.toList st
    | true => ∃ c : Cut id, match c.c with
      | none => esAt P cx ops.toList (fun s => s.force (K .normal)) ops.size [] [] st
      | some (L, Ko, I) => esAt P cx ops.toList (fun s => smallsIn (s.norm Ko).obj (keysOf Ko) = true ∧ ((s.norm Ko).only L (keysOf Ko)).force I) ops.size [] [] st ∧ ∀ s, I s → s.force (K .normal)
  | .seq a b, K, st => evk P cx a (fun e s => match e with | .normal => evk P cx b K s | .exit i => K (.exit i) s | .ret => K .ret s) st
  | .cond c a b, K, st => match st.ev c with
    | some (.d (.b t)) => (match t with | true => evk P cx a K st | false => evk P cx b K st)
    | _ => False
  | .block id b, K, st => evk P cx b (fun e s => match e with
    | .normal => K .normal s
    | .exit i => (match Nat.beq i id with | true => K .normal s | false => K (.exit i) s)
    | .ret => K .ret s) st
  | .loop b, K, st => ∃ (L : List Nat) (Ko : List KO) (I : St → Prop) (μ : St → Nat), smallsIn (st.norm Ko).obj (keysOf Ko) = true ∧ I ((st.norm Ko).only L (keysOf Ko)) ∧
      ∀ s, I s → evk P cx b (fun e s' => match e with
        | .normal => smallsIn (s'.norm Ko).obj (keysOf Ko) = true ∧ I ((s'.norm Ko).only L (keysOf Ko)) ∧ μ ((s'.norm Ko).only L (keysOf Ko)) < μ s
        | .exit i => K (.exit i) s'
        | .ret => K .ret s') s
  | .exit i, K, st => K (.exit i) st
  | .ret, K, st => K .ret st
  | _, _, _ => False

theorem dstOk_ok {n : Nat} : ∀ {l : List Oper}, dstOk n l = true → ∀ o ∈ l, ∀ d, o.dst = some d → d < n
  | [], _, o, h, _, _ => by cases h
  | x :: l, hh, o, h, d, hd => by
    simp only [dstOk] at hh
    rcases List.mem_cons.1 h with rfl | h
    · rw [hd] at hh
      simp only at hh
      cases hb : Nat.blt d n with
      | true => exact Nat.le_of_ble_eq_true hb
      | false => rw [hb] at hh; cases hh
    · cases hx : x.dst with
      | none => rw [hx] at hh; exact dstOk_ok hh o h d hd
      | some e =>
        rw [hx] at hh
        simp only at hh
        cases hb : Nat.blt e n with
        | true => rw [hb] at hh; exact dstOk_ok hh o h d hd
        | false => rw [hb] at hh; cases hh

theorem look_pickEnv {l : List (Nat × AV)} {t : Nat} {v : AV} : ∀ {ts : List Nat}, look t (pickEnv l ts) = some v → look t l = some v
  | [], h => by cases h
  | x :: ts, h => by
    simp only [pickEnv] at h
    cases hx : look x l with
    | none => rw [hx] at h; exact look_pickEnv h
    | some u =>
      rw [hx] at h
      simp only at h
      rw [look_cons] at h
      by_cases e : x = t
      · subst e; rw [if_pos rfl] at h; rw [hx]; exact h
      · rw [if_neg e] at h; exact look_pickEnv h
theorem look_pickObj {l : List (Nat × Ob)} {t : Nat} : ∀ {ts : List Nat}, look t (pickObj l ts) = match has t ts with | true => look t l | false => none
  | [] => rfl
  | x :: ts => by
    simp only [pickObj, has]
    by_cases e : x = t
    · subst e
      have hb : Nat.beq x x = true := by simp
      rw [hb]
      cases hx : look x l with
      | none =>
        simp only
        rw [look_pickObj]
        split
        · exact hx
        · rfl
      | some u => simp only; rw [look_cons, if_pos rfl]
    · have hb : Nat.beq x t = false := Bool.eq_false_iff.2 fun h => e (Nat.eq_of_beq_eq_true h)
      rw [hb]
      cases hx : look x l with
      | none => simp only; exact look_pickObj
      | some u => simp only; rw [look_cons, if_neg e]; exact look_pickObj

theorem within_id {ks : List Nat} {k j : Nat} (h : Pm.within ks k = some j) : j = k := by
  unfold Pm.within at h
  split at h
  · cases h; rfl
  · cases h
theorem smallsIn_ok : ∀ {l : List (Nat × Ob)} {ks : List Nat}, smallsIn l ks = true → ∀ k o, look k l = some o → k < 10000 → has k ks = true
  | [], ks, _, k, o, h, _ => by cases h
  | (j, x) :: l, ks, hh, k, o, h, hk => by
    rw [look_cons] at h
    simp only [smallsIn] at hh
    by_cases e : j = k
    · subst e
      cases hb : Nat.ble 10000 j with
      | true => have := Nat.le_of_ble_eq_true hb; omega
      | false =>
        rw [hb] at hh
        simp only at hh
        cases hj : has j ks with
        | true => rfl
        | false => rw [hj] at hh; cases hh
    · rw [if_neg e] at h
      cases hb : Nat.ble 10000 j with
      | true => rw [hb] at hh; exact smallsIn_ok hh k o h hk
      | false =>
        rw [hb] at hh
        simp only at hh
        cases hj : has j ks with
        | true => rw [hj] at hh; exact smallsIn_ok hh k o h hk
        | false => rw [hj] at hh; cases hh

section
variable {cx : Cx} {X0 : Nat → Prop} {J : Nat → Option Place} {st : St} {a : Act} {w : World} {K : Ex → St → Prop} {Q : Exit → Act → World → Prop}

/-- Slots and blocks may be forgotten. -/
theorem only_rel (r : Rel X0 J st a w) {L Ko : List Nat} (hs : smallsIn st.obj Ko = true) : ∃ J', Rel X0 J' (st.only L Ko) a w ∧ Step J w J' w := by
  let J' : Nat → Option Place := fun k => match has k Ko with | true => J k | false => none
  have hJ : ∀ {k p}, J' k = some p → J k = some p ∧ has k Ko = true := by
    intro k p h
    have h' : (match has k Ko with | true => J k | false => none) = some p := h
    cases hk : has k Ko with
    | true => rw [hk] at h'; exact ⟨h', rfl⟩
    | false => rw [hk] at h'; cases h'
  have hJ' : ∀ {k}, has k Ko = true → J' k = J k := by
    intro k hk
    show (match has k Ko with | true => J k | false => none) = _
    rw [hk]
  have hX : ∀ b, Xof X0 J' b → Xof X0 J b := by
    rintro b (h | ⟨k, p, hp, hb⟩)
    · exact .inl h
    · exact .inr ⟨k, p, (hJ hp).1, hb⟩
  have hJJ : ∀ k p j, J k = some p → Pm.within Ko k = some j → ∃ p', J' j = some p' ∧ p.like p' := by
    intro k p j hp hj
    have e := within_id hj
    subst e
    unfold Pm.within at hj
    split at hj
    · rename_i hk; exact ⟨p, by rw [hJ' hk]; exact hp, p.like_refl⟩
    · cases hj
  have hobj : ∀ k, look k (st.only L Ko).obj = match has k Ko with | true => (look k st.obj).map (Ob.ren (Pm.within Ko)) | false => none := by
    intro k
    show look k (renObj (Pm.within Ko) (pickObj st.obj Ko)) = _
    rw [look_renObj (fun k j h => within_id h), look_pickObj]
    unfold Pm.within
    cases has k Ko <;> rfl
  refine ⟨J', ⟨fun t v ht => ?_, ⟨fun k o ho => ?_, fun k p hp => ?_, fun k k' p p' hp hp' => r.mem.sep k k' p p' (hJ hp).1 (hJ hp').1, fun k p hp => r.mem.nd k p (hJ hp).1, fun b hb => ⟨(r.mem.x0 b hb).1, fun k p hp => (r.mem.x0 b hb).2 k p (hJ hp).1⟩⟩, r.defers⟩, ?_⟩
  · have ht' : look t (renEnv (Pm.within Ko) (pickEnv st.env L)) = some v := ht
    rw [look_renEnv] at ht'
    cases hv : look t (pickEnv st.env L) with
    | none => rw [hv] at ht'; cases ht'
    | some v0 =>
      rw [hv] at ht'
      cases ht'
      obtain ⟨u, hu, hr⟩ := r.env t v0 (look_pickEnv hv)
      exact ⟨u, hu, AV.rep_ren (fun b _ hx h => hx (hX b h)) (fun _ _ _ => rfl) hJJ v0 u hr⟩
  · rw [hobj] at ho
    cases hk : has k Ko with
    | false => rw [hk] at ho; cases ho
    | true =>
      rw [hk] at ho
      simp only at ho
      cases hv : look k st.obj with
      | none => rw [hv] at ho; cases ho
      | some o0 =>
        rw [hv] at ho
        cases ho
        obtain ⟨p, hp, hr⟩ := r.mem.ob k o0 hv
        exact ⟨p, by rw [hJ' hk]; exact hp, Ob.rep_ren (fun b _ hx h => hx (hX b h)) (fun _ _ _ => rfl) hJJ hr⟩
  · rw [hobj, (hJ hp).2]
    obtain ⟨o, ho⟩ := r.mem.dom k p (hJ hp).1
    exact ⟨o.ren (Pm.within Ko), by simp only; rw [show look k st.obj = some o from ho]; rfl⟩
  · refine ⟨Kept.refl _ w, fun k p b hp hb => .inl ⟨k, p, (hJ hp).1, hb⟩, fun k p hk hp => ?_⟩
    obtain ⟨o, ho⟩ := r.mem.dom k p hp
    exact ⟨p, by rw [hJ' (smallsIn_ok hs k o ho hk)]; exact hp, p.like_refl⟩

/-- What the walk's exits lead to. -/
def LeadsTo (X0 : Nat → Prop) (J : Nat → Option Place) (a : Act) (w : World) (K : Ex → St → Prop) (Q : Exit → Act → World → Prop) : Prop :=
  ∀ e st' J' a' w', K e st' → Rel X0 J' st' a' w' → a'.tmps.size = a.tmps.size → Step J w J' w' →
    Q (match e with | .normal => .normal | .exit i => .exit i | .ret => .ret) a' w'

theorem LeadsTo.then {J' : Nat → Option Place} {a' : Act} {w' : World} (hs : a'.tmps.size = a.tmps.size) (s : Step J w J' w') (h : LeadsTo X0 J a w K Q) : LeadsTo X0 J' a' w' K Q :=
  fun e st2 J2 a2 w2 hK hr h2 s2 => h e st2 J2 a2 w2 hK hr (h2.trans hs) (s.trans s2)

theorem exists_least (R : Nat → Prop) (h : ∃ n, R n) : ∃ n, R n ∧ ∀ m, R m → n ≤ m := by
  obtain ⟨n, hn⟩ := h
  induction n using Nat.strongRecOn with
  | _ n ih =>
    by_cases hh : ∃ m, m < n ∧ R m
    · obtain ⟨m, hm, hr⟩ := hh
      exact ih m hm hr
    · exact ⟨n, hn, fun m hm => Nat.le_of_not_lt fun hlt => hh ⟨m, hlt, hm⟩⟩

/-- A loop, with something that the machine does not show. -/
theorem wp_loop_ghost {G : Type} {c : Code} (I : G → Act → World → Prop) (μ : G → Nat) {g : G} (h0 : I g a w)
    (round : ∀ g a w, I g a w → c.wp P (Exit.then (fun a' w' => ∃ g', I g' a' w' ∧ μ g' < μ g) Q) a w) : (Code.loop c).wp P Q a w := by
  classical
  let R : Act → World → Nat → Prop := fun a w n => ∃ g, I g a w ∧ μ g = n
  let ν : Act → World → Nat := fun a w => if h : ∃ n, R a w n then Classical.choose (exists_least (R a w) h) else 0
  refine wp_loop (fun a w => ∃ g, I g a w) ν ⟨g, h0⟩ fun a w hI => ?_
  have hex : ∃ n, R a w n := let ⟨g, hg⟩ := hI; ⟨μ g, g, hg, rfl⟩
  obtain ⟨g, hg, hμ⟩ := (Classical.choose_spec (exists_least (R a w) hex)).1
  refine wp_mono (round g a w hg) fun e a' w' hq => ?_
  cases e with
  | normal =>
    obtain ⟨g', hg', hlt⟩ := hq
    refine ⟨⟨g', hg'⟩, ?_⟩
    have hex' : ∃ n, R a' w' n := ⟨μ g', g', hg', rfl⟩
    show (if h : ∃ n, R a' w' n then Classical.choose (exists_least (R a' w') h) else 0) < (if h : ∃ n, R a w n then Classical.choose (exists_least (R a w) h) else 0)
    rw [dif_pos hex', dif_pos hex, ← hμ]
    exact Nat.lt_of_le_of_lt ((Classical.choose_spec (exists_least (R a' w') hex')).2 _ ⟨g', hg', rfl⟩) hlt
  | _ => exact hq

/-- A nil slice under a name of its own. -/
theorem name_rel (r : Rel X0 J st a w) {key sz : Nat} {deep : Bool} (hf : isFree st key sz = true) : ∃ J', Rel X0 J' (st.name key sz deep) a w ∧ Step J w J' w ∧ (AV.own key).rep w (Xof X0 J') J' (.slice none 0 0) ∧
    (∀ x v, AV.rep w (Xof X0 J) J x v → x.rep w (Xof X0 J') J' v) ∧ 10000 ≤ key := by
  unfold isFree at hf
  split at hf
  case h_2 => cases hf
  rename_i hl
  simp only [Bool.and_eq_true] at hf
  have hbig := Nat.le_of_ble_eq_true hf.1
  have hsz : 0 < sz := by simpa [Nat.blt_eq] using hf.2
  have hJ0 : J key = none := r.mem.free hl
  have hgen := r.mem.gen (J' := fun k => if k = key then some ⟨0, [], .slice none 0 0, false⟩ else J k) (w' := w) (f := some) (F := fun _ => False) (C := [key]) (obj' := fun q => look q (st.name key sz deep).obj)
    (fun k j h => (Option.some.inj h).symm) (fun _ _ => rfl)
    (fun k hk p hp => by rw [List.mem_singleton.1 hk, hJ0] at hp; cases hp)
    (fun k hk => by simp only [if_neg (fun h => hk (List.mem_singleton.2 h))])
    (fun k hk => by
      show look k (st.set key _).obj = _
      rw [St.set_look, if_neg (fun h => hk (List.mem_singleton.2 h.symm))]
      simp only; rw [ren_some_map])
    (fun k hk p _ => by rw [List.mem_singleton.1 hk]; exact ⟨_, by show look key (st.set key _).obj = _; rw [St.set_look, if_pos rfl]⟩)
    (fun k hk o ho => by
      rw [List.mem_singleton.1 hk] at ho ⊢
      have ho : look key (st.set key (.arr sz deep [])).obj = some o := ho
      rw [St.set_look, if_pos rfl] at ho
      cases ho
      exact ⟨_, if_pos rfl, hsz, none, 0, rfl, Nat.le_refl _, .inl ⟨rfl, rfl, rfl⟩⟩)
    (Kept.refl _ w) (fun _ h => h.elim)
    (fun k hk p hp => by rw [List.mem_singleton.1 hk] at hp; simp only [if_true] at hp; cases hp; exact List.nodup_nil)
    (fun k hk p hp b hb => by rw [List.mem_singleton.1 hk] at hp; simp only [if_true] at hp; cases hp; cases hb)
    (fun k k' p p' hk hk' _ _ hne => absurd ((List.mem_singleton.1 hk).trans (List.mem_singleton.1 hk').symm) hne)
  obtain ⟨m', tr, stp⟩ := hgen
  have tr' : ∀ x v, AV.rep w (Xof X0 J) J x v → x.rep w (Xof X0 _) _ v := fun x v h => by have := tr x v h; rwa [AV.ren_some] at this
  refine ⟨_, ⟨fun t v ht => ?_, m', r.defers⟩, stp, ?_, tr', hbig⟩
  · obtain ⟨u, hu, hr⟩ := r.env t v ht
    exact ⟨u, hu, tr' v u hr⟩
  · simp only [AV.rep]
    exact ⟨⟨0, [], .slice none 0 0, false⟩, by simp, rfl, rfl⟩
theorem nameCell_rep {X : Nat → Prop} {key : Nat} (hk : (AV.own key).rep w X J (.slice none 0 0)) : ∀ {c : Nat} {cs cs' : List AV} {us : List Value}, nameCell key c cs = some cs' → AV.repL w X J cs us → AV.repL w X J cs' us
  | 0, v :: r, cs', us, h, hr => by
    cases v <;> simp only [nameCell] at h <;> try (cases h; done)
    cases h
    simp only [AV.repL] at hr ⊢
    obtain ⟨u, us', rfl, h1, h2⟩ := hr
    simp only [AV.rep] at h1
    subst h1
    exact ⟨_, us', rfl, hk, h2⟩
  | 0, [], cs', us, h, hr => by simp [nameCell] at h
  | c + 1, [], cs', us, h, hr => by simp [nameCell] at h
  | c + 1, v :: r, cs', us, h, hr => by
    simp only [nameCell] at h
    split at h
    · rename_i l hl
      cases h
      simp only [AV.repL] at hr ⊢
      obtain ⟨u, us', rfl, h1, h2⟩ := hr
      exact ⟨u, us', rfl, h1, nameCell_rep hk hl h2⟩
    · cases h
theorem Rel.reput (r : Rel X0 J st a w) {s : Nat} {v v' : AV} (hs : look s st.env = some v) (hv : ∀ u, v.rep w (Xof X0 J) J u → v'.rep w (Xof X0 J) J u) : Rel X0 J (st.put (some s) v') a w := by
  refine ⟨fun t x ht => ?_, r.mem, r.defers⟩
  rw [St.put_look] at ht
  split at ht
  · rename_i e
    cases ht
    subst e
    obtain ⟨u, hu, hr⟩ := r.env s v hs
    exact ⟨u, hu, hv u hr⟩
  · exact r.env t x ht
theorem KO.norm_rel (r : Rel X0 J st a w) (ks : List Nat) (x : KO) : ∃ J', Rel X0 J' (x.norm ks st) a w ∧ Step J w J' w := by
  have stay : ∃ J', Rel X0 J' st a w ∧ Step J w J' w := ⟨J, r, Step.refl J w⟩
  cases x with
  | k n =>
    simp only [KO.norm]
    split
    · split
      · exact stay
      · exact shut_rel r n
    · exact stay
  | slot key sz deep s =>
    simp only [KO.norm]
    split
    · rename_i hs
      split
      · rename_i hf
        obtain ⟨J', r', stp, hown, tr, _⟩ := name_rel (deep := deep) r hf
        refine ⟨J', r'.reput (v := .snil) hs fun u hu => ?_, stp⟩
        simp only [AV.rep] at hu
        subst hu
        exact hown
      · exact stay
    · exact stay
  | part key sz deep s c =>
    simp only [KO.norm]
    split
    · rename_i cs hs
      split
      · rename_i cs' hcs
        split
        · rename_i hf
          obtain ⟨J', r', stp, hown, tr, _⟩ := name_rel (deep := deep) r hf
          refine ⟨J', r'.reput (v := .agg cs) hs fun u hu => ?_, stp⟩
          simp only [AV.rep] at hu ⊢
          obtain ⟨vs, rfl, hr⟩ := hu
          exact ⟨vs, rfl, nameCell_rep hown hcs hr⟩
        · exact stay
      · exact stay
    · exact stay
  | cell key sz deep b c =>
    simp only [KO.norm]
    split
    · rename_i cells hb
      split
      · rename_i cs' hcs
        split
        · rename_i hf
          simp only [Bool.and_eq_true, Bool.not_eq_true'] at hf
          have hne : key ≠ b := fun e => by rw [e] at hf; simp at hf
          obtain ⟨J', r', stp, hown, tr, hbig⟩ := name_rel (deep := deep) r hf.1
          have hb' : look b (st.name key sz deep).obj = some (.var cells) := by
            show look b (st.set key _).obj = _
            rw [St.set_look, if_neg hne]; exact hb
          obtain ⟨p, vcs, t, hp, ⟨hh, hn⟩, hh1, hr1⟩ := r'.mem.var hb'
          have hrep : (Ob.var cs').rep w (Xof X0 J') J' p := ⟨hh, hn, vcs, t, hh1, nameCell_rep hown hcs hr1⟩
          obtain ⟨m2, tr2, s2⟩ := Mem.upd (o0 := .var cs') (obj' := (look · ((st.name key sz deep).set b (.var cs')).obj)) (w' := w) r'.mem hp hh (fun j => by
            rw [St.set_look]
            by_cases e : b = j
            · rw [if_pos e, if_pos e.symm]
            · rw [if_neg e, if_neg (Ne.symm e)]) (Kept.refl _ w) hrep
          exact ⟨J', ⟨r'.env, m2, r.defers⟩, stp⟩
        · exact stay
      · exact stay
    · exact stay
theorem normL_rel (ks : List Nat) : ∀ (Ko : List KO) {st : St} {J : Nat → Option Place}, Rel X0 J st a w → ∃ J', Rel X0 J' (normL ks Ko st) a w ∧ Step J w J' w
  | [], st, J, r => ⟨J, r, Step.refl J w⟩
  | x :: Ko, st, J, r => by
    obtain ⟨J1, r1, s1⟩ := KO.norm_rel r ks x
    obtain ⟨J2, r2, s2⟩ := normL_rel ks Ko r1
    exact ⟨J2, r2, s1.trans s2⟩
theorem norm_rel (r : Rel X0 J st a w) (Ko : List KO) : ∃ J', Rel X0 J' (st.norm Ko) a w ∧ Step J w J' w := by
  unfold St.norm
  split
  · exact normL_rel _ Ko r
  · split
    · exact ⟨J, r, Step.refl J w⟩
    · exact normL_rel _ Ko r
theorem only_normed (r : Rel X0 J st a w) {L : List Nat} {Ko : List KO} (hs : smallsIn (st.norm Ko).obj (keysOf Ko) = true) : ∃ J', Rel X0 J' ((st.norm Ko).only L (keysOf Ko)) a w ∧ Step J w J' w := by
  obtain ⟨J1, r1, s1⟩ := norm_rel r Ko
  obtain ⟨J2, r2, s2⟩ := only_rel (L := L) r1 hs
  exact ⟨J2, r2, s1.trans s2⟩
theorem evk_sound (tok : TOk P cx.T) (hm : P.follows .mixedOrders = true) {n : Nat} : ∀ (c : Code) (K : Ex → St → Prop) (st : St) (J : Nat → Option Place) (a : Act) (w : World) (Q : Exit → Act → World → Prop),
    codeOk n c = true → a.tmps.size = n → Rel X0 J st a w → LeadsTo X0 J a w K Q → evk P cx c K st → c.wp P Q a w
  | .skip, K, st, J, a, w, Q, _, hs, r, hl, hc => wp_skip (hl .normal st J a w hc r rfl (Step.refl J w))
  | .exit i, K, st, J, a, w, Q, _, hs, r, hl, hc => wp_exit (hl (.exit i) st J a w hc r rfl (Step.refl J w))
  | .ret, K, st, J, a, w, Q, _, hs, r, hl, hc => wp_ret (hl .ret st J a w hc r rfl (Step.refl J w))
  | .region id ops draw, K, st, J, a, w, Q, hok, hs, r, hl, hc => by
    simp only [codeOk] at hok
    have hdst := dstOk_ok hok
    rw [← hs] at hdst
    simp only [evk, St.force_eq] at hc
    cases draw with
    | false =>
      cases hn : nmOf id cx.nm with
      | nil => rw [hn] at hc; exact region_sound tok r hdst (fun st' J' a' w' hK hr h1 h2 => hl .normal st' J' a' w' hK hr h1 h2) hc
      | cons x y =>
        rw [hn] at hc
        obtain ⟨J3, hr3, hs3⟩ := norm_rel r (x :: y)
        exact region_sound tok hr3 hdst (fun st' J' a' w' hK hr h1 h2 => hl .normal st' J' a' w' hK hr h1 (hs3.trans h2)) hc
    | true =>
      obtain ⟨⟨c⟩, hc⟩ := hc
      cases c with
      | none =>
        simp only [esAt_eq] at hc
        exact draw_soundS tok hm r hdst (fun st' J' a' w' hK hr h1 h2 => hl .normal st' J' a' w' hK hr h1 h2) hc
      | some c =>
        obtain ⟨L, Ko, I⟩ := c
        obtain ⟨hc, hI⟩ := hc
        rw [esAt_eq] at hc
        refine draw_soundS tok hm r hdst (fun st' J' a' w' hK hr h1 h2 => ?_) hc
        obtain ⟨J3, hr3, hs3⟩ := only_normed (L := L) hr hK.1
        exact hl .normal _ J3 a' w' (hI _ hK.2) hr3 h1 (h2.trans hs3)
  | .seq x y, K, st, J, a, w, Q, hok, hs, r, hl, hc => by
    simp only [codeOk] at hok
    cases hx : codeOk n x with
    | false => rw [hx] at hok; cases hok
    | true =>
      rw [hx] at hok
      simp only [evk] at hc
      refine wp_seq (evk_sound tok hm x _ st J a w _ hx hs r ?_ hc)
      intro e st' J' a' w' hK hr h1 h2
      cases e with
      | normal => exact evk_sound tok hm y K st' J' a' w' Q hok (h1.trans hs) hr (hl.then h1 h2) hK
      | exit i => exact hl (.exit i) st' J' a' w' hK hr h1 h2
      | ret => exact hl .ret st' J' a' w' hK hr h1 h2
  | .cond c x y, K, st, J, a, w, Q, hok, hs, r, hl, hc => by
    simp only [codeOk] at hok
    cases hx : codeOk n x with
    | false => rw [hx] at hok; cases hok
    | true =>
      rw [hx] at hok
      simp only [evk] at hc
      split at hc
      · rename_i t ht
        have hb : a.eval c = .bool t := by have := r.ev ht; simp only [AV.rep, D.rep] at this; exact this.1
        cases t
        · exact wp_cond_false hb (evk_sound tok hm y K st J a w Q hok hs r hl hc)
        · exact wp_cond_true hb (evk_sound tok hm x K st J a w Q hx hs r hl hc)
      · exact hc.elim
  | .block id b, K, st, J, a, w, Q, hok, hs, r, hl, hc => by
    simp only [codeOk] at hok
    simp only [evk] at hc
    refine wp_block (evk_sound tok hm b _ st J a w _ hok hs r ?_ hc)
    intro e st' J' a' w' hK hr h1 h2
    cases e with
    | normal => exact hl .normal st' J' a' w' hK hr h1 h2
    | exit i =>
      simp only at hK
      show (if i = id then Q .normal a' w' else Q (.exit i) a' w')
      by_cases e : i = id
      · rw [if_pos e]
        have : Nat.beq i id = true := by simpa using e
        rw [this] at hK
        exact hl .normal st' J' a' w' hK hr h1 h2
      · rw [if_neg e]
        have : Nat.beq i id = false := Bool.eq_false_iff.2 fun h => e (Nat.eq_of_beq_eq_true h)
        rw [this] at hK
        exact hl (.exit i) st' J' a' w' hK hr h1 h2
    | ret => exact hl .ret st' J' a' w' hK hr h1 h2
  | .loop b, K, st, J, a, w, Q, hok, hs, r, hl, hc => by
    simp only [codeOk] at hok
    simp only [evk] at hc
    obtain ⟨L, Ko, I, μ, hsm, hI, hround⟩ := hc
    obtain ⟨J1, hr1, hs1⟩ := only_normed (L := L) r hsm
    refine wp_loop_ghost (G := St) (fun s a' w' => I s ∧ a'.tmps.size = n ∧ ∃ J', Rel X0 J' s a' w' ∧ Step J w J' w') μ (g := (st.norm Ko).only L (keysOf Ko)) ⟨hI, hs, J1, hr1, hs1⟩ ?_
    rintro s a' w' ⟨hIs, hsz, J', hr, hst⟩
    refine evk_sound tok hm b _ s J' a' w' _ hok hsz hr ?_ (hround s hIs)
    intro e st2 J2 a2 w2 hK hr2 h1 h2
    cases e with
    | normal =>
      obtain ⟨h3, h4, h5⟩ := hK
      obtain ⟨J3, hr3, hs3⟩ := only_normed (L := L) hr2 h3
      exact ⟨(st2.norm Ko).only L (keysOf Ko), ⟨h4, h1.trans hsz, J3, hr3, (hst.trans h2).trans hs3⟩, h5⟩
    | exit i => exact hl (.exit i) st2 J2 a2 w2 hK hr2 (h1.trans (hsz.trans hs.symm)) (hst.trans h2)
    | ret => exact hl .ret st2 J2 a2 w2 hK hr2 (h1.trans (hsz.trans hs.symm)) (hst.trans h2)
  | .rangeFunc .., K, st, J, a, w, Q, _, _, _, _, hc => hc.elim
  | .scope .., K, st, J, a, w, Q, _, _, _, _, hc => hc.elim
  | .label .., K, st, J, a, w, Q, _, _, _, _, hc => hc.elim
  | .goto .., K, st, J, a, w, Q, _, _, _, _, hc => hc.elim
  | .refuse .., K, st, J, a, w, Q, _, _, _, _, hc => hc.elim
end
end Go.Pm
