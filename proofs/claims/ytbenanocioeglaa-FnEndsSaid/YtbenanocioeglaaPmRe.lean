/-
A walk of Go's code over values: drawn orders, as the walk takes them.
-/
import Derived.Test.YtbenanocioeglaaPmRd
namespace Go.Pm
open Go
set_option linter.unusedVariables false
variable {P : Program}

/-- May operation i (into slot d) go ahead of all that is not yet done? -/
def freeFrom (all : List Oper) (done : List Nat) (i d : Nat) (o : Oper) : Nat → List Oper → Bool
  | _, [] => true
  | j, oj :: r => match Nat.beq j i with
    | true => freeFrom all done i d o (j + 1) r
    | false => match has j done with
      | true => freeFrom all done i d o (j + 1) r
      | false => match edgeFrom i oj.after.toList with
        | true => freeFrom all done i d o (j + 1) r
        | false => match has d (slotsOf all oj) with
          | true => false
          | false => match oj.dst with
            | none => freeFrom all done i d o (j + 1) r
            | some e => match Nat.beq d e with
              | true => false
              | false => match has e (slotsOf all o) with
                | true => false
                | false => freeFrom all done i d o (j + 1) r
def pickVal (all : List Oper) (done : List Nat) : List Nat → Option (Nat × Nat × Oper)
  | [] => none
  | i :: r => match all[i]? with
    | none => pickVal all done r
    | some o => match valOp o.op with
      | false => pickVal all done r
      | true => match o.dst with
        | none => pickVal all done r
        | some d => match freeFrom all done i d o 0 all with
          | true => some (i, d, o)
          | false => pickVal all done r
def slotRefs (st : St) : List Nat → List Nat
  | [] => []
  | t :: r => match look t st.env with | some v => v.refs ++ slotRefs st r | none => slotRefs st r
/-- Of a value that is only handed on, the blocks that were lent (small numbers) stay what they are. -/
def bigOnly (mv : Bool) : List Nat → List Nat
  | [] => []
  | k :: r => match mv with | true => (match Nat.blt k 10000 with | true => bigOnly mv r | false => k :: bigOnly mv r) | false => k :: bigOnly mv r
theorem bigOnly_mem {mv : Bool} : ∀ {l : List Nat} {k : Nat}, k ∈ l → k ∈ bigOnly mv l ∨ (mv = true ∧ k < 10000)
  | j :: l, k, h => by
    cases mv with
    | false =>
      simp only [bigOnly]
      rcases List.mem_cons.1 h with rfl | h
      · exact .inl (List.mem_cons_self ..)
      · exact (bigOnly_mem (mv := false) h).imp (List.mem_cons_of_mem _) id
    | true =>
      unfold bigOnly
      cases hb : Nat.blt j 10000 with
      | true =>
        rcases List.mem_cons.1 h with rfl | h
        · exact .inr ⟨rfl, Nat.le_of_ble_eq_true hb⟩
        · exact bigOnly_mem (mv := true) h
      | false =>
        rcases List.mem_cons.1 h with rfl | h
        · exact .inl (List.mem_cons_self ..)
        · exact (bigOnly_mem (mv := true) h).imp (List.mem_cons_of_mem _) id
def rsOf (all : List Oper) (o : Oper) (st : St) (v : AV) : List Nat := reachN (look · st.obj) 50 (bigOnly (isMove o.op) (v.refs ++ slotRefs st (slotsOf all o))) []
def evTake (all : List Oper) (o : Oper) (st : St) (v : AV) (next : List Nat → Prop) : Prop :=
  match rsOf all o st v with
  | rs => match closedIn st.obj rs rs with
    | false => False
    | true => match inside (bigOnly (isMove o.op) v.refs) rs with
      | false => False
      | true => match inside (bigOnly (isMove o.op) (slotRefs st (slotsOf all o))) rs with
        | false => False
        | true => next rs
/-- By an operation's guard: F where it is left out, T where it is done. -/
def gateK (all : List Oper) (o : Oper) (st : St) (F T : Prop) : Prop :=
  match o.guard with
  | none => T
  | some (j, want) => match all[j]? with
    | some oj => match oj.dst with
      | some t => match look t st.env with
        | some (.d (.b x)) => (match want with
          | true => (match x with | true => T | false => F)
          | false => (match x with | true => F | false => T))
        | some (.tup []) => F
        | _ => False
      | none => False
    | none => False
theorem gateK_eq {all : List Oper} {o : Oper} {st : St} {F T : Prop} : gateK all o st F T = match gate all o st with | none => False | some false => F | some true => T := by
  unfold gateK gate
  cases o.guard with
  | none => rfl
  | some p =>
    obtain ⟨j, want⟩ := p
    simp only
    cases all[j]? with
    | none => rfl
    | some oj =>
      simp only
      cases oj.dst with
      | none => rfl
      | some t =>
        simp only
        cases look t st.env with
        | none => rfl
        | some v => cases v with
          | d x => cases x with
            | b y => cases want <;> cases y <;> rfl
            | _ => rfl
          | tup l => cases l <;> rfl
          | _ => rfl
def evOneK (P : Program) (cx : Cx) (prot : List Nat) (all : List Oper) (o : Oper) (K : St → Prop) (st : St) : Prop :=
  gateK all o st (K (st.put o.dst (.tup []))) (evCmdP P cx prot o.dst (opCmd cx.T o st) st K)
theorem evOneK_eq {cx : Cx} {prot : List Nat} {all : List Oper} {o : Oper} {K : St → Prop} {st : St} : evOneK P cx prot all o K st = evOneP P cx prot all o K st := by
  unfold evOneK evOneP
  rw [gateK_eq]
  cases gate all o st with
  | none => rfl
  | some b => cases b <;> rfl
def evS (P : Program) (cx : Cx) (all : List Oper) (K : St → Prop) : Nat → List (Nat × List Nat) → List Nat → St → Prop
  | 0, _, done, st => match readyL done 0 all with | [] => K st | _ :: _ => False
  | n + 1, prot, done, st => match readyL done 0 all with
    | [] => K st
    | i0 :: is => match pickVal all done (i0 :: is) with
      | some (i, d, o) => gateK all o st
        (evTake all o st (.tup []) fun rs => evS P cx all K n ((i, rs) :: prot) (i :: done) (st.put (some d) (.tup [])))
        (evV (opCmd cx.T o st) fun v => evTake all o st v fun rs => evS P cx all K n ((i, rs) :: prot) (i :: done) (st.put (some d) v))
      | none => evAll (fun i => match all[i]? with | some o => evOneK P cx (protFor all o prot) all o (evS P cx all K n prot (i :: done)) st | none => False) (i0 :: is)

section
variable {cx : Cx} {all : List Oper} {K K' : St → Prop}

theorem freeFrom_ok {done : List Nat} {i d : Nat} {o : Oper} : ∀ {l : List Oper} {b : Nat}, freeFrom all done i d o b l = true → ∀ (m : Nat) (oj : Oper), l[m]? = some oj → b + m ≠ i → has (b + m) done = false → edgeFrom i oj.after.toList = false →
    d ∉ slotsOf all oj ∧ ∀ e, oj.dst = some e → d ≠ e ∧ e ∉ slotsOf all o
  | [], b, _, m, oj, h, _, _, _ => by simp at h
  | x :: l, b, hf, m, oj, h, hne, hd, he => by
    have rest : freeFrom all done i d o (b + 1) l = true → ∀ m', m = m' + 1 → d ∉ slotsOf all oj ∧ ∀ e, oj.dst = some e → d ≠ e ∧ e ∉ slotsOf all o := by
      intro hr m' hm
      subst hm
      exact freeFrom_ok hr m' oj (by simpa using h) (by omega) (by rw [show b + 1 + m' = b + (m' + 1) by omega]; exact hd) he
    have hrest : freeFrom all done i d o (b + 1) l = true := by
      simp only [freeFrom] at hf
      split at hf
      · exact hf
      · split at hf
        · exact hf
        · split at hf
          · exact hf
          · split at hf
            · cases hf
            · split at hf
              · exact hf
              · split at hf
                · cases hf
                · split at hf
                  · cases hf
                  · exact hf
    cases m with
    | succ m => exact rest hrest m rfl
    | zero =>
      simp at h
      subst h
      simp only [freeFrom] at hf
      have hb : Nat.beq b i = false := Bool.eq_false_iff.2 fun hh => hne (by have := Nat.eq_of_beq_eq_true hh; omega)
      rw [hb] at hf
      simp only [Nat.add_zero] at hd
      rw [hd, he] at hf
      simp only at hf
      cases h1 : has d (slotsOf all x) with
      | true => rw [h1] at hf; cases hf
      | false =>
        rw [h1] at hf
        refine ⟨fun hm => (by rw [(has_iff _ _).2 hm] at h1; cases h1), fun e hx => ?_⟩
        rw [hx] at hf
        simp only at hf
        cases h2 : Nat.beq d e with
        | true => rw [h2] at hf; cases hf
        | false =>
          rw [h2] at hf
          simp only at hf
          cases h3 : has e (slotsOf all o) with
          | true => rw [h3] at hf; cases hf
          | false => exact ⟨fun hh => (by subst hh; simp at h2), fun hm => (by rw [(has_iff _ _).2 hm] at h3; cases h3)⟩
theorem pickVal_ok {done : List Nat} {i d : Nat} {o : Oper} : ∀ {l : List Nat}, pickVal all done l = some (i, d, o) → i ∈ l ∧ all[i]? = some o ∧ valOp o.op = true ∧ o.dst = some d ∧ freeFrom all done i d o 0 all = true
  | [], h => by cases h
  | j :: l, h => by
    have rest : pickVal all done l = some (i, d, o) → i ∈ j :: l ∧ all[i]? = some o ∧ valOp o.op = true ∧ o.dst = some d ∧ freeFrom all done i d o 0 all = true :=
      fun hr => let ⟨h1, h2⟩ := pickVal_ok hr; ⟨List.mem_cons_of_mem _ h1, h2⟩
    simp only [pickVal] at h
    split at h
    · exact rest h
    · rename_i oj hoj
      split at h
      · exact rest h
      · rename_i hv
        split at h
        · exact rest h
        · rename_i e he
          split at h
          · rename_i hf
            cases h
            exact ⟨List.mem_cons_self .., hoj, hv, he, hf⟩
          · exact rest h
theorem slotRefs_mem {st : St} : ∀ {l : List Nat} {k : Nat} {u : AV}, k ∈ l → look k st.env = some u → ∀ j, j ∈ u.refs → j ∈ slotRefs st l
  | [], k, u, h, _, _, _ => by cases h
  | x :: l, k, u, h, hu, j, hj => by
    simp only [slotRefs]
    rcases List.mem_cons.1 h with rfl | h
    · rw [hu]; exact List.mem_append_left _ hj
    · cases hx : look x st.env with
      | none => exact slotRefs_mem h hu j hj
      | some v => exact List.mem_append_right _ (slotRefs_mem h hu j hj)

theorem closed_up {done : List Nat} {i : Nat} (h : closedD all done) (hi : i ∈ readyL done 0 all) : closedD all (i :: done) := by
  obtain ⟨m, o, hm, ho, _, he⟩ := mem_readyL.1 hi
  have : m = i := by omega
  subst this
  exact closedD_cons h ho he
theorem evS_any (hKe : ∀ s t, Ext none s t → K t → K s) : ∀ {n : Nat} {prot : List (Nat × List Nat)} {done : List Nat} {st : St}, closedD all done → evS P cx all K n prot done st → evAnyP P cx all K n prot done st
  | 0, prot, done, st, hcd, h => by simp only [evS] at h; simp only [evAnyP]; exact h
  | n + 1, prot, done, st, hcd, h => by
    have h0 := h
    rw [evS] at h
    split at h
    · rename_i hnil; rw [evAnyP, hnil]; exact h
    · rename_i i0 is hcons
      split at h
      · rename_i i d o hp
        obtain ⟨h1, h2, h3, h4, h5⟩ := pickVal_ok hp
        rw [← hcons] at h1
        have go : ∀ v, Gives cx all o st v → (evTake all o st v fun rs => evS P cx all K n ((i, rs) :: prot) (i :: done) (st.put (some d) v)) → evAnyP P cx all K (n + 1) prot done st := by
          intro v hg ht
          unfold evTake at ht
          simp only at ht
          split at ht
          · exact ht.elim
          rename_i hcl
          split at ht
          · exact ht.elim
          rename_i hin
          split at ht
          · exact ht.elim
          rename_i hsl
          refine take_first hKe h2 h4 h3 (fun k hk => (bigOnly_mem hk).imp (inside_ok hin k) (·.2)) n st (st.put (some d) v) done prot hcd ⟨fun k => by rw [St.put_look]; rfl, fun _ => rfl⟩ hg
            (fun k hk u hu j hj => (bigOnly_mem (slotRefs_mem hk hu j hj)).imp (inside_ok hsl j) id) (fun k hk => closedIn_ok hcl k hk) h1 ?_ (evS_any hKe (closed_up hcd h1) ht)
          intro j oj hj hne hd he
          have := freeFrom_ok h5 j oj hj (by omega) (by rw [Nat.zero_add]; exact hd) he
          exact this
        rw [gateK_eq] at h
        split at h
        · exact h.elim
        · rename_i hg; exact go _ (.inr ⟨hg, rfl⟩) h
        · rename_i hg
          obtain ⟨v, hv, ht⟩ := evV_gives h
          exact go v (.inl ⟨hg, hv⟩) ht
      · rw [evAnyP, hcons]
        refine evAll_intro fun i hi => ?_
        have := evAll_ok h i hi
        split at this
        · rename_i o ho; rw [ho]; rw [evOneK_eq] at this; exact evOneP_mono (fun s hs => evS_any hKe (closed_up hcd (hcons ▸ hi)) hs) this
        · exact this.elim
theorem evAnyP_to : ∀ {n : Nat} {prot : List (Nat × List Nat)} {done : List Nat} {st : St}, evAnyP P cx all K n prot done st → evAny P cx all K n done st
  | 0, prot, done, st, h => by simp only [evAnyP] at h; simp only [evAny]; exact h
  | n + 1, prot, done, st, h => by
    rw [evAnyP] at h
    rw [evAny]
    split at h
    · rename_i hnil; rw [hnil]; exact h
    · rename_i i0 is hcons
      rw [hcons]
      refine evAll_intro fun i hi => ?_
      have := evAll_ok h i hi
      split at this
      · rename_i o ho; rw [ho]; exact evOneP_to (evOneP_mono (fun s hs => evAnyP_to hs) this)
      · exact this.elim
theorem evV_mono {K K' : AV → Prop} (hK : ∀ v, K v → K' v) : ∀ {c : Cmd}, evV c K → evV c K' := by
  intro c
  induction c with
  | val u => exact fun h => hK _ h
  | need p c ih => exact fun ⟨hp, h⟩ => ⟨hp, ih h⟩
  | get xs i f ih => exact fun ⟨x, hx, h⟩ => ⟨x, hx, ih x h⟩
  | str xs => exact fun ⟨l, hl, h⟩ => ⟨l, hl, hK _ h⟩
  | _ => exact fun h => h.elim
theorem evTake_mono {o : Oper} {st : St} {v : AV} {A B : List Nat → Prop} (h : ∀ rs, A rs → B rs) (ha : evTake all o st v A) : evTake all o st v B := by
  unfold evTake at ha ⊢
  simp only at ha ⊢
  split at ha
  · exact ha.elim
  split at ha
  · exact ha.elim
  split at ha
  · exact ha.elim
  exact h _ ha
theorem evS_mono (hK : ∀ s, K s → K' s) : ∀ {n : Nat} {prot : List (Nat × List Nat)} {done : List Nat} {st : St}, evS P cx all K n prot done st → evS P cx all K' n prot done st
  | 0, prot, done, st, h => by
    simp only [evS] at h ⊢
    split at h
    · exact hK _ h
    · exact h.elim
  | n + 1, prot, done, st, h => by
    rw [evS] at h ⊢
    split at h
    · exact hK _ h
    · split at h
      · rw [gateK_eq] at h ⊢
        split at h
        · exact h.elim
        · exact evTake_mono (fun rs hr => evS_mono hK hr) h
        · exact evV_mono (fun v hv => evTake_mono (fun rs hr => evS_mono hK hr) hv) h
      · refine evAll_intro fun i hi => ?_
        have := evAll_ok h i hi
        split at this
        · rw [evOneK_eq] at this ⊢; exact evOneP_mono (fun s hs => evS_mono hK hs) this
        · exact this.elim

theorem rel_eqv {X0 : Nat → Prop} {J : Nat → Option Place} {s t : St} {a : Act} {w : World} (r : Rel X0 J s a w) (hx : Ext none s t) : Rel X0 J t a w := by
  have ho : (look · t.obj) = (look · s.obj) := funext hx.obj
  exact ⟨fun k v hk => r.env k v (by rw [← hk]; exact (hx.env k).symm), by rw [ho]; exact r.mem, r.defers⟩

theorem draw_soundS {X0 : Nat → Prop} {J : Nat → Option Place} {st : St} {a : Act} {w : World} {Q : Exit → Act → World → Prop} (tok : TOk P cx.T) (hm : P.follows .mixedOrders = true) (r : Rel X0 J st a w) {ops : Array Oper}
    (hdst : ∀ o ∈ ops.toList, ∀ d, o.dst = some d → d < a.tmps.size) {id : Nat} (hn : Leads P X0 J a w K (Q .normal)) (hc : evS P cx ops.toList K ops.size [] [] st) : (Code.region id ops true).wp P Q a w := by
  refine draw_sound (K := fun s => ∃ t, Ext none s t ∧ K t) tok hm r hdst ?_ (evAnyP_to (evS_any ?_ (fun p op hp => by cases hp) (evS_mono (fun s hs => ⟨s, Ext.refl s, hs⟩) hc)))
  · rintro st' J' a' w' ⟨t, hx, hK⟩ hr h1 h2
    exact hn t J' a' w' hK (rel_eqv hr hx) h1 h2
  · rintro s t hx ⟨u, hu, hK⟩
    refine ⟨u, ⟨fun k => ?_, fun k => (hu.obj k).trans (hx.obj k)⟩, hK⟩
    have := hu.env k
    have h2 := hx.env k
    simp only [over] at this h2 ⊢
    exact this.trans h2
end
end Go.Pm
