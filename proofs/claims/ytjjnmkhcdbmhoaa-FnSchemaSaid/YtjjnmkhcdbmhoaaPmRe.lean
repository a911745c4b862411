/-
A walk of Go's code over values: drawn orders, as the walk takes them.
-/
import Derived.Test.YtjjnmkhcdbmhoaaPmRd
namespace Go.Pm
open Go
set_option linter.unusedVariables false
variable {P : Program}

/-- May operation i (into slot d) go ahead of all that is not yet done? -/
def freeFrom (all : List Oper) (done : List Nat) (i d : Nat) (o : Oper) : Nat → List Oper → Bool
  | _, [] => true
  | j, oj :: r => match Nat.beq j i with
    | true => freeFrom all done i d o (j + 1) r
    | false => match has j done with
      | true => freeFrom all done i d o (j + 1) r
      | false => match edgeFrom i oj.after.toList with
        | true => freeFrom all done i d o (j + 1) r
        | false => match has d (slotsOf all oj) with
          | true => false
          | false => match oj.dst with
            | none => freeFrom all done i d o (j + 1) r
            | some e => match Nat.beq d e with
              | true => false
              | false => match has e (slotsOf all o) with
                | true => false
                | false => freeFrom all done i d o (j + 1) r
def pickVal (all : List Oper) (done : List Nat) : List Nat → Option (Nat × Nat × Oper)
  | [] => none
  | i :: r => match all[i]? with
    | none => pickVal all done r
    | some o => match valOp o.op with
      | false => pickVal all done r
      | true => match o.dst with
        | none => pickVal all done r
        | some d => match freeFrom all done i d o 0 all with
          | true => some (i, d, o)
          | false => pickVal all done r
def slotRefs (st : St) : List Nat → List Nat
  | [] => []
  | t :: r => match look t st.env with | some v => v.refs ++ slotRefs st r | none => slotRefs st r
/-- Of a value that is only handed on, the blocks that were lent (small numbers) stay what they are. -/
def bigOnly (mv : Bool) : List Nat → List Nat
  | [] => []
  | k :: r => match mv with | true => (match Nat.blt k 10000 with | true => bigOnly mv r | false => k :: bigOnly mv r) | false => k :: bigOnly mv r
theorem bigOnly_mem {mv : Bool} : ∀ {l : List Nat} {k : Nat}, k ∈ l → k ∈ bigOnly mv l ∨ (mv = true ∧ k < 10000)
  | j :: l, k, h => by
    cases mv with
    | false =>
      simp only [bigOnly]
      rcases List.mem_cons.1 h with rfl | h
      · exact .inl (List.mem_cons_self ..)
      · exact (bigOnly_mem (mv := false) h).imp (List.mem_cons_of_mem _) id
    | true =>
      unfold bigOnly
      cases hb : Nat.blt j 10000 with
      | true =>
        rcases List.mem_cons.1 h with rfl | h
        · exact .inr ⟨rfl, Nat.le_of_ble_eq_true hb⟩
        · exact bigOnly_mem (mv := true) h
      | false =>
        rcases List.mem_cons.1 h with rfl | h
        · exact .inl (List.mem_cons_self ..)
        · exact (bigOnly_mem (mv := true) h).imp (List.mem_cons_of_mem _) id
def rsOf (all : List Oper) (o : Oper) (st : St) (v : AV) : List Nat := reachN (look · st.obj) 50 (bigOnly (isMove o.op) (v.refs ++ slotRefs st (slotsOf all o))) []
def evTake (all : List Oper) (o : Oper) (st : St) (v : AV) (next : List Nat → Prop) : Prop :=
  match rsOf all o st v with
  | rs => match closedIn st.obj rs rs with
    | false => False
    | true => match inside (bigOnly (isMove o.op) v.refs) rs with
      | false => False
      | true => match inside (bigOnly (isMove o.op) (slotRefs st (slotsOf all o))) rs with
        | false => False
        | true => next rs
/-- By an operation's guard: F where it is left out, T where it is done. -/
def gateK (all : List Oper) (o : Oper) (st : St) (F T : Prop) : Prop :=
  match o.guard with
  | none => T
  | some (j, want) => match all[j]? with
    | some oj => match oj.dst with
      | some t => match look t st.env with
        | some (.d (.b x)) => (match want with
          | true => (match x with | true => T | false => F)
          | false => (match x with | true => F | false => T))
        | some (.tup []) => F
        | _ => False
      | none => False
    | none => False
theorem gateK_eq {all : List Oper} {o : Oper} {st : St} {F T : Prop} : gateK all o st F T = match gate all o st with | none => False | some false => F | some true => T := by
  unfold gateK gate
  cases o.guard with
  | none => rfl
  | some p =>
    obtain ⟨j, want⟩ := p
    simp only
    cases all[j]? with
    | none => rfl
    | some oj =>
      simp only
      cases oj.dst with
      | none => rfl
      | some t =>
        simp only
        cases look t st.env with
        | none => rfl
        | some v => cases v with
          | d x => cases x with
            | b y => cases want <;> cases y <;> rfl
            | _ => rfl
          | tup l => cases l <;> rfl
          | _ => rfl
def evOneK (P : Program) (cx : Cx) (prot : List Nat) (all : List Oper) (o : Oper) (K : St → Prop) (st : St) : Prop :=
  gateK all o st (K (st.put o.dst (.tup []))) (evCmdP P cx prot o.dst (opCmd cx.T o st) st K)
theorem evOneK_eq {cx : Cx} {prot : List Nat} {all : List Oper} {o : Oper} {K : St → Prop} {st : St} : evOneK P cx prot all o K st = evOneP P cx prot all o K st := by
  unfold evOneK evOneP
  rw [gateK_eq]
  cases gate all o st with
  | none => rfl
  | some b => cases b <;> rfl
def evS (P : Program) (cx : Cx) (all : List Oper) (K : St → Prop) : Nat → List (Nat × List Nat) → List Nat → St → Prop
  | 0, _, done, st => match readyL done 0 all with | [] => K st | _ :: _ => False
  | n + 1, prot, done, st => match readyL done 0 all with
    | [] => K st
    | i0 :: is => match pickVal all done (i0 :: is) with
      | some (i, d, o) => gateK all o st
        (evTake all o st (.tup []) fun rs => evS P cx all K n ((i, rs) :: prot) (i :: done) (st.put (some d) (.tup [])))
        (evV (opCmd cx.T o st) fun v => evTake all o st v fun rs => evS P cx all K n ((i, rs) :: prot) (i :: done) (st.put (some d) v))
      | none => evAll (fun i => match all[i]? with | some o => evOneK P cx (protFor all o prot) all o (evS P cx all K n prot (i :: done)) st | none => False) (i0 :: is)

section
variable {cx : Cx} {all : List Oper} {K K' : St → Prop}

theorem freeFrom_ok {done : List Nat} {i d : Nat} {o : Oper} : ∀ {l : List Oper} {b : Nat}, freeFrom all done i d o b l = true → ∀ (m : Nat) (oj : Oper), l[m]? = some oj → b + m ≠ i → has (b + m) done = false → edgeFrom i oj.after.toList = false →
    d ∉ slotsOf all oj ∧ ∀ e, oj.dst = some e → d ≠ e ∧ e ∉ slotsOf all o
  | [], b, _, m, oj, h, _, _, _ => by simp at h
  | x :: l, b, hf, m, oj, h, hne, hd, he => by
    have rest : freeFrom all done i d o (b + 1) l = true → ∀ m', m = m' + 1 → d ∉ slotsOf all oj ∧ ∀ e, oj.dst = some e → d ≠ e ∧ e ∉ slotsOf all o := by
      intro hr m' hm
      subst hm
      exact freeFrom_ok hr m' oj (by simpa using h) (by omega) (by rw [show b + 1 + m' = b + (m' + 1) by omega]; exact hd) he
    have hrest : freeFrom all done i d o (b + 1) l = true := by
      simp only [freeFrom] at hf
      split at hf
      · exact hf
      · split at hf
        · exact hf
        · split at hf
          · exact hf
          · split at hf
            · cases hf
            · split at hf
              · exact hf
              · split at hf
                · cases hf
                · split at hf
                  · cases hf
                  · exact hf
    cases m with
    | succ m => exact rest hrest m rfl
    | zero =>
      simp at h
      subst h
      simp only [freeFrom] at hf
      have hb : Nat.beq b i = false := Bool.eq_false_iff.2 fun hh => hne (by have := Nat.eq_of_beq_eq_true hh; omega)
      rw [hb] at hf
      simp only [Nat.add_zero] at hd
      rw [hd, he] at hf
      simp only at hf
      cases h1 : has d (slotsOf all x) with
      | true => rw [h1] at hf; cases hf
      | false =>
        rw [h1] at hf
        refine ⟨fun hm => (by rw [(has_iff _ _).2 hm] at h1; cases h1), fun e hx => ?_⟩
        rw [hx] at hf
        simp only at hf
        cases h2 : Nat.beq d e with
        | true => rw [h2] at hf; cases hf
        | false =>
          rw [h2] at hf
          simp only at hf
          cases h3 : has e (slotsOf all o) with
          | true => rw [h3] at hf; cases hf
          | false => exact ⟨fun hh => (by subst hh; simp at h2), fun hm => (by rw [(has_iff _ _).2 hm] at h3; cases h3)⟩
theorem pickVal_ok {done : List Nat} {i d : Nat} {o : Oper} : ∀ {l : List Nat}, pickVal all done l = some (i, d, o) → i ∈ l ∧ all[i]? = some o ∧ valOp o.op = true ∧ o.dst = some d ∧ freeFrom all done i d o 0 all = true
  | [], h => by cases h
  | j :: l, h => by
    have rest : pickVal all done l = some (i, d, o) → i ∈ j :: l ∧ all[i]? = some o ∧ valOp o.op = true ∧ o.dst = some d ∧ freeFrom all done i d o 0 all = true :=
      fun hr => let ⟨h1, h2⟩ := pickVal_ok hr; ⟨List.mem_cons_of_mem _ h1, h2⟩
    simp only [pickVal] at h
    split at h
    · exact rest h
    · rename_i oj hoj
      split at h
      · exact rest h
      · rename_i hv
        split at h
        · exact rest h
        · rename_i e he
          split at h
          · rename_i hf
            cases h
            exact ⟨List.mem_cons_self .., hoj, hv, he, hf⟩
          · exact rest h
theorem slotRefs_mem {st : St} : ∀ {l : List Nat} {k : Nat} {u : AV}, k ∈ l → look k st.env = some u → ∀ j, j ∈ u.refs → j ∈ slotRefs st l
  | [], k, u, h, _, _, _ => by cases h
  | x :: l, k, u, h, hu, j, hj => by
    simp only [slotRefs]
    rcases List.mem_cons.1 h with rfl | h
    · rw [hu]; exact List.mem_append_left _ hj
    · cases hx : look x st.env with
      | none => exact slotRefs_mem h hu j hj
      | some v => exact List.mem_append_right _ (slotRefs_mem h hu j hj)

theorem closed_up {done : List Nat} {i : Nat} (h : closedD all done) (hi : i ∈ readyL done 0 all) : closedD all (i :: done) := by
  obtain ⟨m, o, hm, ho, _, he⟩ := mem_readyL.1 hi
  have : m = i := by omega
  subst this
  exact closedD_cons h ho he
theorem evS_any (hKe : ∀ s t, Ext none s t → K t → K s) : ∀ {n : Nat} {prot : List (Nat × List Nat)} {done : List Nat} {st : St}, closedD all done → evS P cx all K n prot done st → evAnyP P cx all K n prot done st
  | 0, prot, done, st, hcd, h => by simp only [evS] at h; simp only [evAnyP]; exact h
  | n + 1, prot, done, st, hcd, h => by
    have h0 := h
    rw [evS] at h
    split at h
    · rename_i hnil; rw [evAnyP, hnil]; exact h
    · rename_i i0 is hcons
      split at h
      · rename_i i d o hp
        obtain ⟨h1, h2, h3, h4, h5⟩ := pickVal_ok hp
        rw [← hcons] at h1
        have go : ∀ v, Gives cx all o st v → (evTake all o st v fun rs => evS P cx all K n ((i, rs) :: prot) (i :: done) (st.put (some d) v)) → evAnyP P cx all K (n + 1) prot done st := by
          intro v hg ht
          unfold evTake at ht
          simp only at ht
          split at ht
          · exact ht.elim
          rename_i hcl
          split at ht
          · exact ht.elim
          rename_i hin
          split at ht
          · exact ht.elim
          rename_i hsl
          refine take_first hKe h2 h4 h3 (fun k hk => (bigOnly_mem hk).imp (inside_ok hin k) (·.2)) n st (st.put (some d) v) done prot hcd ⟨fun k => by rw [St.put_look]; rfl, fun _ => rfl⟩ hg
            (fun k hk u hu j hj => (bigOnly_mem (slotRefs_mem hk hu j hj)).imp (inside_ok hsl j) id) (fun k hk => closedIn_ok hcl k hk) h1 ?_ (evS_any hKe (closed_up hcd h1) ht)
          intro j oj hj hne hd he
          have := freeFrom_ok h5 j oj hj (by omega) (by rw [Nat.zero_add]; exact hd) he
          exact this
        rw [gateK_eq] at h
        split at h
        · exact h.elim
        · rename_i hg; exact go _ (.inr ⟨hg, rfl⟩) h
        · rename_i hg
          obtain ⟨v, hv, ht⟩ := evV_gives h
          exact go v (.inl ⟨hg, hv⟩) ht
      · rw [evAnyP, hcons]
        refine evAll_intro fun i hi => ?_
        have := evAll_ok h i hi
        split at this
        · rename_i o ho; rw [ho]; rw [evOneK_eq] at this; exact evOneP_mono (fun s hs => evS_any hKe (closed_up hcd (hcons ▸ hi)) hs) this
        · exact this.elim
theorem evAnyP_to : ∀ {n : Nat} {prot : List (Nat × List Nat)} {done : List Nat} {st : St}, evAnyP P cx all K n prot done st → evAny P cx all K n done st
  | 0, prot, done, st, h => by simp only [evAnyP] at h; simp only [evAny]; exact h
  | n + 1, prot, done, st, h => by
    rw [evAnyP] at h
    rw [evAny]
    split at h
    · rename_i hnil; rw [hnil]; exact h
    · rename_i i0 is hcons
      rw [hcons]
      refine evAll_intro fun i hi => ?_
      have := evAll_ok h i hi
      split at this
      · rename_i o ho; rw [ho]; exact evOneP_to (evOneP_mono (fun s hs => evAnyP_to hs) this)
      · exact this.elim
theorem evV_mono {K K' : AV → Prop} (hK : ∀ v, K v → K' v) : ∀ {c : Cmd}, evV c K → evV c K' := by
  intro c
  induction c with
  | val u => exact fun h => hK _ h
  | need p c ih => exact fun ⟨hp, h⟩ => ⟨hp, ih h⟩
  | get xs i f ih => exact fun ⟨x, hx, h⟩ => ⟨x, hx, ih x h⟩
  | str xs => exact fun ⟨l, hl, h⟩ => ⟨l, hl, hK _ h⟩
  | _ => exact fun h => h.elim
theorem evTake_mono {o : Oper} {st : St} {v : AV} {A B : List Nat → Prop} (h : ∀ rs, A rs → B rs) (ha : evTake all o st v A) : evTake all o st v B := by
  unfold evTake at ha ⊢
  simp only at ha ⊢
  split at ha
  · exact ha.elim
  split at ha
  · exact ha.elim
  split at ha
  · exact ha.elim
  exact h _ ha
theorem evS_mono (hK : ∀ s, K s → K' s) : ∀ {n : Nat} {prot : List (Nat × List Nat)} {done : List Nat} {st : St}, evS P cx all K n prot done st → evS P cx all K' n prot done st
  | 0, prot, done, st, h => by
    simp only [evS] at h ⊢
    split at h
    · exact hK _ h
    · exact h.elim
  | n + 1, prot, done, st, h => by
    rw [evS] at h ⊢
    split at h
    · exact hK _ h
    · split at h
      · rw [gateK_eq] at h ⊢
        split at h
        · exact h.elim
        · exact evTake_mono (fun rs hr => evS_mono hK hr) h
        · exact evV_mono (fun v hv => evTake_mono (fun rs hr => evS_mono hK hr) hv) h
      · refine evAll_intro fun i hi => ?_
        have := evAll_ok h i hi
        split at this
        · rw [evOneK_eq] at this ⊢; exact evOneP_mono (fun s hs => evS_mono hK hs) this
        · exact this.elim

theorem rel_eqv {X0 : Nat → Prop} {J : Nat → Option Place} {s t : St} {a : Act} {w : World} (r : Rel X0 J s a w) (hx : Ext none s t) : Rel X0 J t a w := by
  have ho : (look · t.obj) = (look · s.obj) := funext hx.obj
  exact ⟨fun k v hk => r.env k v (by rw [← hk]; exact (hx.env k).symm), by rw [ho]; exact r.mem, r.defers⟩

theorem draw_soundS {X0 : Nat → Prop} {J : Nat → Option Place} {st : St} {a : Act} {w : World} {Q : Exit → Act → World → Prop} (tok : TOk P cx.T) (hm : P.follows .mixedOrders = true) (r : Rel X0 J st a w) {ops : Array Oper}
    (hdst : ∀ o ∈ ops.toList, ∀ d, o.dst = some d → d < a.tmps.size) {id : Nat} (hn : Leads P X0 J a w K (Q .normal)) (hc : evS P cx ops.toList K ops.size [] [] st) : (Code.region id ops true).wp P Q a w := by
  refine draw_sound (K := fun s => ∃ t, Ext none s t ∧ K t) tok hm r hdst ?_ (evAnyP_to (evS_any ?_ (fun p op hp => by cases hp) (evS_mono (fun s hs => ⟨s, Ext.refl s, hs⟩) hc)))
  · rintro st' J' a' w' ⟨t, hx, hK⟩ hr h1 h2
    exact hn t J' a' w' hK (rel_eqv hr hx) h1 h2
  · rintro s t hx ⟨u, hu, hK⟩
    refine ⟨u, ⟨fun k => ?_, fun k => (hu.obj k).trans (hx.obj k)⟩, hK⟩
    have := hu.env k
    have h2 := hx.env k
    simp only [over] at this h2 ⊢
    exact this.trans h2
end
/-! The walk of a drawn region, each level under a name of its own: kernel and elaborator then unfold alike. -/
def evAll2 (f : Nat → Prop) : List Nat → Prop
  | [] => True
  | [i] => f i
  | [i, j] => Both (f i) (f j)
  | [i, j, k] => Both (f i) (Both (f j) (f k))
  | i :: j :: k :: l :: r => evAll f (i :: j :: k :: l :: r)
theorem evAll2_eq (f : Nat → Prop) (l : List Nat) : evAll2 f l = evAll f l := by
  match l with
  | [] => rfl
  | [_] => rfl
  | [_, _] => rfl
  | [_, _, _] => rfl
  | _ :: _ :: _ :: _ :: _ => rfl
def esStep (P : Program) (cx : Cx) (all : List Oper) (K : St → Prop) (rc : List (Nat × List Nat) → List Nat → St → Prop) (prot : List (Nat × List Nat)) (done : List Nat) (st : St) : Prop :=
  match readyL done 0 all with
    | [] => K st
    | i0 :: is => match pickVal all done (i0 :: is) with
      | some (i, d, o) => gateK all o st
        (evTake all o st (.tup []) fun rs => rc ((i, rs) :: prot) (i :: done) (st.put (some d) (.tup [])))
        (evV (opCmd cx.T o st) fun v => evTake all o st v fun rs => rc ((i, rs) :: prot) (i :: done) (st.put (some d) v))
      | none => evAll2 (fun i => match all[i]? with | some o => evOneK P cx (protFor all o prot) all o (rc prot (i :: done)) st | none => False) (i0 :: is)
theorem esStep_eq {P : Program} {cx : Cx} {all : List Oper} {K : St → Prop} {n : Nat} : esStep P cx all K (evS P cx all K n) = evS P cx all K (n + 1) := by
  funext prot done st
  unfold esStep
  simp only [evAll2_eq]
  rfl
def es0 (P : Program) (cx : Cx) (all : List Oper) (K : St → Prop) : List (Nat × List Nat) → List Nat → St → Prop := evS P cx all K 0
theorem es0_eq {P : Program} {cx : Cx} {all : List Oper} {K : St → Prop} : es0 P cx all K = evS P cx all K 0 := rfl
def es1 (P : Program) (cx : Cx) (all : List Oper) (K : St → Prop) : List (Nat × List Nat) → List Nat → St → Prop := esStep P cx all K (es0 P cx all K)
theorem es1_eq {P : Program} {cx : Cx} {all : List Oper} {K : St → Prop} : es1 P cx all K = evS P cx all K 1 := by rw [es1, es0_eq, esStep_eq]
def es2 (P : Program) (cx : Cx) (all : List Oper) (K : St → Prop) : List (Nat × List Nat) → List Nat → St → Prop := esStep P cx all K (es1 P cx all K)
theorem es2_eq {P : Program} {cx : Cx} {all : List Oper} {K : St → Prop} : es2 P cx all K = evS P cx all K 2 := by rw [es2, es1_eq, esStep_eq]
def es3 (P : Program) (cx : Cx) (all : List Oper) (K : St → Prop) : List (Nat × List Nat) → List Nat → St → Prop := esStep P cx all K (es2 P cx all K)
theorem es3_eq {P : Program} {cx : Cx} {all : List Oper} {K : St → Prop} : es3 P cx all K = evS P cx all K 3 := by rw [es3, es2_eq, esStep_eq]
def es4 (P : Program) (cx : Cx) (all : List Oper) (K : St → Prop) : List (Nat × List Nat) → List Nat → St → Prop := esStep P cx all K (es3 P cx all K)
theorem es4_eq {P : Program} {cx : Cx} {all : List Oper} {K : St → Prop} : es4 P cx all K = evS P cx all K 4 := by rw [es4, es3_eq, esStep_eq]
def es5 (P : Program) (cx : Cx) (all : List Oper) (K : St → Prop) : List (Nat × List Nat) → List Nat → St → Prop := esStep P cx all K (es4 P cx all K)
theorem es5_eq {P : Program} {cx : Cx} {all : List Oper} {K : St → Prop} : es5 P cx all K = evS P cx all K 5 := by rw [es5, es4_eq, esStep_eq]
def es6 (P : Program) (cx : Cx) (all : List Oper) (K : St → Prop) : List (Nat × List Nat) → List Nat → St → Prop := esStep P cx all K (es5 P cx all K)
theorem es6_eq {P : Program} {cx : Cx} {all : List Oper} {K : St → Prop} : es6 P cx all K = evS P cx all K 6 := by rw [es6, es5_eq, esStep_eq]
def es7 (P : Program) (cx : Cx) (all : List Oper) (K : St → Prop) : List (Nat × List Nat) → List Nat → St → Prop := esStep P cx all K (es6 P cx all K)
theorem es7_eq {P : Program} {cx : Cx} {all : List Oper} {K : St → Prop} : es7 P cx all K = evS P cx all K 7 := by rw [es7, es6_eq, esStep_eq]
def es8 (P : Program) (cx : Cx) (all : List Oper) (K : St → Prop) : List (Nat × List Nat) → List Nat → St → Prop := esStep P cx all K (es7 P cx all K)
theorem es8_eq {P : Program} {cx : Cx} {all : List Oper} {K : St → Prop} : es8 P cx all K = evS P cx all K 8 := by rw [es8, es7_eq, esStep_eq]
def es9 (P : Program) (cx : Cx) (all : List Oper) (K : St → Prop) : List (Nat × List Nat) → List Nat → St → Prop := esStep P cx all K (es8 P cx all K)
theorem es9_eq {P : Program} {cx : Cx} {all : List Oper} {K : St → Prop} : es9 P cx all K = evS P cx all K 9 := by rw [es9, es8_eq, esStep_eq]
def es10 (P : Program) (cx : Cx) (all : List Oper) (K : St → Prop) : List (Nat × List Nat) → List Nat → St → Prop := esStep P cx all K (es9 P cx all K)
theorem es10_eq {P : Program} {cx : Cx} {all : List Oper} {K : St → Prop} : es10 P cx all K = evS P cx all K 10 := by rw [es10, es9_eq, esStep_eq]
def es11 (P : Program) (cx : Cx) (all : List Oper) (K : St → Prop) : List (Nat × List Nat) → List Nat → St → Prop := esStep P cx all K (es10 P cx all K)
theorem es11_eq {P : Program} {cx : Cx} {all : List Oper} {K : St → Prop} : es11 P cx all K = evS P cx all K 11 := by rw [es11, es10_eq, esStep_eq]
def es12 (P : Program) (cx : Cx) (all : List Oper) (K : St → Prop) : List (Nat × List Nat) → List Nat → St → Prop := esStep P cx all K (es11 P cx all K)
theorem es12_eq {P : Program} {cx : Cx} {all : List Oper} {K : St → Prop} : es12 P cx all K = evS P cx all K 12 := by rw [es12, es11_eq, esStep_eq]
def es13 (P : Program) (cx : Cx) (all : List Oper) (K : St → Prop) : List (Nat × List Nat) → List Nat → St → Prop := esStep P cx all K (es12 P cx all K)
theorem es13_eq {P : Program} {cx : Cx} {all : List Oper} {K : St → Prop} : es13 P cx all K = evS P cx all K 13 := by rw [es13, es12_eq, esStep_eq]
def es14 (P : Program) (cx : Cx) (all : List Oper) (K : St → Prop) : List (Nat × List Nat) → List Nat → St → Prop := esStep P cx all K (es13 P cx all K)
theorem es14_eq {P : Program} {cx : Cx} {all : List Oper} {K : St → Prop} : es14 P cx all K = evS P cx all K 14 := by rw [es14, es13_eq, esStep_eq]
def es15 (P : Program) (cx : Cx) (all : List Oper) (K : St → Prop) : List (Nat × List Nat) → List Nat → St → Prop := esStep P cx all K (es14 P cx all K)
theorem es15_eq {P : Program} {cx : Cx} {all : List Oper} {K : St → Prop} : es15 P cx all K = evS P cx all K 15 := by rw [es15, es14_eq, esStep_eq]
def es16 (P : Program) (cx : Cx) (all : List Oper) (K : St → Prop) : List (Nat × List Nat) → List Nat → St → Prop := esStep P cx all K (es15 P cx all K)
theorem es16_eq {P : Program} {cx : Cx} {all : List Oper} {K : St → Prop} : es16 P cx all K = evS P cx all K 16 := by rw [es16, es15_eq, esStep_eq]
def es17 (P : Program) (cx : Cx) (all : List Oper) (K : St → Prop) : List (Nat × List Nat) → List Nat → St → Prop := esStep P cx all K (es16 P cx all K)
theorem es17_eq {P : Program} {cx : Cx} {all : List Oper} {K : St → Prop} : es17 P cx all K = evS P cx all K 17 := by rw [es17, es16_eq, esStep_eq]
def es18 (P : Program) (cx : Cx) (all : List Oper) (K : St → Prop) : List (Nat × List Nat) → List Nat → St → Prop := esStep P cx all K (es17 P cx all K)
theorem es18_eq {P : Program} {cx : Cx} {all : List Oper} {K : St → Prop} : es18 P cx all K = evS P cx all K 18 := by rw [es18, es17_eq, esStep_eq]
def es19 (P : Program) (cx : Cx) (all : List Oper) (K : St → Prop) : List (Nat × List Nat) → List Nat → St → Prop := esStep P cx all K (es18 P cx all K)
theorem es19_eq {P : Program} {cx : Cx} {all : List Oper} {K : St → Prop} : es19 P cx all K = evS P cx all K 19 := by rw [es19, es18_eq, esStep_eq]
def es20 (P : Program) (cx : Cx) (all : List Oper) (K : St → Prop) : List (Nat × List Nat) → List Nat → St → Prop := esStep P cx all K (es19 P cx all K)
theorem es20_eq {P : Program} {cx : Cx} {all : List Oper} {K : St → Prop} : es20 P cx all K = evS P cx all K 20 := by rw [es20, es19_eq, esStep_eq]
def es21 (P : Program) (cx : Cx) (all : List Oper) (K : St → Prop) : List (Nat × List Nat) → List Nat → St → Prop := esStep P cx all K (es20 P cx all K)
theorem es21_eq {P : Program} {cx : Cx} {all : List Oper} {K : St → Prop} : es21 P cx all K = evS P cx all K 21 := by rw [es21, es20_eq, esStep_eq]
def es22 (P : Program) (cx : Cx) (all : List Oper) (K : St → Prop) : List (Nat × List Nat) → List Nat → St → Prop := esStep P cx all K (es21 P cx all K)
theorem es22_eq {P : Program} {cx : Cx} {all : List Oper} {K : St → Prop} : es22 P cx all K = evS P cx all K 22 := by rw [es22, es21_eq, esStep_eq]
def es23 (P : Program) (cx : Cx) (all : List Oper) (K : St → Prop) : List (Nat × List Nat) → List Nat → St → Prop := esStep P cx all K (es22 P cx all K)
theorem es23_eq {P : Program} {cx : Cx} {all : List Oper} {K : St → Prop} : es23 P cx all K = evS P cx all K 23 := by rw [es23, es22_eq, esStep_eq]
def es24 (P : Program) (cx : Cx) (all : List Oper) (K : St → Prop) : List (Nat × List Nat) → List Nat → St → Prop := esStep P cx all K (es23 P cx all K)
theorem es24_eq {P : Program} {cx : Cx} {all : List Oper} {K : St → Prop} : es24 P cx all K = evS P cx all K 24 := by rw [es24, es23_eq, esStep_eq]
def es25 (P : Program) (cx : Cx) (all : List Oper) (K : St → Prop) : List (Nat × List Nat) → List Nat → St → Prop := esStep P cx all K (es24 P cx all K)
theorem es25_eq {P : Program} {cx : Cx} {all : List Oper} {K : St → Prop} : es25 P cx all K = evS P cx all K 25 := by rw [es25, es24_eq, esStep_eq]
def es26 (P : Program) (cx : Cx) (all : List Oper) (K : St → Prop) : List (Nat × List Nat) → List Nat → St → Prop := esStep P cx all K (es25 P cx all K)
theorem es26_eq {P : Program} {cx : Cx} {all : List Oper} {K : St → Prop} : es26 P cx all K = evS P cx all K 26 := by rw [es26, es25_eq, esStep_eq]
def es27 (P : Program) (cx : Cx) (all : List Oper) (K : St → Prop) : List (Nat × List Nat) → List Nat → St → Prop := esStep P cx all K (es26 P cx all K)
theorem es27_eq {P : Program} {cx : Cx} {all : List Oper} {K : St → Prop} : es27 P cx all K = evS P cx all K 27 := by rw [es27, es26_eq, esStep_eq]
def es28 (P : Program) (cx : Cx) (all : List Oper) (K : St → Prop) : List (Nat × List Nat) → List Nat → St → Prop := esStep P cx all K (es27 P cx all K)
theorem es28_eq {P : Program} {cx : Cx} {all : List Oper} {K : St → Prop} : es28 P cx all K = evS P cx all K 28 := by rw [es28, es27_eq, esStep_eq]
def es29 (P : Program) (cx : Cx) (all : List Oper) (K : St → Prop) : List (Nat × List Nat) → List Nat → St → Prop := esStep P cx all K (es28 P cx all K)
theorem es29_eq {P : Program} {cx : Cx} {all : List Oper} {K : St → Prop} : es29 P cx all K = evS P cx all K 29 := by rw [es29, es28_eq, esStep_eq]
def es30 (P : Program) (cx : Cx) (all : List Oper) (K : St → Prop) : List (Nat × List Nat) → List Nat → St → Prop := esStep P cx all K (es29 P cx all K)
theorem es30_eq {P : Program} {cx : Cx} {all : List Oper} {K : St → Prop} : es30 P cx all K = evS P cx all K 30 := by rw [es30, es29_eq, esStep_eq]
def es31 (P : Program) (cx : Cx) (all : List Oper) (K : St → Prop) : List (Nat × List Nat) → List Nat → St → Prop := esStep P cx all K (es30 P cx all K)
theorem es31_eq {P : Program} {cx : Cx} {all : List Oper} {K : St → Prop} : es31 P cx all K = evS P cx all K 31 := by rw [es31, es30_eq, esStep_eq]
def es32 (P : Program) (cx : Cx) (all : List Oper) (K : St → Prop) : List (Nat × List Nat) → List Nat → St → Prop := esStep P cx all K (es31 P cx all K)
theorem es32_eq {P : Program} {cx : Cx} {all : List Oper} {K : St → Prop} : es32 P cx all K = evS P cx all K 32 := by rw [es32, es31_eq, esStep_eq]
def es33 (P : Program) (cx : Cx) (all : List Oper) (K : St → Prop) : List (Nat × List Nat) → List Nat → St → Prop := esStep P cx all K (es32 P cx all K)
theorem es33_eq {P : Program} {cx : Cx} {all : List Oper} {K : St → Prop} : es33 P cx all K = evS P cx all K 33 := by rw [es33, es32_eq, esStep_eq]
def es34 (P : Program) (cx : Cx) (all : List Oper) (K : St → Prop) : List (Nat × List Nat) → List Nat → St → Prop := esStep P cx all K (es33 P cx all K)
theorem es34_eq {P : Program} {cx : Cx} {all : List Oper} {K : St → Prop} : es34 P cx all K = evS P cx all K 34 := by rw [es34, es33_eq, esStep_eq]
def es35 (P : Program) (cx : Cx) (all : List Oper) (K : St → Prop) : List (Nat × List Nat) → List Nat → St → Prop := esStep P cx all K (es34 P cx all K)
theorem es35_eq {P : Program} {cx : Cx} {all : List Oper} {K : St → Prop} : es35 P cx all K = evS P cx all K 35 := by rw [es35, es34_eq, esStep_eq]
def es36 (P : Program) (cx : Cx) (all : List Oper) (K : St → Prop) : List (Nat × List Nat) → List Nat → St → Prop := esStep P cx all K (es35 P cx all K)
theorem es36_eq {P : Program} {cx : Cx} {all : List Oper} {K : St → Prop} : es36 P cx all K = evS P cx all K 36 := by rw [es36, es35_eq, esStep_eq]
def es37 (P : Program) (cx : Cx) (all : List Oper) (K : St → Prop) : List (Nat × List Nat) → List Nat → St → Prop := esStep P cx all K (es36 P cx all K)
theorem es37_eq {P : Program} {cx : Cx} {all : List Oper} {K : St → Prop} : es37 P cx all K = evS P cx all K 37 := by rw [es37, es36_eq, esStep_eq]
def es38 (P : Program) (cx : Cx) (all : List Oper) (K : St → Prop) : List (Nat × List Nat) → List Nat → St → Prop := esStep P cx all K (es37 P cx all K)
theorem es38_eq {P : Program} {cx : Cx} {all : List Oper} {K : St → Prop} : es38 P cx all K = evS P cx all K 38 := by rw [es38, es37_eq, esStep_eq]
def es39 (P : Program) (cx : Cx) (all : List Oper) (K : St → Prop) : List (Nat × List Nat) → List Nat → St → Prop := esStep P cx all K (es38 P cx all K)
theorem es39_eq {P : Program} {cx : Cx} {all : List Oper} {K : St → Prop} : es39 P cx all K = evS P cx all K 39 := by rw [es39, es38_eq, esStep_eq]
def es40 (P : Program) (cx : Cx) (all : List Oper) (K : St → Prop) : List (Nat × List Nat) → List Nat → St → Prop := esStep P cx all K (es39 P cx all K)
theorem es40_eq {P : Program} {cx : Cx} {all : List Oper} {K : St → Prop} : es40 P cx all K = evS P cx all K 40 := by rw [es40, es39_eq, esStep_eq]
def es41 (P : Program) (cx : Cx) (all : List Oper) (K : St → Prop) : List (Nat × List Nat) → List Nat → St → Prop := esStep P cx all K (es40 P cx all K)
theorem es41_eq {P : Program} {cx : Cx} {all : List Oper} {K : St → Prop} : es41 P cx all K = evS P cx all K 41 := by rw [es41, es40_eq, esStep_eq]
def es42 (P : Program) (cx : Cx) (all : List Oper) (K : St → Prop) : List (Nat × List Nat) → List Nat → St → Prop := esStep P cx all K (es41 P cx all K)
theorem es42_eq {P : Program} {cx : Cx} {all : List Oper} {K : St → Prop} : es42 P cx all K = evS P cx all K 42 := by rw [es42, es41_eq, esStep_eq]
def es43 (P : Program) (cx : Cx) (all : List Oper) (K : St → Prop) : List (Nat × List Nat) → List Nat → St → Prop := esStep P cx all K (es42 P cx all K)
theorem es43_eq {P : Program} {cx : Cx} {all : List Oper} {K : St → Prop} : es43 P cx all K = evS P cx all K 43 := by rw [es43, es42_eq, esStep_eq]
def es44 (P : Program) (cx : Cx) (all : List Oper) (K : St → Prop) : List (Nat × List Nat) → List Nat → St → Prop := esStep P cx all K (es43 P cx all K)
theorem es44_eq {P : Program} {cx : Cx} {all : List Oper} {K : St → Prop} : es44 P cx all K = evS P cx all K 44 := by rw [es44, es43_eq, esStep_eq]
def es45 (P : Program) (cx : Cx) (all : List Oper) (K : St → Prop) : List (Nat × List Nat) → List Nat → St → Prop := esStep P cx all K (es44 P cx all K)
theorem es45_eq {P : Program} {cx : Cx} {all : List Oper} {K : St → Prop} : es45 P cx all K = evS P cx all K 45 := by rw [es45, es44_eq, esStep_eq]
def es46 (P : Program) (cx : Cx) (all : List Oper) (K : St → Prop) : List (Nat × List Nat) → List Nat → St → Prop := esStep P cx all K (es45 P cx all K)
theorem es46_eq {P : Program} {cx : Cx} {all : List Oper} {K : St → Prop} : es46 P cx all K = evS P cx all K 46 := by rw [es46, es45_eq, esStep_eq]
def es47 (P : Program) (cx : Cx) (all : List Oper) (K : St → Prop) : List (Nat × List Nat) → List Nat → St → Prop := esStep P cx all K (es46 P cx all K)
theorem es47_eq {P : Program} {cx : Cx} {all : List Oper} {K : St → Prop} : es47 P cx all K = evS P cx all K 47 := by rw [es47, es46_eq, esStep_eq]
def es48 (P : Program) (cx : Cx) (all : List Oper) (K : St → Prop) : List (Nat × List Nat) → List Nat → St → Prop := esStep P cx all K (es47 P cx all K)
theorem es48_eq {P : Program} {cx : Cx} {all : List Oper} {K : St → Prop} : es48 P cx all K = evS P cx all K 48 := by rw [es48, es47_eq, esStep_eq]
def es49 (P : Program) (cx : Cx) (all : List Oper) (K : St → Prop) : List (Nat × List Nat) → List Nat → St → Prop := esStep P cx all K (es48 P cx all K)
theorem es49_eq {P : Program} {cx : Cx} {all : List Oper} {K : St → Prop} : es49 P cx all K = evS P cx all K 49 := by rw [es49, es48_eq, esStep_eq]
def es50 (P : Program) (cx : Cx) (all : List Oper) (K : St → Prop) : List (Nat × List Nat) → List Nat → St → Prop := esStep P cx all K (es49 P cx all K)
theorem es50_eq {P : Program} {cx : Cx} {all : List Oper} {K : St → Prop} : es50 P cx all K = evS P cx all K 50 := by rw [es50, es49_eq, esStep_eq]
def es51 (P : Program) (cx : Cx) (all : List Oper) (K : St → Prop) : List (Nat × List Nat) → List Nat → St → Prop := esStep P cx all K (es50 P cx all K)
theorem es51_eq {P : Program} {cx : Cx} {all : List Oper} {K : St → Prop} : es51 P cx all K = evS P cx all K 51 := by rw [es51, es50_eq, esStep_eq]
def es52 (P : Program) (cx : Cx) (all : List Oper) (K : St → Prop) : List (Nat × List Nat) → List Nat → St → Prop := esStep P cx all K (es51 P cx all K)
theorem es52_eq {P : Program} {cx : Cx} {all : List Oper} {K : St → Prop} : es52 P cx all K = evS P cx all K 52 := by rw [es52, es51_eq, esStep_eq]
def es53 (P : Program) (cx : Cx) (all : List Oper) (K : St → Prop) : List (Nat × List Nat) → List Nat → St → Prop := esStep P cx all K (es52 P cx all K)
theorem es53_eq {P : Program} {cx : Cx} {all : List Oper} {K : St → Prop} : es53 P cx all K = evS P cx all K 53 := by rw [es53, es52_eq, esStep_eq]
def es54 (P : Program) (cx : Cx) (all : List Oper) (K : St → Prop) : List (Nat × List Nat) → List Nat → St → Prop := esStep P cx all K (es53 P cx all K)
theorem es54_eq {P : Program} {cx : Cx} {all : List Oper} {K : St → Prop} : es54 P cx all K = evS P cx all K 54 := by rw [es54, es53_eq, esStep_eq]
def es55 (P : Program) (cx : Cx) (all : List Oper) (K : St → Prop) : List (Nat × List Nat) → List Nat → St → Prop := esStep P cx all K (es54 P cx all K)
theorem es55_eq {P : Program} {cx : Cx} {all : List Oper} {K : St → Prop} : es55 P cx all K = evS P cx all K 55 := by rw [es55, es54_eq, esStep_eq]
def es56 (P : Program) (cx : Cx) (all : List Oper) (K : St → Prop) : List (Nat × List Nat) → List Nat → St → Prop := esStep P cx all K (es55 P cx all K)
theorem es56_eq {P : Program} {cx : Cx} {all : List Oper} {K : St → Prop} : es56 P cx all K = evS P cx all K 56 := by rw [es56, es55_eq, esStep_eq]
def es57 (P : Program) (cx : Cx) (all : List Oper) (K : St → Prop) : List (Nat × List Nat) → List Nat → St → Prop := esStep P cx all K (es56 P cx all K)
theorem es57_eq {P : Program} {cx : Cx} {all : List Oper} {K : St → Prop} : es57 P cx all K = evS P cx all K 57 := by rw [es57, es56_eq, esStep_eq]
def es58 (P : Program) (cx : Cx) (all : List Oper) (K : St → Prop) : List (Nat × List Nat) → List Nat → St → Prop := esStep P cx all K (es57 P cx all K)
theorem es58_eq {P : Program} {cx : Cx} {all : List Oper} {K : St → Prop} : es58 P cx all K = evS P cx all K 58 := by rw [es58, es57_eq, esStep_eq]
def es59 (P : Program) (cx : Cx) (all : List Oper) (K : St → Prop) : List (Nat × List Nat) → List Nat → St → Prop := esStep P cx all K (es58 P cx all K)
theorem es59_eq {P : Program} {cx : Cx} {all : List Oper} {K : St → Prop} : es59 P cx all K = evS P cx all K 59 := by rw [es59, es58_eq, esStep_eq]
def es60 (P : Program) (cx : Cx) (all : List Oper) (K : St → Prop) : List (Nat × List Nat) → List Nat → St → Prop := esStep P cx all K (es59 P cx all K)
theorem es60_eq {P : Program} {cx : Cx} {all : List Oper} {K : St → Prop} : es60 P cx all K = evS P cx all K 60 := by rw [es60, es59_eq, esStep_eq]
def es61 (P : Program) (cx : Cx) (all : List Oper) (K : St → Prop) : List (Nat × List Nat) → List Nat → St → Prop := esStep P cx all K (es60 P cx all K)
theorem es61_eq {P : Program} {cx : Cx} {all : List Oper} {K : St → Prop} : es61 P cx all K = evS P cx all K 61 := by rw [es61, es60_eq, esStep_eq]
def es62 (P : Program) (cx : Cx) (all : List Oper) (K : St → Prop) : List (Nat × List Nat) → List Nat → St → Prop := esStep P cx all K (es61 P cx all K)
theorem es62_eq {P : Program} {cx : Cx} {all : List Oper} {K : St → Prop} : es62 P cx all K = evS P cx all K 62 := by rw [es62, es61_eq, esStep_eq]
def es63 (P : Program) (cx : Cx) (all : List Oper) (K : St → Prop) : List (Nat × List Nat) → List Nat → St → Prop := esStep P cx all K (es62 P cx all K)
theorem es63_eq {P : Program} {cx : Cx} {all : List Oper} {K : St → Prop} : es63 P cx all K = evS P cx all K 63 := by rw [es63, es62_eq, esStep_eq]
def es64 (P : Program) (cx : Cx) (all : List Oper) (K : St → Prop) : List (Nat × List Nat) → List Nat → St → Prop := esStep P cx all K (es63 P cx all K)
theorem es64_eq {P : Program} {cx : Cx} {all : List Oper} {K : St → Prop} : es64 P cx all K = evS P cx all K 64 := by rw [es64, es63_eq, esStep_eq]
def esAt (P : Program) (cx : Cx) (all : List Oper) (K : St → Prop) (n : Nat) : List (Nat × List Nat) → List Nat → St → Prop :=
  match n with
  | 0 => es0 P cx all K
  | 1 => es1 P cx all K
  | 2 => es2 P cx all K
  | 3 => es3 P cx all K
  | 4 => es4 P cx all K
  | 5 => es5 P cx all K
  | 6 => es6 P cx all K
  | 7 => es7 P cx all K
  | 8 => es8 P cx all K
  | 9 => es9 P cx all K
  | 10 => es10 P cx all K
  | 11 => es11 P cx all K
  | 12 => es12 P cx all K
  | 13 => es13 P cx all K
  | 14 => es14 P cx all K
  | 15 => es15 P cx all K
  | 16 => es16 P cx all K
  | 17 => es17 P cx all K
  | 18 => es18 P cx all K
  | 19 => es19 P cx all K
  | 20 => es20 P cx all K
  | 21 => es21 P cx all K
  | 22 => es22 P cx all K
  | 23 => es23 P cx all K
  | 24 => es24 P cx all K
  | 25 => es25 P cx all K
  | 26 => es26 P cx all K
  | 27 => es27 P cx all K
  | 28 => es28 P cx all K
  | 29 => es29 P cx all K
  | 30 => es30 P cx all K
  | 31 => es31 P cx all K
  | 32 => es32 P cx all K
  | 33 => es33 P cx all K
  | 34 => es34 P cx all K
  | 35 => es35 P cx all K
  | 36 => es36 P cx all K
  | 37 => es37 P cx all K
  | 38 => es38 P cx all K
  | 39 => es39 P cx all K
  | 40 => es40 P cx all K
  | 41 => es41 P cx all K
  | 42 => es42 P cx all K
  | 43 => es43 P cx all K
  | 44 => es44 P cx all K
  | 45 => es45 P cx all K
  | 46 => es46 P cx all K
  | 47 => es47 P cx all K
  | 48 => es48 P cx all K
  | 49 => es49 P cx all K
  | 50 => es50 P cx all K
  | 51 => es51 P cx all K
  | 52 => es52 P cx all K
  | 53 => es53 P cx all K
  | 54 => es54 P cx all K
  | 55 => es55 P cx all K
  | 56 => es56 P cx all K
  | 57 => es57 P cx all K
  | 58 => es58 P cx all K
  | 59 => es59 P cx all K
  | 60 => es60 P cx all K
  | 61 => es61 P cx all K
  | 62 => es62 P cx all K
  | 63 => es63 P cx all K
  | 64 => es64 P cx all K
  | n => evS P cx all K n
theorem esAt_eq {P : Program} {cx : Cx} {all : List Oper} {K : St → Prop} {n : Nat} : esAt P cx all K n = evS P cx all K n := by
  unfold esAt
  split
  · exact es0_eq
  · exact es1_eq
  · exact es2_eq
  · exact es3_eq
  · exact es4_eq
  · exact es5_eq
  · exact es6_eq
  · exact es7_eq
  · exact es8_eq
  · exact es9_eq
  · exact es10_eq
  · exact es11_eq
  · exact es12_eq
  · exact es13_eq
  · exact es14_eq
  · exact es15_eq
  · exact es16_eq
  · exact es17_eq
  · exact es18_eq
  · exact es19_eq
  · exact es20_eq
  · exact es21_eq
  · exact es22_eq
  · exact es23_eq
  · exact es24_eq
  · exact es25_eq
  · exact es26_eq
  · exact es27_eq
  · exact es28_eq
  · exact es29_eq
  · exact es30_eq
  · exact es31_eq
  · exact es32_eq
  · exact es33_eq
  · exact es34_eq
  · exact es35_eq
  · exact es36_eq
  · exact es37_eq
  · exact es38_eq
  · exact es39_eq
  · exact es40_eq
  · exact es41_eq
  · exact es42_eq
  · exact es43_eq
  · exact es44_eq
  · exact es45_eq
  · exact es46_eq
  · exact es47_eq
  · exact es48_eq
  · exact es49_eq
  · exact es50_eq
  · exact es51_eq
  · exact es52_eq
  · exact es53_eq
  · exact es54_eq
  · exact es55_eq
  · exact es56_eq
  · exact es57_eq
  · exact es58_eq
  · exact es59_eq
  · exact es60_eq
  · exact es61_eq
  · exact es62_eq
  · exact es63_eq
  · exact es64_eq
  · rfl
end Go.Pm
