/-
A walk of Go's code over values: drawn orders, what is only read first.
-/
import Derived.Test.YtjjnmkhcdbmhoaaPmRb
namespace Go.Pm
open Go
set_option linter.unusedVariables false
variable {P : Program}

def edgeFrom (i : Nat) : List Edge → Bool
  | [] => false
  | e :: r => match Region.binds .any e with
    | true => (match Nat.beq e.on i with | true => true | false => edgeFrom i r)
    | false => edgeFrom i r
def dataEdge (e : Edge) : Bool := match e.ground with | .data => true | _ => false
def farL (rec : Oper → Bool) (all : List Oper) : List Edge → Bool
  | [] => false
  | e :: r => match dataEdge e with
    | true => (match all[e.on]? with
      | some op => (match rec op with | true => true | false => farL rec all r)
      | none => farL rec all r)
    | false => farL rec all r
/-- Does the operation stand behind operation i, at once or by what it reads? -/
def far (all : List Oper) (i : Nat) : Nat → Oper → Bool
  | 0, o => edgeFrom i o.after.toList
  | n + 1, o => match edgeFrom i o.after.toList with | true => true | false => farL (far all i n) all o.after.toList
def protFor (all : List Oper) (o : Oper) : List (Nat × List Nat) → List Nat
  | [] => []
  | (i, ks) :: r => match far all i 6 o with | true => protFor all o r | false => ks ++ protFor all o r
/-- Does the guard let the operation run? -/
def gate (all : List Oper) (o : Oper) (st : St) : Option Bool :=
  match o.guard with
  | none => some true
  | some (j, want) => match all[j]? with
    | some oj => match oj.dst with
      | some t => match look t st.env with
        | some (.d (.b x)) => (match want with
          | true => (match x with | true => some true | false => some false)
          | false => (match x with | true => some false | false => some true))
        | some (.tup []) => some false
        | _ => none
      | none => none
    | none => none
def evOneP (P : Program) (cx : Cx) (prot : List Nat) (all : List Oper) (o : Oper) (K : St → Prop) (st : St) : Prop :=
  match gate all o st with
  | some true => evCmdP P cx prot o.dst (opCmd cx.T o st) st K
  | some false => K (st.put o.dst (.tup []))
  | none => False
def evAnyP (P : Program) (cx : Cx) (all : List Oper) (K : St → Prop) : Nat → List (Nat × List Nat) → List Nat → St → Prop
  | 0, _, done, st => match readyL done 0 all with | [] => K st | _ :: _ => False
  | n + 1, prot, done, st => match readyL done 0 all with
    | [] => K st
    | i :: is => evAll (fun i => match all[i]? with | some o => evOneP P cx (protFor all o prot) all o (evAnyP P cx all K n prot (i :: done)) st | none => False) (i :: is)

section
variable {cx : Cx} {all : List Oper} {K K' : St → Prop} {dst : Option Nat}

theorem evCmd_mono (hK : ∀ s, K s → K' s) : ∀ {c : Cmd} {st : St}, evCmd P cx dst c st K → evCmd P cx dst c st K' := by
  intro c
  induction c with
  | stuck => intro st h; exact h
  | need p c ih => exact fun h => ⟨h.1, ih h.2⟩
  | get xs i f ih => exact fun ⟨x, hx, h⟩ => ⟨x, hx, ih x h⟩
  | val v => exact fun h => hK _ h
  | str xs => exact fun ⟨l, hl, h⟩ => ⟨l, hl, hK _ h⟩
  | newVar cells =>
    intro st h
    simp only [evCmd] at h ⊢
    cases dst with
    | none => exact h
    | some d =>
      simp only at h ⊢
      cases hl : look (10000 + d) st.obj with
      | none => rw [hl] at h; exact hK _ h
      | some o => rw [hl] at h; exact h
  | newArr sz deep xs ks =>
    intro st h
    simp only [evCmd] at h ⊢
    cases dst with
    | none => exact h
    | some d =>
      simp only at h ⊢
      cases hl : look (10000 + d) st.obj with
      | some o => rw [hl] at h; exact h
      | none =>
        rw [hl] at h
        cases ks with
        | nil => exact hK _ h
        | cons k ks =>
          simp only at h ⊢
          cases hb : bigs (k :: ks) with
          | true => rw [hb] at h; exact hK _ h
          | false => rw [hb] at h; exact h
  | app k sz deep xs ks =>
    intro st h
    simp only [evCmd] at h ⊢
    cases hb : bigs (k :: ks) with
    | true => rw [hb] at h; exact hK _ h
    | false => rw [hb] at h; exact h
  | upd k o v => exact fun h => hK _ h
  | bit p => exact fun h b hb => hK _ (h b hb)
  | alt a b iha ihb => exact fun h => h.imp iha ihb
  | newNil sz dp =>
    intro st h
    simp only [evCmd] at h ⊢
    cases dst with
    | none => exact h
    | some d =>
      simp only at h ⊢
      cases hl : look (10000 + d) st.obj with
      | none => rw [hl] at h; exact hK _ h
      | some o => rw [hl] at h; exact h
  | opens k ob news c ih =>
    intro st h
    simp only [evCmd] at h ⊢
    split at h
    · exact ih h
    · exact h.elim
  | put k ob ks =>
    intro st h
    simp only [evCmd] at h ⊢
    split at h
    · exact hK _ h
    · exact h.elim
  | call f vs =>
    intro st h
    simp only [evCmd] at h ⊢
    have callIn : ∀ {args : List AV} {bs : List Nat} {d : Nat}, evCallIn P f args bs d st K → evCallIn P f args bs d st K' := by
      intro args bs d h
      unfold evCallIn at h ⊢
      simp only [forceN_eq] at h ⊢
      split at h
      · exact h.elim
      · split at h
        · exact h.elim
        · rename_i objs hobjs
          obtain ⟨Q, hent, hQ⟩ := h
          refine ⟨Q, hent, fun R O hq => ?_⟩
          have h := hQ R O hq
          split at h
          · exact h.elim
          · split at h
            · exact hK _ h
            · split at h <;> exact hK _ h
    have ro : ∀ {vs : List AV} {k1 k2 : List AV → List Nat → Prop}, (∀ a b, k1 a b → k2 a b) → evRo (look · st.obj) vs k1 → evRo (look · st.obj) vs k2 := by
      intro vs
      induction vs with
      | nil => intro k1 k2 hk h; exact hk _ _ h
      | cons v vs ih =>
        intro k1 k2 hk h
        have gen : (match v.show (look · st.obj) with
            | some (x, q1) => evRo (look · st.obj) vs fun l bs => k1 (.d x :: l) (q1 ++ bs)
            | none => evRo (look · st.obj) vs fun l bs => k1 (v :: l) bs) → (match v.show (look · st.obj) with
            | some (x, q1) => evRo (look · st.obj) vs fun l bs => k2 (.d x :: l) (q1 ++ bs)
            | none => evRo (look · st.obj) vs fun l bs => k2 (v :: l) bs) := by
          intro h
          split at h
          · exact ih (fun a b hab => hk _ _ hab) h
          · exact ih (fun a b hab => hk _ _ hab) h
        cases v with
        | ptr k off =>
          simp only [evRo] at h ⊢
          split at h
          · split at h
            · split at h
              · exact ih (fun a b hab => hk _ _ hab) h
              · exact h.elim
            · exact h.elim
          · exact h.elim
        | eptr k s j off =>
          simp only [evRo] at h ⊢
          split at h
          · split at h
            · obtain ⟨x, hx, h⟩ := h
              refine ⟨x, hx, ?_⟩
              split at h
              · exact ih (fun a b hab => hk _ _ hab) h
              · exact h.elim
            · exact h.elim
          · exact h.elim
        | d y => simp only [evRo] at h ⊢; exact gen h
        | c y => simp only [evRo] at h ⊢; exact gen h
        | snil => simp only [evRo] at h ⊢; exact gen h
        | agg y => simp only [evRo] at h ⊢; exact gen h
        | tup y => simp only [evRo] at h ⊢; exact gen h
        | own y => simp only [evRo] at h ⊢; exact gen h
        | win k s lo hi => simp only [evRo] at h ⊢; exact gen h
        | rd y => simp only [evRo] at h ⊢; exact gen h
        | fn g y => simp only [evRo] at h ⊢; exact gen h
        | bot => simp only [evRo] at h ⊢; exact gen h
    unfold evCall at h ⊢
    cases dst with
    | none => exact h
    | some d =>
      simp only at h ⊢
      split at h
      · exact ro (fun a b hab => callIn hab) h
      · split at h
        · exact callIn h
        · exact callIn h

theorem evCmdP_mono {prot : List Nat} (hK : ∀ s, K s → K' s) : ∀ {c : Cmd} {st : St}, evCmdP P cx prot dst c st K → evCmdP P cx prot dst c st K' := by
  intro c
  induction c with
  | need p c ih => exact fun h => ⟨h.1, ih h.2⟩
  | get xs i f ih => exact fun ⟨x, hx, h⟩ => ⟨x, hx, ih x h⟩
  | call f vs => exact evCallP_mono hK
  | _ =>
    intro st h
    simp only [evCmdP] at h ⊢
    split at h
    · exact evCmd_mono hK h
    · exact h.elim
theorem evOneP_mono {prot : List Nat} {o : Oper} {st : St} (hK : ∀ s, K s → K' s) (h : evOneP P cx prot all o K st) : evOneP P cx prot all o K' st := by
  unfold evOneP at h ⊢
  split at h
  · exact evCmdP_mono hK h
  · exact hK _ h
  · exact h.elim
theorem evOneP_less {prot prot' : List Nat} {o : Oper} {st : St} (hs : ∀ k, k ∈ prot' → k ∈ prot) (h : evOneP P cx prot all o K st) : evOneP P cx prot' all o K st := by
  unfold evOneP at h ⊢
  split at h
  · exact evCmdP_less hs h
  · exact h
  · exact h.elim
theorem evOneP_to {prot : List Nat} {o : Oper} {st : St} (h : evOneP P cx prot all o K st) : evOne P cx all o K st := by
  unfold evOneP gate at h
  unfold evOne
  cases hg : o.guard with
  | none => rw [hg] at h; exact evCmdP_to h
  | some gw =>
    obtain ⟨j, want⟩ := gw
    rw [hg] at h
    try simp only at h ⊢
    cases hj : all[j]? with
    | none => rw [hj] at h; exact h
    | some oj =>
      rw [hj] at h
      try simp only at h ⊢
      cases ht : oj.dst with
      | none => rw [ht] at h; exact h
      | some t =>
        rw [ht] at h
        try simp only at h ⊢
        cases hl : look t st.env with
        | none => rw [hl] at h; exact h
        | some v =>
          rw [hl] at h
          try simp only at h ⊢
          cases v with
          | d y => cases y with
            | b x => cases want <;> cases x <;> first | exact evCmdP_to h | exact h
            | _ => exact h
          | tup vs => cases vs with
            | nil => exact h
            | cons _ _ => exact h
          | _ => exact h

def tmpsOf : List Operand → List Nat
  | [] => []
  | .tmp t :: r => t :: tmpsOf r
  | .const _ :: r => tmpsOf r
  | .func _ :: r => tmpsOf r
  | .global _ :: r => tmpsOf r
/-- The slots that an operation looks at. -/
def slotsOf (all : List Oper) (o : Oper) : List Nat :=
  (match o.guard with
  | some (j, _) => (match all[j]? with | some oj => (match oj.dst with | some t => [t] | none => []) | none => [])
  | none => []) ++ tmpsOf o.op.operands.toList
theorem tmpsOf_mem : ∀ {xs : List Operand} {t : Nat}, Operand.tmp t ∈ xs → t ∈ tmpsOf xs
  | [], t, h => by cases h
  | x :: xs, t, h => by
    rcases List.mem_cons.1 h with e | hm
    · subst e; exact List.mem_cons_self ..
    · have ih := tmpsOf_mem hm
      cases x with
      | tmp u => exact List.mem_cons_of_mem _ ih
      | const _ => exact ih
      | func _ => exact ih
      | global _ => exact ih
theorem gate_congr {o : Oper} {s t : St} (h : ∀ k, k ∈ slotsOf all o → look k s.env = look k t.env) : gate all o s = gate all o t := by
  unfold gate
  cases hg : o.guard with
  | none => rfl
  | some gw =>
    obtain ⟨j, want⟩ := gw
    simp only
    cases hj : all[j]? with
    | none => rfl
    | some oj =>
      simp only
      cases ht : oj.dst with
      | none => rfl
      | some u =>
        simp only
        rw [h u (by unfold slotsOf; rw [hg]; simp only [hj, ht]; exact List.mem_cons_self ..)]
theorem ev_slots {o : Oper} {s t : St} (h : ∀ k, k ∈ slotsOf all o → look k s.env = look k t.env) : ∀ x, x ∈ o.op.operands.toList → s.ev x = t.ev x := by
  intro x hx
  cases x with
  | tmp u => exact h u (List.mem_append_right _ (tmpsOf_mem hx))
  | _ => rfl

theorem evAll_intro {f : Nat → Prop} : ∀ {l : List Nat}, (∀ i, i ∈ l → f i) → evAll f l
  | [], _ => trivial
  | [j], h => h j (List.mem_cons_self ..)
  | j :: k :: l, h => ⟨h j (List.mem_cons_self ..), evAll_intro fun i hi => h i (List.mem_cons_of_mem _ hi)⟩

/-- The same operation in a state in which a slot more is filled, and without it. -/
theorem oneP_comm {x : Option (Nat × AV)} {e : Nat} {s t : St} {o : Oper} {prot rs : List Nat} (hx : Ext x s t) (hsub : ∀ k, k ∈ rs → k ∈ prot) (hvp : ∀ d v, x = some (d, v) → ∀ k, k ∈ v.refs → k ∈ rs ∨ k < 10000)
    (hc : ∀ k, k ∈ rs → ∃ o, look k s.obj = some o ∧ ∀ j, j ∈ o.refs → j ∈ rs) (hd : ∀ e', o.dst = some e' → (∀ d v, x = some (d, v) → d ≠ e') ∧ e' = e)
    (hslots : ∀ d v, x = some (d, v) → d ∉ slotsOf all o) (h : evOneP P cx prot all o K t) : evOneP P cx prot all o (fun s' => ∃ t', K t' ∧ Ext x s' t' ∧ Far rs e s s') s := by
  have hl : ∀ k, k ∈ slotsOf all o → look k t.env = look k s.env := by
    intro k hk
    rw [hx.env]
    cases x with
    | none => rfl
    | some dv =>
      obtain ⟨d, v⟩ := dv
      simp only [over]
      rw [if_neg]
      rintro rfl
      exact hslots _ v rfl hk
  unfold evOneP at h ⊢
  rw [gate_congr hl, opCmd_env (ev_slots hl) hx.obj] at h
  split at h
  · exact comm hx hsub hvp hc hd _ h
  · refine ⟨_, h, ?_⟩
    cases hdst : o.dst with
    | none => exact ⟨hx, Far.refl _ _ _⟩
    | some e' =>
      obtain ⟨g1, rfl⟩ := hd e' hdst
      exact ⟨hx.put g1 _, (Far.refl _ _ _).put _⟩
  · exact h.elim
end
end Go.Pm
