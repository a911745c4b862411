/-
A part of the proof (packed).
-/
import Derived.Test.YtdhogadndcjjlaaGreatKwe
namespace Go.Pm
open Go
set_option linter.unusedVariables false
variable {P : Program}
def edgeFrom (i : Nat) : List Edge → Bool
  | [] => false
  | e :: r => match Region.binds .any e with
    | true => (match Nat.beq e.on i with | true => true | false => edgeFrom i r)
    | false => edgeFrom i r
def dataEdge (e : Edge) : Bool := match e.ground with | .data => true | _ => false
def farL (rec : Oper → Bool) (all : List Oper) : List Edge → Bool
  | [] => false
  | e :: r => match dataEdge e with
    | true => (match all[e.on]? with
      | some op => (match rec op with | true => true | false => farL rec all r)
      | none => farL rec all r)
    | false => farL rec all r
def far (all : List Oper) (i : Nat) : Nat → Oper → Bool
  | 0, o => edgeFrom i o.after.toList
  | n + 1, o => match edgeFrom i o.after.toList with | true => true | false => farL (far all i n) all o.after.toList
def protFor (all : List Oper) (o : Oper) : List (Nat × List Nat) → List Nat
  | [] => []
  | (i, ks) :: r => match far all i 6 o with | true => protFor all o r | false => ks ++ protFor all o r
def gate (all : List Oper) (o : Oper) (st : St) : Option Bool :=
  match o.guard with
  | none => some true
  | some (j, want) => match all[j]? with
    | some oj => match oj.dst with
      | some t => match look t st.env with
        | some (.d (.b x)) => (match want with
          | true => (match x with | true => some true | false => some false)
          | false => (match x with | true => some false | false => some true))
        | some (.tup []) => some false
        | _ => none
      | none => none
    | none => none
def evOneP (P : Program) (cx : Cx) (prot : List Nat) (all : List Oper) (o : Oper) (K : St → Prop) (st : St) : Prop :=
  match gate all o st with
  | some true => evCmdP P cx prot o.dst (opCmd cx.T o st) st K
  | some false => K (st.put o.dst (.tup []))
  | none => False
def evAnyP (P : Program) (cx : Cx) (all : List Oper) (K : St → Prop) : Nat → List (Nat × List Nat) → List Nat → St → Prop
  | 0, _, done, st => match readyL done 0 all with | [] => K st | _ :: _ => False
  | n + 1, prot, done, st => match readyL done 0 all with
    | [] => K st
    | i :: is => evAll (fun i => match all[i]? with | some o => evOneP P cx (protFor all o prot) all o (evAnyP P cx all K n prot (i :: done)) st | none => False) (i :: is)
section
variable {cx : Cx} {all : List Oper} {K K' : St → Prop} {dst : Option Nat}
theorem evCmd_mono (hK : ∀ s, K s → K' s) : ∀ {c : Cmd} {st : St}, evCmd P cx dst c st K → evCmd P cx dst c st K' := by
  intro c
  induction c with
  | stuck => intro st h; exact h
  | need p c ih => exact fun h => ⟨h.1, ih h.2⟩
  | get xs i f ih => exact fun ⟨x, hx, h⟩ => ⟨x, hx, ih x h⟩
  | val v => exact fun h => hK _ h
  | str xs => exact fun ⟨l, hl, h⟩ => ⟨l, hl, hK _ h⟩
  | newVar cells =>
    intro st h
    simp only [evCmd] at h ⊢
    cases dst with
    | none => exact h
    | some d =>
      simp only at h ⊢
      cases hl : look (10000 + d) st.obj with
      | none => rw [hl] at h; exact hK _ h
      | some o => rw [hl] at h; exact h
  | newArr sz deep xs ks =>
    intro st h
    simp only [evCmd] at h ⊢
    cases hlit : litAt cx dst with
    | true =>
      rw [hlit] at h
      cases deep with
      | true => exact h
      | false => cases ks with
        | nil => exact hK _ h
        | cons _ _ => exact h
    | false =>
    rw [hlit] at h
    cases dst with
    | none => exact h
    | some d =>
      simp only at h ⊢
      cases hl : look (10000 + d) st.obj with
      | some o => rw [hl] at h; exact h
      | none =>
        rw [hl] at h
        cases ks with
        | nil => exact hK _ h
        | cons k ks =>
          simp only at h ⊢
          cases hb : bigs (k :: ks) with
          | true => rw [hb] at h; exact hK _ h
          | false => rw [hb] at h; exact h
  | app k sz deep xs ks =>
    intro st h
    simp only [evCmd] at h ⊢
    cases hb : bigs (k :: ks) with
    | true => rw [hb] at h; exact hK _ h
    | false => rw [hb] at h; exact h
  | upd k o v => exact fun h => hK _ h
  | bit p => exact fun h b hb => hK _ (h b hb)
  | alt a b iha ihb => exact fun h => h.imp iha ihb
  | newNil sz dp =>
    intro st h
    simp only [evCmd] at h ⊢
    cases dst with
    | none => exact h
    | some d =>
      simp only at h ⊢
      cases hl : look (10000 + d) st.obj with
      | none => rw [hl] at h; exact hK _ h
      | some o => rw [hl] at h; exact h
  | newMp =>
    intro st h
    simp only [evCmd] at h ⊢
    cases dst with
    | none => exact h
    | some d =>
      simp only at h ⊢
      cases hl : look (10000 + d) st.obj with
      | none => rw [hl] at h; exact hK _ h
      | some o => rw [hl] at h; exact h
  | opens k ob news c ih =>
    intro st h
    simp only [evCmd] at h ⊢
    split at h
    · exact ih h
    · exact h.elim
  | put k ob ks =>
    intro st h
    simp only [evCmd] at h ⊢
    split at h
    · exact hK _ h
    · exact h.elim
  | call f vs =>
    intro st h
    simp only [evCmd] at h ⊢
    have callIn : ∀ {args : List AV} {bs : List Nat} {d : Nat}, evCallIn P f args bs d st K → evCallIn P f args bs d st K' := by
      intro args bs d h
      unfold evCallIn at h ⊢
      simp only [forceN_eq] at h ⊢
      split at h
      · exact h.elim
      · split at h
        · exact h.elim
        · rename_i objs hobjs
          obtain ⟨Q, hent, hQ⟩ := h
          refine ⟨Q, hent, fun R O hq => ?_⟩
          have h := hQ R O hq
          split at h
          · exact h.elim
          · split at h
            · exact hK _ h
            · split at h <;> exact hK _ h
    have ro : ∀ {vs : List AV} {k1 k2 : List AV → List Nat → Prop}, (∀ a b, k1 a b → k2 a b) → evRo (look · st.obj) vs k1 → evRo (look · st.obj) vs k2 := by
      intro vs
      induction vs with
      | nil => intro k1 k2 hk h; exact hk _ _ h
      | cons v vs ih =>
        intro k1 k2 hk h
        have gen : (match v.show (look · st.obj) with
            | some (x, q1) => evRo (look · st.obj) vs fun l bs => k1 (.d x :: l) (q1 ++ bs)
            | none => evRo (look · st.obj) vs fun l bs => k1 (v :: l) bs) → (match v.show (look · st.obj) with
            | some (x, q1) => evRo (look · st.obj) vs fun l bs => k2 (.d x :: l) (q1 ++ bs)
            | none => evRo (look · st.obj) vs fun l bs => k2 (v :: l) bs) := by
          intro h
          split at h
          · exact ih (fun a b hab => hk _ _ hab) h
          · exact ih (fun a b hab => hk _ _ hab) h
        cases v with
        | ptr k off =>
          simp only [evRo] at h ⊢
          split at h
          · split at h
            · split at h
              · exact ih (fun a b hab => hk _ _ hab) h
              · exact h.elim
            · exact h.elim
          · exact h.elim
        | eptr k s j off =>
          simp only [evRo] at h ⊢
          split at h
          · split at h
            · obtain ⟨x, hx, h⟩ := h
              refine ⟨x, hx, ?_⟩
              split at h
              · exact ih (fun a b hab => hk _ _ hab) h
              · exact h.elim
            · exact h.elim
          · exact h.elim
        | d y => simp only [evRo] at h ⊢; exact gen h
        | c y => simp only [evRo] at h ⊢; exact gen h
        | snil => simp only [evRo] at h ⊢; exact gen h
        | agg y => simp only [evRo] at h ⊢; exact gen h
        | tup y => simp only [evRo] at h ⊢; exact gen h
        | own y => simp only [evRo] at h ⊢; exact gen h
        | win k s lo hi => simp only [evRo] at h ⊢; exact gen h
        | rd y => simp only [evRo] at h ⊢; exact gen h
        | fn g y => simp only [evRo] at h ⊢; exact gen h
        | bot => simp only [evRo] at h ⊢; exact gen h
    unfold evCall at h ⊢
    cases dst with
    | none => exact h
    | some d =>
      simp only at h ⊢
      split at h
      · exact ro (fun a b hab => callIn hab) h
      · split at h
        · exact callIn h
        · exact callIn h
theorem evCmdP_mono {prot : List Nat} (hK : ∀ s, K s → K' s) : ∀ {c : Cmd} {st : St}, evCmdP P cx prot dst c st K → evCmdP P cx prot dst c st K' := by
  intro c
  induction c with
  | need p c ih => exact fun h => ⟨h.1, ih h.2⟩
  | get xs i f ih => exact fun ⟨x, hx, h⟩ => ⟨x, hx, ih x h⟩
  | call f vs => exact evCallP_mono hK
  | _ =>
    intro st h
    simp only [evCmdP] at h ⊢
    split at h
    · exact evCmd_mono hK h
    · exact h.elim
theorem evOneP_mono {prot : List Nat} {o : Oper} {st : St} (hK : ∀ s, K s → K' s) (h : evOneP P cx prot all o K st) : evOneP P cx prot all o K' st := by
  unfold evOneP at h ⊢
  split at h
  · exact evCmdP_mono hK h
  · exact hK _ h
  · exact h.elim
theorem evOneP_less {prot prot' : List Nat} {o : Oper} {st : St} (hs : ∀ k, k ∈ prot' → k ∈ prot) (h : evOneP P cx prot all o K st) : evOneP P cx prot' all o K st := by
  unfold evOneP at h ⊢
  split at h
  · exact evCmdP_less hs h
  · exact h
  · exact h.elim
theorem evOneP_to {prot : List Nat} {o : Oper} {st : St} (h : evOneP P cx prot all o K st) : evOne P cx all o K st := by
  unfold evOneP gate at h
  unfold evOne
  cases hg : o.guard with
  | none => rw [hg] at h; exact evCmdP_to h
  | some gw =>
    obtain ⟨j, want⟩ := gw
    rw [hg] at h
    try simp only at h ⊢
    cases hj : all[j]? with
    | none => rw [hj] at h; exact h
    | some oj =>
      rw [hj] at h
      try simp only at h ⊢
      cases ht : oj.dst with
      | none => rw [ht] at h; exact h
      | some t =>
        rw [ht] at h
        try simp only at h ⊢
        cases hl : look t st.env with
        | none => rw [hl] at h; exact h
        | some v =>
          rw [hl] at h
          try simp only at h ⊢
          cases v with
          | d y => cases y with
            | b x => cases want <;> cases x <;> first | exact evCmdP_to h | exact h
            | _ => exact h
          | tup vs => cases vs with
            | nil => exact h
            | cons _ _ => exact h
          | _ => exact h
def tmpsOf : List Operand → List Nat
  | [] => []
  | .tmp t :: r => t :: tmpsOf r
  | .const _ :: r => tmpsOf r
  | .func _ :: r => tmpsOf r
  | .global _ :: r => tmpsOf r
def slotsOf (all : List Oper) (o : Oper) : List Nat :=
  (match o.guard with
  | some (j, _) => (match all[j]? with | some oj => (match oj.dst with | some t => [t] | none => []) | none => [])
  | none => []) ++ tmpsOf o.op.operands.toList
theorem tmpsOf_mem : ∀ {xs : List Operand} {t : Nat}, Operand.tmp t ∈ xs → t ∈ tmpsOf xs
  | [], t, h => by cases h
  | x :: xs, t, h => by
    rcases List.mem_cons.1 h with e | hm
    · subst e; exact List.mem_cons_self ..
    · have ih := tmpsOf_mem hm
      cases x with
      | tmp u => exact List.mem_cons_of_mem _ ih
      | const _ => exact ih
      | func _ => exact ih
      | global _ => exact ih
theorem gate_congr {o : Oper} {s t : St} (h : ∀ k, k ∈ slotsOf all o → look k s.env = look k t.env) : gate all o s = gate all o t := by
  unfold gate
  cases hg : o.guard with
  | none => rfl
  | some gw =>
    obtain ⟨j, want⟩ := gw
    simp only
    cases hj : all[j]? with
    | none => rfl
    | some oj =>
      simp only
      cases ht : oj.dst with
      | none => rfl
      | some u =>
        simp only
        rw [h u (by unfold slotsOf; rw [hg]; simp only [hj, ht]; exact List.mem_cons_self ..)]
theorem ev_slots {o : Oper} {s t : St} (h : ∀ k, k ∈ slotsOf all o → look k s.env = look k t.env) : ∀ x, x ∈ o.op.operands.toList → s.ev x = t.ev x := by
  intro x hx
  cases x with
  | tmp u => exact h u (List.mem_append_right _ (tmpsOf_mem hx))
  | _ => rfl
theorem evAll_intro {f : Nat → Prop} : ∀ {l : List Nat}, (∀ i, i ∈ l → f i) → evAll f l
  | [], _ => trivial
  | [j], h => h j (List.mem_cons_self ..)
  | j :: k :: l, h => ⟨h j (List.mem_cons_self ..), evAll_intro fun i hi => h i (List.mem_cons_of_mem _ hi)⟩
theorem oneP_comm {x : Option (Nat × AV)} {e : Nat} {s t : St} {o : Oper} {prot rs : List Nat} (hx : Ext x s t) (hsub : ∀ k, k ∈ rs → k ∈ prot) (hvp : ∀ d v, x = some (d, v) → ∀ k, k ∈ v.refs → k ∈ rs ∨ k < 10000)
    (hc : ∀ k, k ∈ rs → ∃ o, look k s.obj = some o ∧ ∀ j, j ∈ o.refs → j ∈ rs) (hd : ∀ e', o.dst = some e' → (∀ d v, x = some (d, v) → d ≠ e') ∧ e' = e)
    (hslots : ∀ d v, x = some (d, v) → d ∉ slotsOf all o) (h : evOneP P cx prot all o K t) : evOneP P cx prot all o (fun s' => ∃ t', K t' ∧ Ext x s' t' ∧ Far rs e s s') s := by
  have hl : ∀ k, k ∈ slotsOf all o → look k t.env = look k s.env := by
    intro k hk
    rw [hx.env]
    cases x with
    | none => rfl
    | some dv =>
      obtain ⟨d, v⟩ := dv
      simp only [over]
      rw [if_neg]
      rintro rfl
      exact hslots _ v rfl hk
  unfold evOneP at h ⊢
  rw [gate_congr hl, opCmd_env (ev_slots hl) hx.obj] at h
  split at h
  · exact comm hx hsub hvp hc hd _ h
  · refine ⟨_, h, ?_⟩
    cases hdst : o.dst with
    | none => exact ⟨hx, Far.refl _ _ _⟩
    | some e' =>
      obtain ⟨g1, rfl⟩ := hd e' hdst
      exact ⟨hx.put g1 _, (Far.refl _ _ _).put _⟩
  · exact h.elim
end
end Go.Pm
namespace Go.Pm
open Go
set_option linter.unusedVariables false
variable {P : Program}
def GivesC (lit : Bool) : Cmd → AV → Prop
  | .val u, v => u = v
  | .need p c, v => p ∧ GivesC lit c v
  | .get xs i f, v => ∃ x, xs[i]? = some x ∧ GivesC lit (f x) v
  | .str xs, v => ∃ l, xs = u8s l ∧ v = .d (.s l)
  | .newArr _ deep xs ks, v => lit = true ∧ deep = false ∧ ks = [] ∧ v = .d (.sl false xs)
  | _, _ => False
def Gives (cx : Cx) (all : List Oper) (o : Oper) (s : St) (v : AV) : Prop :=
  (gate all o s = some true ∧ GivesC (litAt cx o.dst) (opCmd cx.T o s) v) ∨ (gate all o s = some false ∧ v = .tup [])
def evV (lit : Bool) : Cmd → (AV → Prop) → Prop
  | .val u, K => K u
  | .need p c, K => p ∧ evV lit c K
  | .get xs i f, K => ∃ x, xs[i]? = some x ∧ evV lit (f x) K
  | .str xs, K => ∃ l, xs = u8s l ∧ K (.d (.s l))
  | .newArr _ deep xs ks, K => match lit with
    | false => False
    | true => match deep with
      | true => False
      | false => match ks with | [] => K (.d (.sl false xs)) | _ :: _ => False
  | _, _ => False
def isLitOp : Op → Bool
  | .buildSlice .. => true
  | _ => false
def mayTake (cx : Cx) (o : Oper) : Bool := match valOp o.op with | true => true | false => match isLitOp o.op with | true => litAt cx o.dst | false => false
mutual
theorem AV.absorb_nil {σ σ' : Nat → Option Ob} : ∀ (v : AV) (x : D), v.absorb σ = some (x, []) → v.absorb σ' = some (x, [])
  | .d y, x, h => by simp only [AV.absorb] at h ⊢; exact h
  | .snil, x, h => by simp only [AV.absorb] at h ⊢; exact h
  | .own k, x, h => by
    simp only [AV.absorb, absorbK] at h
    split at h
    · cases h
    · simp at h
    · cases h
  | .agg cs, x, h => by
    simp only [AV.absorb] at h ⊢
    split at h
    · rename_i l ks hl
      simp only [Option.some.injEq, Prod.mk.injEq] at h
      obtain ⟨rfl, rfl⟩ := h
      rw [absorbL_nil cs l hl]
    · cases h
  | .c _, x, h => by simp only [AV.absorb] at h; cases h
  | .tup _, x, h => by simp only [AV.absorb] at h; cases h
  | .ptr _ _, x, h => by simp only [AV.absorb] at h; cases h
  | .eptr _ _ _ _, x, h => by simp only [AV.absorb] at h; cases h
  | .win _ _ _ _, x, h => by simp only [AV.absorb] at h; cases h
  | .rd _, x, h => by simp only [AV.absorb] at h; cases h
  | .fn _ _, x, h => by simp only [AV.absorb] at h; cases h
  | .bot, x, h => by simp only [AV.absorb] at h; cases h
theorem absorbL_nil {σ σ' : Nat → Option Ob} : ∀ (vs : List AV) (l : List D), absorbL σ vs = some (l, []) → absorbL σ' vs = some (l, [])
  | [], l, h => by simp only [absorbL] at h ⊢; exact h
  | v :: r, l, h => by
    simp only [absorbL] at h ⊢
    split at h
    · rename_i x ks hx
      split at h
      · rename_i l' ks' hl'
        simp only [Option.some.injEq, Prod.mk.injEq, List.append_eq_nil_iff] at h
        obtain ⟨rfl, rfl, rfl⟩ := h
        rw [AV.absorb_nil v x hx, absorbL_nil r l' hl']
        rfl
      · cases h
    · cases h
end
theorem litParts_nil {σ σ' : Nat → Option Ob} {sz : Nat} : ∀ {ps : List (Nat × AV)} {j : Nat} {xs : List D}, litParts σ sz j ps = some (xs, []) → litParts σ' sz j ps = some (xs, [])
  | [], j, xs, h => by simp only [litParts] at h ⊢; exact h
  | (i, v) :: r, j, xs, h => by
    simp only [litParts] at h ⊢
    split at h
    case h_2 => cases h
    split at h
    case h_2 => cases h
    rename_i x ks hx
    split at h
    case h_2 => cases h
    rename_i hq
    split at h
    case h_2 => cases h
    rename_i l ks' hl
    simp only [Option.some.injEq, Prod.mk.injEq, List.append_eq_nil_iff] at h
    obtain ⟨rfl, rfl, rfl⟩ := h
    rw [AV.absorb_nil v x hx]
    simp only
    rw [hq, litParts_nil hl]
    rfl
theorem bs_far {T : List TD} {o : Oper} {s t : St} {ty : TypeId} {n : Nat} {ps : Array (Nat × Operand)} (hop : o.op = .buildSlice ty n ps) (hp : pairs s ps.toList = pairs t ps.toList) {lit : Bool} {v : AV} (h : GivesC lit (opCmd T o s) v) : GivesC lit (opCmd T o t) v := by
  simp only [opCmd, hop] at h ⊢
  rw [hp] at h
  cases hT : T[ty]? with
  | none => rw [hT] at h; exact h.elim
  | some i =>
  rw [hT] at h
  simp only at h ⊢
  split at h
  case h_2 => exact h.elim
  rename_i e hk
  cases hE : T[e]? with
  | none => rw [hE] at h; exact h.elim
  | some ie =>
  rw [hE] at h
  simp only at h ⊢
  cases hb : Nat.beq n ps.size with
  | false => rw [hb] at h; exact h.elim
  | true =>
  rw [hb] at h
  simp only at h ⊢
  cases hpp : pairs t ps.toList with
  | none => rw [hpp] at h; exact h.elim
  | some pl =>
  rw [hpp] at h
  simp only at h ⊢
  cases hlp : litParts (look · s.obj) ie.size 0 pl with
  | none => rw [hlp] at h; exact h.elim
  | some xk =>
  obtain ⟨xs, ks⟩ := xk
  rw [hlp] at h
  simp only at h
  have hks : ks = [] := by
    split at h
    case h_2 => exact h.elim
    split at h
    case h_2 => exact h.elim
    split at h
    case h_2 => exact h.elim
    exact h.2.2.1
  subst hks
  rw [litParts_nil (σ' := (look · t.obj)) hlp]
  exact h
section
variable {cx : Cx} {all : List Oper} {K K' : St → Prop}
theorem evV_gives {lit : Bool} {K : AV → Prop} : ∀ {c : Cmd}, evV lit c K → ∃ v, GivesC lit c v ∧ K v := by
  intro c
  induction c with
  | val u => exact fun h => ⟨u, rfl, h⟩
  | need p c ih => exact fun ⟨hp, h⟩ => let ⟨v, h1, h2⟩ := ih h; ⟨v, ⟨hp, h1⟩, h2⟩
  | get xs i f ih => exact fun ⟨x, hx, h⟩ => let ⟨v, h1, h2⟩ := ih x h; ⟨v, ⟨x, hx, h1⟩, h2⟩
  | str xs => exact fun ⟨l, hl, h⟩ => ⟨_, ⟨l, hl, rfl⟩, h⟩
  | newArr sz deep xs ks =>
    intro h
    simp only [evV] at h
    cases lit with
    | false => exact h.elim
    | true => cases deep with
      | true => exact h.elim
      | false => cases ks with
        | nil => exact ⟨_, ⟨rfl, rfl, rfl, rfl⟩, h⟩
        | cons _ _ => exact h.elim
  | _ => exact fun h => h.elim
theorem givesC_ev {v : AV} {prot : List Nat} {dst : Option Nat} {st : St} (hK : K (st.put dst v)) : ∀ {c : Cmd}, GivesC (litAt cx dst) c v → evCmdP P cx prot dst c st K := by
  intro c
  induction c with
  | val u => intro h; simp only [GivesC] at h; subst h; simp only [evCmdP, okC, evCmd]; exact hK
  | need p c ih => exact fun ⟨hp, h⟩ => ⟨hp, ih h⟩
  | get xs i f ih => exact fun ⟨x, hx, h⟩ => ⟨x, hx, ih x h⟩
  | str xs => intro ⟨l, hl, h⟩; subst h; simp only [evCmdP, okC, evCmd]; exact ⟨l, hl, hK⟩
  | newArr sz deep xs ks =>
    intro ⟨hlit, hd, hk, hv⟩
    subst hd hk hv
    simp only [evCmdP, okC, evCmd, hlit]
    exact hK
  | _ => exact fun h => h.elim
theorem gives_one {v : AV} {prot : List Nat} {o : Oper} {s : St} (h : Gives cx all o s v) (hK : K (s.put o.dst v)) : evOneP P cx prot all o K s := by
  unfold evOneP
  rcases h with ⟨hg, h⟩ | ⟨hg, rfl⟩
  · rw [hg]; exact givesC_ev hK h
  · rw [hg]; exact hK
def isMove : Op → Bool
  | .move _ => true
  | _ => false
theorem gives_far {v : AV} {o : Oper} {s s' : St} {rs : List Nat} {e : Nat} (hv : mayTake cx o = true) (hf : Far rs e s s') (he : e ∉ slotsOf all o)
    (hr : ∀ k, k ∈ slotsOf all o → ∀ u, look k s.env = some u → ∀ j, j ∈ u.refs → j ∈ rs ∨ (isMove o.op = true ∧ j < 10000)) (h : Gives cx all o s v) :
    Gives cx all o s' v ∧ ∀ k, k ∈ slotsOf all o → ∀ u, look k s'.env = some u → ∀ j, j ∈ u.refs → j ∈ rs ∨ (isMove o.op = true ∧ j < 10000) := by
  have hl : ∀ k, k ∈ slotsOf all o → look k s'.env = look k s.env := fun k hk => hf.env k (by rintro rfl; exact he hk) (fun u hu j hj => (hr k hk u hu j hj).imp id (·.2))
  have hbs : valOp o.op = false → ∃ ty n ps, o.op = .buildSlice ty n ps := by
    intro h0
    unfold mayTake at hv
    rw [h0] at hv
    cases ho : o.op <;> rw [ho] at hv <;> first | exact ⟨_, _, _, rfl⟩ | cases hv
  have hcmd : valOp o.op = true → opCmd cx.T o s' = opCmd cx.T o s := by
    intro hv
    cases hmv : isMove o.op with
    | true =>
      obtain ⟨x, hx⟩ : ∃ x, o.op = .move x := by
        cases ho : o.op <;> rw [ho] at hmv <;> first | exact ⟨_, rfl⟩ | cases hmv
      have hev := ev_slots hl x (by rw [hx]; simp [Op.operands])
      simp only [opCmd, hx, hev]
    | false =>
    have hr : ∀ k, k ∈ slotsOf all o → ∀ u, look k s.env = some u → ∀ j, j ∈ u.refs → j ∈ rs := fun k hk u hu j hj => (hr k hk u hu j hj).elim id (fun h => by rw [hmv] at h; cases h.1)
    refine opCmd_far hv (ev_slots hl) ?_
    intro x hx u hu k hk
    cases x with
    | tmp t =>
      have hts : t ∈ slotsOf all o := List.mem_append_right _ (tmpsOf_mem hx)
      have : look t s'.env = some u := hu
      rw [hl t hts] at this
      exact hf.obj k (hr t hts u this k hk)
    | const c =>
      have hc : ofConst c = some u := hu
      unfold ofConst at hc
      split at hc <;> first | (cases hc; simp [AV.refs] at hk; done) | cases hc
    | func f => cases hu; simp [AV.refs, refsL] at hk
    | global g => cases hu
  refine ⟨?_, fun k hk u hu => hr k hk u (by rw [← hl k hk]; exact hu)⟩
  unfold Gives at h ⊢
  rw [gate_congr hl]
  cases hval : valOp o.op with
  | true => rw [hcmd hval]; exact h
  | false =>
    obtain ⟨ty, n, ps, hop⟩ := hbs hval
    refine h.imp (fun ⟨h1, h2⟩ => ⟨h1, bs_far hop (pairs_congr fun x hx => ?_) h2⟩) id
    exact (ev_slots hl x (by rw [hop]; simpa [Op.operands] using hx)).symm
theorem edgeOk_congr {done done' : List Nat} (h : ∀ k, has k done = has k done') : ∀ {l : List Edge}, edgeOk done l = edgeOk done' l
  | [] => rfl
  | e :: l => by simp only [edgeOk]; rw [h, edgeOk_congr h]
theorem readyL_congr {done done' : List Nat} (h : ∀ k, has k done = has k done') : ∀ {l : List Oper} {i : Nat}, readyL done i l = readyL done' i l
  | [], _ => rfl
  | o :: l, i => by simp only [readyL]; rw [h, edgeOk_congr h, readyL_congr h]
theorem has_cons (k j : Nat) (l : List Nat) : has k (j :: l) = (Nat.beq j k || has k l) := by
  simp only [has]; cases Nat.beq j k <;> rfl
theorem evAnyP_done : ∀ {n : Nat} {prot : List (Nat × List Nat)} {done done' : List Nat} {st : St}, (∀ k, has k done = has k done') → evAnyP P cx all K n prot done st → evAnyP P cx all K n prot done' st
  | 0, prot, done, done', st, h, hh => by simp only [evAnyP] at hh ⊢; rw [← readyL_congr h]; exact hh
  | n + 1, prot, done, done', st, h, hh => by
    simp only [evAnyP] at hh ⊢
    rw [← readyL_congr h]
    split at hh
    · exact hh
    · refine evAll_intro fun i hi => ?_
      have := evAll_ok hh i hi
      split at this
      · exact evOneP_mono (fun s hs => evAnyP_done (fun k => by rw [has_cons, has_cons, h]) hs) this
      · exact this
theorem Ext.refl (s : St) : Ext none s s := ⟨fun _ => rfl, fun _ => rfl⟩
theorem evAnyP_eqv (hKe : ∀ s t, Ext none s t → K t → K s) : ∀ {n : Nat} {prot prot' : List (Nat × List Nat)} {done : List Nat} {s t : St}, Ext none s t → (∀ o k, k ∈ protFor all o prot' → k ∈ protFor all o prot) →
    evAnyP P cx all K n prot done t → evAnyP P cx all K n prot' done s
  | 0, prot, prot', done, s, t, hx, _, h => by
    simp only [evAnyP] at h ⊢
    split at h
    · exact hKe s t hx h
    · exact h.elim
  | n + 1, prot, prot', done, s, t, hx, hp, h => by
    simp only [evAnyP] at h ⊢
    split at h
    · exact hKe s t hx h
    · refine evAll_intro fun i hi => ?_
      have := evAll_ok h i hi
      split at this
      · rename_i o ho
        have h2 := oneP_comm (x := none) (e := o.dst.getD 0) (rs := []) hx (by simp) (by simp) (by simp) (fun e' he => ⟨by simp, by rw [he]; rfl⟩) (by simp) this
        exact evOneP_mono (fun s' ⟨t', h3, h4, _⟩ => evAnyP_eqv hKe h4 hp h3) (evOneP_less (hp o) h2)
      · exact this
theorem protFor_cons {o : Oper} {i : Nat} {rs : List Nat} {prot : List (Nat × List Nat)} : ∀ k, k ∈ protFor all o prot → k ∈ protFor all o ((i, rs) :: prot) := by
  intro k hk
  simp only [protFor]
  split
  · exact hk
  · exact List.mem_append_right _ hk
theorem edgeFrom_ready {i : Nat} {done : List Nat} : ∀ {l : List Edge}, has i done = false → edgeOk done l = true → edgeFrom i l = false
  | [], _, _ => rfl
  | e :: l, hi, h => by
    simp only [edgeOk] at h
    simp only [edgeFrom]
    cases hb : Region.binds .any e with
    | false => rw [hb] at h; exact edgeFrom_ready hi h
    | true =>
      rw [hb] at h
      simp only at h ⊢
      cases hd : has e.on done with
      | false => rw [hd] at h; cases h
      | true =>
        rw [hd] at h
        have : Nat.beq e.on i = false := Bool.eq_false_iff.2 fun hh => by
          have := Nat.eq_of_beq_eq_true hh
          rw [this, hi] at hd; cases hd
        rw [this]
        exact edgeFrom_ready hi h
def closedD (all : List Oper) (done : List Nat) : Prop := ∀ p op, has p done = true → all[p]? = some op → edgeOk done op.after.toList = true
theorem closedD_cons {done : List Nat} {j : Nat} {o : Oper} (h : closedD all done) (hj : all[j]? = some o) (he : edgeOk done o.after.toList = true) : closedD all (j :: done) := by
  have up : ∀ l : List Edge, edgeOk done l = true → edgeOk (j :: done) l = true := fun l hl => edgeOk_iff.2 fun e hm hb => by
    rw [has_cons, edgeOk_iff.1 hl e hm hb, Bool.or_true]
  intro p op hp hop
  rw [has_cons] at hp
  cases hb : Nat.beq j p with
  | true => cases Nat.eq_of_beq_eq_true hb; rw [hj] at hop; cases hop; exact up _ he
  | false => rw [hb, Bool.false_or] at hp; exact up _ (h p op hp hop)
theorem farL_ready {rec : Oper → Bool} {done : List Nat} (hr : ∀ p op, has p done = true → all[p]? = some op → rec op = false) : ∀ {l : List Edge}, edgeOk done l = true → farL rec all l = false
  | [], _ => rfl
  | e :: l, h => by
    have hl : edgeOk done l = true := edgeOk_iff.2 fun e' he hb => edgeOk_iff.1 h e' (List.mem_cons_of_mem _ he) hb
    simp only [farL]
    cases hd : dataEdge e with
    | false => exact farL_ready hr hl
    | true =>
      have hb : Region.binds .any e = true := by
        unfold dataEdge at hd
        unfold Region.binds
        split at hd
        · rename_i hg; rw [hg]
        · cases hd
      have hon := edgeOk_iff.1 h e (List.mem_cons_self ..) hb
      cases ho : all[e.on]? with
      | none => exact farL_ready hr hl
      | some op =>
        simp only
        rw [hr e.on op hon ho]
        exact farL_ready hr hl
theorem far_ready {done : List Nat} {i : Nat} (hc : closedD all done) (hi : has i done = false) : ∀ (n : Nat) {o : Oper}, edgeOk done o.after.toList = true → far all i n o = false
  | 0, o, h => edgeFrom_ready hi h
  | n + 1, o, h => by
    simp only [far]
    rw [edgeFrom_ready hi h]
    exact farL_ready (fun p op hp hop => far_ready hc hi n (hc p op hp hop)) h
theorem take_first (hKe : ∀ s t, Ext none s t → K t → K s) {i d : Nat} {oi : Oper} {v : AV} {rs : List Nat} (hoi : all[i]? = some oi) (hdi : oi.dst = some d) (hval : mayTake cx oi = true) (hvr : ∀ k, k ∈ v.refs → k ∈ rs ∨ k < 10000) :
    ∀ (n : Nat) (s t : St) (done : List Nat) (prot : List (Nat × List Nat)), closedD all done → Ext (some (d, v)) s t → Gives cx all oi s v →
      (∀ k, k ∈ slotsOf all oi → ∀ u, look k s.env = some u → ∀ j, j ∈ u.refs → j ∈ rs ∨ (isMove oi.op = true ∧ j < 10000)) → (∀ k, k ∈ rs → ∃ o, look k s.obj = some o ∧ ∀ j, j ∈ o.refs → j ∈ rs) →
      i ∈ readyL done 0 all →
      (∀ (j : Nat) (oj : Oper), all[j]? = some oj → j ≠ i → has j done = false → edgeFrom i oj.after.toList = false → d ∉ slotsOf all oj ∧ ∀ e, oj.dst = some e → d ≠ e ∧ e ∉ slotsOf all oi) →
      evAnyP P cx all K n ((i, rs) :: prot) (i :: done) t → evAnyP P cx all K (n + 1) prot done s := by
  intro n
  induction n with
  | zero =>
    intro s t done prot hcd hx hg hr hc hi hfree h
    have h0 := h
    simp only [evAnyP] at h
    split at h
    case h_2 => exact h.elim
    rename_i hempty
    simp only [evAnyP]
    split
    · rename_i hnil; rw [hnil] at hi; cases hi
    · rename_i i0 is hcons
      refine evAll_intro fun j hj => ?_
      rw [← hcons] at hj
      by_cases hji : j = i
      · subst hji
        rw [hoi]
        refine gives_one hg ?_
        rw [hdi]
        have : Ext none (s.put (some d) v) t := ⟨fun k => by rw [St.put_look, hx.env]; rfl, hx.obj⟩
        try simp only [evAnyP]
        rw [hempty]
        exact hKe _ _ this h
      · obtain ⟨m, oj, hm, hoj, hnd, hedge⟩ := mem_readyL.1 hj
        have : j ∈ readyL (i :: done) 0 all := mem_readyL.2 ⟨m, oj, hm, hoj, by
          rw [has_cons, hnd, Bool.or_false]
          exact Bool.eq_false_iff.2 fun e => hji (Nat.eq_of_beq_eq_true e).symm, edgeOk_iff.2 fun e he hb => by
            rw [has_cons, edgeOk_iff.1 hedge e he hb, Bool.or_true]⟩
        rw [hempty] at this; cases this
  | succ n ih =>
    intro s t done prot hcd hx hg hr hc hi hfree h
    rw [evAnyP]
    split
    · rename_i hnil; rw [hnil] at hi; cases hi
    · rename_i i0 is hcons
      refine evAll_intro fun j hj => ?_
      rw [← hcons] at hj
      obtain ⟨mi, oi', hmi, hoi', hind, hiedge⟩ := mem_readyL.1 hi
      by_cases hji : j = i
      · subst hji
        rw [hoi]
        refine gives_one hg ?_
        rw [hdi]
        have : Ext none (s.put (some d) v) t := ⟨fun k => by rw [St.put_look, hx.env]; rfl, hx.obj⟩
        exact evAnyP_eqv hKe this (fun o k hk => protFor_cons k hk) h
      · obtain ⟨m, oj, hm, hoj, hnd, hedge⟩ := mem_readyL.1 hj
        have hm0 : m = j := by omega
        subst hm0
        rw [hoj]
        have hjr : m ∈ readyL (i :: done) 0 all := mem_readyL.2 ⟨m, oj, hm, hoj, by
          rw [has_cons, hnd, Bool.or_false]
          exact Bool.eq_false_iff.2 fun e => hji (Nat.eq_of_beq_eq_true e).symm, edgeOk_iff.2 fun e he hb => by
            rw [has_cons, edgeOk_iff.1 hedge e he hb, Bool.or_true]⟩
        have hnoedge := edgeFrom_ready hind hedge
        obtain ⟨hds, hdj⟩ := hfree m oj hoj hji hnd hnoedge
        rw [evAnyP] at h
        split at h
        · rename_i hnil; rw [hnil] at hjr; cases hjr
        · rename_i i1 is1 hcons1
          rw [← hcons1] at h
          have h1 := evAll_ok h m hjr
          rw [hoj] at h1
          simp only at h1
          have hrsub : ∀ k, k ∈ rs → k ∈ protFor all oj ((i, rs) :: prot) := by
            intro k hk
            simp only [protFor, far_ready hcd hind 6 hedge]
            exact List.mem_append_left _ hk
          have h2 := oneP_comm (x := some (d, v)) (e := oj.dst.getD (d + 1 + (slotsOf all oi).sum)) (rs := rs) hx hrsub (fun d' v' hdv => by cases hdv; exact hvr) hc
            (fun e' he => ⟨fun d' v' hdv => by cases hdv; exact (hdj e' he).1, by rw [he]; rfl⟩) (fun d' v' hdv => by cases hdv; exact hds) h1
          refine evOneP_mono ?_ (evOneP_less (fun k hk => protFor_cons k hk) h2)
          rintro s' ⟨t', h3, h4, h5⟩
          have hnot : oj.dst.getD (d + 1 + (slotsOf all oi).sum) ∉ slotsOf all oi := by
            cases hdst : oj.dst with
            | some e => exact (hdj e hdst).2
            | none =>
              intro hmem
              have : ∀ (l : List Nat) (x : Nat), x ∈ l → x ≤ l.sum := by
                intro l
                induction l with
                | nil => intro x hx; cases hx
                | cons y l ih2 =>
                  intro x hx
                  rcases List.mem_cons.1 hx with rfl | hx
                  · simp
                  · have := ih2 x hx; simp only [List.sum_cons]; omega
              have := this _ _ hmem
              simp only [Option.getD_none] at this
              omega
          obtain ⟨g1, g2⟩ := gives_far hval h5 hnot hr hg
          refine ih s' t' (m :: done) prot (closedD_cons hcd hoj hedge) h4 g1 g2 (fun k hk => by rw [h5.obj k hk]; exact hc k hk) ?_ ?_ ?_
          · exact mem_readyL.2 ⟨mi, oi', hmi, hoi', by
              rw [has_cons, hind, Bool.or_false]
              exact Bool.eq_false_iff.2 fun e => hji (Nat.eq_of_beq_eq_true e), edgeOk_iff.2 fun e he hb => by
                rw [has_cons, edgeOk_iff.1 hiedge e he hb, Bool.or_true]⟩
          · intro j' oj' ho' hne hd' hed
            refine hfree j' oj' ho' hne ?_ hed
            rw [has_cons] at hd'
            cases hh : has j' done with
            | true => rw [hh, Bool.or_true] at hd'; cases hd'
            | false => rfl
          · exact evAnyP_done (fun k => by rw [has_cons, has_cons, has_cons, has_cons, ← Bool.or_assoc, ← Bool.or_assoc, Bool.or_comm (Nat.beq m k)]) h3
end
end Go.Pm
namespace Go.Pm
open Go
set_option linter.unusedVariables false
variable {P : Program}
def freeFrom (all : List Oper) (done : List Nat) (i d : Nat) (o : Oper) : Nat → List Oper → Bool
  | _, [] => true
  | j, oj :: r => match Nat.beq j i with
    | true => freeFrom all done i d o (j + 1) r
    | false => match has j done with
      | true => freeFrom all done i d o (j + 1) r
      | false => match edgeFrom i oj.after.toList with
        | true => freeFrom all done i d o (j + 1) r
        | false => match has d (slotsOf all oj) with
          | true => false
          | false => match oj.dst with
            | none => freeFrom all done i d o (j + 1) r
            | some e => match Nat.beq d e with
              | true => false
              | false => match has e (slotsOf all o) with
                | true => false
                | false => freeFrom all done i d o (j + 1) r
def pickVal (cx : Cx) (all : List Oper) (done : List Nat) : List Nat → Option (Nat × Nat × Oper)
  | [] => none
  | i :: r => match all[i]? with
    | none => pickVal cx all done r
    | some o => match mayTake cx o with
      | false => pickVal cx all done r
      | true => match o.dst with
        | none => pickVal cx all done r
        | some d => match has (3000000 + d) cx.mu with
          | true => pickVal cx all done r
          | false => match freeFrom all done i d o 0 all with
            | true => some (i, d, o)
            | false => pickVal cx all done r
def slotRefs (st : St) : List Nat → List Nat
  | [] => []
  | t :: r => match look t st.env with | some v => v.refs ++ slotRefs st r | none => slotRefs st r
def bigOnly (mv : Bool) : List Nat → List Nat
  | [] => []
  | k :: r => match mv with | true => (match Nat.blt k 10000 with | true => bigOnly mv r | false => k :: bigOnly mv r) | false => k :: bigOnly mv r
theorem bigOnly_mem {mv : Bool} : ∀ {l : List Nat} {k : Nat}, k ∈ l → k ∈ bigOnly mv l ∨ (mv = true ∧ k < 10000)
  | j :: l, k, h => by
    cases mv with
    | false =>
      simp only [bigOnly]
      rcases List.mem_cons.1 h with rfl | h
      · exact .inl (List.mem_cons_self ..)
      · exact (bigOnly_mem (mv := false) h).imp (List.mem_cons_of_mem _) id
    | true =>
      unfold bigOnly
      cases hb : Nat.blt j 10000 with
      | true =>
        rcases List.mem_cons.1 h with rfl | h
        · exact .inr ⟨rfl, Nat.le_of_ble_eq_true hb⟩
        · exact bigOnly_mem (mv := true) h
      | false =>
        rcases List.mem_cons.1 h with rfl | h
        · exact .inl (List.mem_cons_self ..)
        · exact (bigOnly_mem (mv := true) h).imp (List.mem_cons_of_mem _) id
def rsOf (all : List Oper) (o : Oper) (st : St) (v : AV) : List Nat := reachN (look · st.obj) 50 (bigOnly (isMove o.op) (v.refs ++ slotRefs st (slotsOf all o))) []
def evTake (all : List Oper) (o : Oper) (st : St) (v : AV) (next : List Nat → Prop) : Prop :=
  match rsOf all o st v with
  | rs => match closedIn st.obj rs rs with
    | false => False
    | true => match inside (bigOnly (isMove o.op) v.refs) rs with
      | false => False
      | true => match inside (bigOnly (isMove o.op) (slotRefs st (slotsOf all o))) rs with
        | false => False
        | true => next rs
def gateK (all : List Oper) (o : Oper) (st : St) (F T : Prop) : Prop :=
  match o.guard with
  | none => T
  | some (j, want) => match all[j]? with
    | some oj => match oj.dst with
      | some t => match look t st.env with
        | some (.d (.b x)) => (match want with
          | true => (match x with | true => T | false => F)
          | false => (match x with | true => F | false => T))
        | some (.tup []) => F
        | _ => False
      | none => False
    | none => False
theorem gateK_eq {all : List Oper} {o : Oper} {st : St} {F T : Prop} : gateK all o st F T = match gate all o st with | none => False | some false => F | some true => T := by
  unfold gateK gate
  cases o.guard with
  | none => rfl
  | some p =>
    obtain ⟨j, want⟩ := p
    simp only
    cases all[j]? with
    | none => rfl
    | some oj =>
      simp only
      cases oj.dst with
      | none => rfl
      | some t =>
        simp only
        cases look t st.env with
        | none => rfl
        | some v => cases v with
          | d x => cases x with
            | b y => cases want <;> cases y <;> rfl
            | _ => rfl
          | tup l => cases l <;> rfl
          | _ => rfl
def evOneK (P : Program) (cx : Cx) (prot : List Nat) (all : List Oper) (o : Oper) (K : St → Prop) (st : St) : Prop :=
  gateK all o st (K (st.put o.dst (.tup []))) (evCmdP P cx prot o.dst (opCmd cx.T o st) st K)
theorem evOneK_eq {cx : Cx} {prot : List Nat} {all : List Oper} {o : Oper} {K : St → Prop} {st : St} : evOneK P cx prot all o K st = evOneP P cx prot all o K st := by
  unfold evOneK evOneP
  rw [gateK_eq]
  cases gate all o st with
  | none => rfl
  | some b => cases b <;> rfl
def evS (P : Program) (cx : Cx) (all : List Oper) (K : St → Prop) : Nat → List (Nat × List Nat) → List Nat → St → Prop
  | 0, _, done, st => match readyL done 0 all with | [] => K st | _ :: _ => False
  | n + 1, prot, done, st => match readyL done 0 all with
    | [] => K st
    | i0 :: is => match pickVal cx all done (i0 :: is) with
      | some (i, d, o) => gateK all o st
        (evTake all o st (.tup []) fun rs => evS P cx all K n ((i, rs) :: prot) (i :: done) (st.put (some d) (.tup [])))
        (evV (litAt cx o.dst) (opCmd cx.T o st) fun v => evTake all o st v fun rs => evS P cx all K n ((i, rs) :: prot) (i :: done) (st.put (some d) v))
      | none => evAll (fun i => match all[i]? with | some o => evOneK P cx (protFor all o prot) all o (evS P cx all K n prot (i :: done)) st | none => False) (i0 :: is)
section
variable {cx : Cx} {all : List Oper} {K K' : St → Prop}
theorem freeFrom_ok {done : List Nat} {i d : Nat} {o : Oper} : ∀ {l : List Oper} {b : Nat}, freeFrom all done i d o b l = true → ∀ (m : Nat) (oj : Oper), l[m]? = some oj → b + m ≠ i → has (b + m) done = false → edgeFrom i oj.after.toList = false →
    d ∉ slotsOf all oj ∧ ∀ e, oj.dst = some e → d ≠ e ∧ e ∉ slotsOf all o
  | [], b, _, m, oj, h, _, _, _ => by simp at h
  | x :: l, b, hf, m, oj, h, hne, hd, he => by
    have rest : freeFrom all done i d o (b + 1) l = true → ∀ m', m = m' + 1 → d ∉ slotsOf all oj ∧ ∀ e, oj.dst = some e → d ≠ e ∧ e ∉ slotsOf all o := by
      intro hr m' hm
      subst hm
      exact freeFrom_ok hr m' oj (by simpa using h) (by omega) (by rw [show b + 1 + m' = b + (m' + 1) by omega]; exact hd) he
    have hrest : freeFrom all done i d o (b + 1) l = true := by
      simp only [freeFrom] at hf
      split at hf
      · exact hf
      · split at hf
        · exact hf
        · split at hf
          · exact hf
          · split at hf
            · cases hf
            · split at hf
              · exact hf
              · split at hf
                · cases hf
                · split at hf
                  · cases hf
                  · exact hf
    cases m with
    | succ m => exact rest hrest m rfl
    | zero =>
      simp at h
      subst h
      simp only [freeFrom] at hf
      have hb : Nat.beq b i = false := Bool.eq_false_iff.2 fun hh => hne (by have := Nat.eq_of_beq_eq_true hh; omega)
      rw [hb] at hf
      simp only [Nat.add_zero] at hd
      rw [hd, he] at hf
      simp only at hf
      cases h1 : has d (slotsOf all x) with
      | true => rw [h1] at hf; cases hf
      | false =>
        rw [h1] at hf
        refine ⟨fun hm => (by rw [(has_iff _ _).2 hm] at h1; cases h1), fun e hx => ?_⟩
        rw [hx] at hf
        simp only at hf
        cases h2 : Nat.beq d e with
        | true => rw [h2] at hf; cases hf
        | false =>
          rw [h2] at hf
          simp only at hf
          cases h3 : has e (slotsOf all o) with
          | true => rw [h3] at hf; cases hf
          | false => exact ⟨fun hh => (by subst hh; simp at h2), fun hm => (by rw [(has_iff _ _).2 hm] at h3; cases h3)⟩
theorem pickVal_ok {done : List Nat} {i d : Nat} {o : Oper} : ∀ {l : List Nat}, pickVal cx all done l = some (i, d, o) → i ∈ l ∧ all[i]? = some o ∧ mayTake cx o = true ∧ o.dst = some d ∧ freeFrom all done i d o 0 all = true
  | [], h => by cases h
  | j :: l, h => by
    have rest : pickVal cx all done l = some (i, d, o) → i ∈ j :: l ∧ all[i]? = some o ∧ mayTake cx o = true ∧ o.dst = some d ∧ freeFrom all done i d o 0 all = true :=
      fun hr => let ⟨h1, h2⟩ := pickVal_ok hr; ⟨List.mem_cons_of_mem _ h1, h2⟩
    simp only [pickVal] at h
    split at h
    · exact rest h
    · rename_i oj hoj
      split at h
      · exact rest h
      · rename_i hv
        split at h
        · exact rest h
        · rename_i e he
          split at h
          · exact rest h
          · split at h
            · rename_i hf
              cases h
              exact ⟨List.mem_cons_self .., hoj, hv, he, hf⟩
            · exact rest h
theorem slotRefs_mem {st : St} : ∀ {l : List Nat} {k : Nat} {u : AV}, k ∈ l → look k st.env = some u → ∀ j, j ∈ u.refs → j ∈ slotRefs st l
  | [], k, u, h, _, _, _ => by cases h
  | x :: l, k, u, h, hu, j, hj => by
    simp only [slotRefs]
    rcases List.mem_cons.1 h with rfl | h
    · rw [hu]; exact List.mem_append_left _ hj
    · cases hx : look x st.env with
      | none => exact slotRefs_mem h hu j hj
      | some v => exact List.mem_append_right _ (slotRefs_mem h hu j hj)
theorem closed_up {done : List Nat} {i : Nat} (h : closedD all done) (hi : i ∈ readyL done 0 all) : closedD all (i :: done) := by
  obtain ⟨m, o, hm, ho, _, he⟩ := mem_readyL.1 hi
  have : m = i := by omega
  subst this
  exact closedD_cons h ho he
theorem evS_any (hKe : ∀ s t, Ext none s t → K t → K s) : ∀ {n : Nat} {prot : List (Nat × List Nat)} {done : List Nat} {st : St}, closedD all done → evS P cx all K n prot done st → evAnyP P cx all K n prot done st
  | 0, prot, done, st, hcd, h => by simp only [evS] at h; simp only [evAnyP]; exact h
  | n + 1, prot, done, st, hcd, h => by
    have h0 := h
    rw [evS] at h
    split at h
    · rename_i hnil; rw [evAnyP, hnil]; exact h
    · rename_i i0 is hcons
      split at h
      · rename_i i d o hp
        obtain ⟨h1, h2, h3, h4, h5⟩ := pickVal_ok hp
        rw [← hcons] at h1
        have go : ∀ v, Gives cx all o st v → (evTake all o st v fun rs => evS P cx all K n ((i, rs) :: prot) (i :: done) (st.put (some d) v)) → evAnyP P cx all K (n + 1) prot done st := by
          intro v hg ht
          unfold evTake at ht
          simp only at ht
          split at ht
          · exact ht.elim
          rename_i hcl
          split at ht
          · exact ht.elim
          rename_i hin
          split at ht
          · exact ht.elim
          rename_i hsl
          refine take_first hKe h2 h4 h3 (fun k hk => (bigOnly_mem hk).imp (inside_ok hin k) (·.2)) n st (st.put (some d) v) done prot hcd ⟨fun k => by rw [St.put_look]; rfl, fun _ => rfl⟩ hg
            (fun k hk u hu j hj => (bigOnly_mem (slotRefs_mem hk hu j hj)).imp (inside_ok hsl j) id) (fun k hk => closedIn_ok hcl k hk) h1 ?_ (evS_any hKe (closed_up hcd h1) ht)
          intro j oj hj hne hd he
          have := freeFrom_ok h5 j oj hj (by omega) (by rw [Nat.zero_add]; exact hd) he
          exact this
        rw [gateK_eq] at h
        split at h
        · exact h.elim
        · rename_i hg; exact go _ (.inr ⟨hg, rfl⟩) h
        · rename_i hg
          obtain ⟨v, hv, ht⟩ := evV_gives h
          exact go v (.inl ⟨hg, hv⟩) ht
      · rw [evAnyP, hcons]
        refine evAll_intro fun i hi => ?_
        have := evAll_ok h i hi
        split at this
        · rename_i o ho
          try rw [ho]
          rw [evOneK_eq] at this; exact evOneP_mono (fun s hs => evS_any hKe (closed_up hcd (hcons ▸ hi)) hs) this
        · exact this.elim
theorem evAnyP_to : ∀ {n : Nat} {prot : List (Nat × List Nat)} {done : List Nat} {st : St}, evAnyP P cx all K n prot done st → evAny P cx all K n done st
  | 0, prot, done, st, h => by simp only [evAnyP] at h; simp only [evAny]; exact h
  | n + 1, prot, done, st, h => by
    rw [evAnyP] at h
    rw [evAny]
    split at h
    · rename_i hnil; first | exact h | (rw [hnil]; exact h)
    · rename_i i0 is hcons
      try rw [hcons]
      refine evAll_intro fun i hi => ?_
      have := evAll_ok h i hi
      split at this
      · rename_i o ho; try rw [ho]
        exact evOneP_to (evOneP_mono (fun s hs => evAnyP_to hs) this)
      · exact this.elim
theorem evV_mono {lit : Bool} {K K' : AV → Prop} (hK : ∀ v, K v → K' v) : ∀ {c : Cmd}, evV lit c K → evV lit c K' := by
  intro c
  induction c with
  | val u => exact fun h => hK _ h
  | need p c ih => exact fun ⟨hp, h⟩ => ⟨hp, ih h⟩
  | get xs i f ih => exact fun ⟨x, hx, h⟩ => ⟨x, hx, ih x h⟩
  | str xs => exact fun ⟨l, hl, h⟩ => ⟨l, hl, hK _ h⟩
  | newArr sz deep xs ks =>
    intro h
    simp only [evV] at h ⊢
    cases lit with
    | false => exact h
    | true => cases deep with
      | true => exact h
      | false => cases ks with
        | nil => exact hK _ h
        | cons _ _ => exact h
  | _ => exact fun h => h.elim
theorem evTake_mono {o : Oper} {st : St} {v : AV} {A B : List Nat → Prop} (h : ∀ rs, A rs → B rs) (ha : evTake all o st v A) : evTake all o st v B := by
  unfold evTake at ha ⊢
  simp only at ha ⊢
  split at ha
  · exact ha.elim
  split at ha
  · exact ha.elim
  split at ha
  · exact ha.elim
  exact h _ ha
theorem evS_mono (hK : ∀ s, K s → K' s) : ∀ {n : Nat} {prot : List (Nat × List Nat)} {done : List Nat} {st : St}, evS P cx all K n prot done st → evS P cx all K' n prot done st
  | 0, prot, done, st, h => by
    simp only [evS] at h ⊢
    split at h
    · exact hK _ h
    · exact h.elim
  | n + 1, prot, done, st, h => by
    rw [evS] at h ⊢
    split at h
    · exact hK _ h
    · split at h
      · rw [gateK_eq] at h ⊢
        split at h
        · exact h.elim
        · exact evTake_mono (fun rs hr => evS_mono hK hr) h
        · exact evV_mono (fun v hv => evTake_mono (fun rs hr => evS_mono hK hr) hv) h
      · refine evAll_intro fun i hi => ?_
        have := evAll_ok h i hi
        split at this
        · rw [evOneK_eq] at this ⊢; exact evOneP_mono (fun s hs => evS_mono hK hs) this
        · exact this.elim
theorem rel_eqv {X0 : Nat → Prop} {J : Nat → Option Place} {s t : St} {a : Act} {w : World} (r : Rel X0 J s a w) (hx : Ext none s t) : Rel X0 J t a w := by
  have ho : (look · t.obj) = (look · s.obj) := funext hx.obj
  exact ⟨fun k v hk => r.env k v (by rw [← hk]; exact (hx.env k).symm), by rw [ho]; exact r.mem, r.defers⟩
theorem draw_soundS {X0 : Nat → Prop} {J : Nat → Option Place} {st : St} {a : Act} {w : World} {Q : Exit → Act → World → Prop} (tok : TOk P cx.T) (hm : P.follows .mixedOrders = true) (r : Rel X0 J st a w) {ops : Array Oper}
    (hdst : ∀ o ∈ ops.toList, ∀ d, o.dst = some d → d < a.tmps.size) {id : Nat} (hn : Leads P X0 J a w K (Q .normal)) (hc : evS P cx ops.toList K ops.size [] [] st) : (Code.region id ops true).wp P Q a w := by
  refine draw_sound (K := fun s => ∃ t, Ext none s t ∧ K t) tok hm r hdst ?_ (evAnyP_to (evS_any ?_ (fun p op hp => by cases hp) (evS_mono (fun s hs => ⟨s, Ext.refl s, hs⟩) hc)))
  · rintro st' J' a' w' ⟨t, hx, hK⟩ hr h1 h2
    exact hn t J' a' w' hK (rel_eqv hr hx) h1 h2
  · rintro s t hx ⟨u, hu, hK⟩
    refine ⟨u, ⟨fun k => ?_, fun k => (hu.obj k).trans (hx.obj k)⟩, hK⟩
    have := hu.env k
    have h2 := hx.env k
    simp only [over] at this h2 ⊢
    exact this.trans h2
end
def evAll2 (f : Nat → Prop) : List Nat → Prop
  | [] => True
  | [i] => f i
  | [i, j] => Both (f i) (f j)
  | [i, j, k] => Both (f i) (Both (f j) (f k))
  | i :: j :: k :: l :: r => evAll f (i :: j :: k :: l :: r)
theorem evAll2_eq (f : Nat → Prop) (l : List Nat) : evAll2 f l = evAll f l := by
  match l with
  | [] => rfl
  | [_] => rfl
  | [_, _] => rfl
  | [_, _, _] => rfl
  | _ :: _ :: _ :: _ :: _ => rfl
def esStep (P : Program) (cx : Cx) (all : List Oper) (K : St → Prop) (rc : List (Nat × List Nat) → List Nat → St → Prop) (prot : List (Nat × List Nat)) (done : List Nat) (st : St) : Prop :=
  match readyL done 0 all with
    | [] => K st
    | i0 :: is => match pickVal cx all done (i0 :: is) with
      | some (i, d, o) => gateK all o st
        (evTake all o st (.tup []) fun rs => rc ((i, rs) :: prot) (i :: done) (st.put (some d) (.tup [])))
        (evV (litAt cx o.dst) (opCmd cx.T o st) fun v => evTake all o st v fun rs => rc ((i, rs) :: prot) (i :: done) (st.put (some d) v))
      | none => evAll2 (fun i => match all[i]? with | some o => evOneK P cx (protFor all o prot) all o (rc prot (i :: done)) st | none => False) (i0 :: is)
theorem esStep_eq {P : Program} {cx : Cx} {all : List Oper} {K : St → Prop} {n : Nat} : esStep P cx all K (evS P cx all K n) = evS P cx all K (n + 1) := by
  funext prot done st
  unfold esStep
  simp only [evAll2_eq]
  rfl
def es0 (P : Program) (cx : Cx) (all : List Oper) (K : St → Prop) : List (Nat × List Nat) → List Nat → St → Prop := evS P cx all K 0
theorem es0_eq {P : Program} {cx : Cx} {all : List Oper} {K : St → Prop} : es0 P cx all K = evS P cx all K 0 := rfl
def es1 (P : Program) (cx : Cx) (all : List Oper) (K : St → Prop) : List (Nat × List Nat) → List Nat → St → Prop := esStep P cx all K (es0 P cx all K)
theorem es1_eq {P : Program} {cx : Cx} {all : List Oper} {K : St → Prop} : es1 P cx all K = evS P cx all K 1 := by rw [es1, es0_eq, esStep_eq]
def es2 (P : Program) (cx : Cx) (all : List Oper) (K : St → Prop) : List (Nat × List Nat) → List Nat → St → Prop := esStep P cx all K (es1 P cx all K)
theorem es2_eq {P : Program} {cx : Cx} {all : List Oper} {K : St → Prop} : es2 P cx all K = evS P cx all K 2 := by rw [es2, es1_eq, esStep_eq]
def es3 (P : Program) (cx : Cx) (all : List Oper) (K : St → Prop) : List (Nat × List Nat) → List Nat → St → Prop := esStep P cx all K (es2 P cx all K)
theorem es3_eq {P : Program} {cx : Cx} {all : List Oper} {K : St → Prop} : es3 P cx all K = evS P cx all K 3 := by rw [es3, es2_eq, esStep_eq]
def es4 (P : Program) (cx : Cx) (all : List Oper) (K : St → Prop) : List (Nat × List Nat) → List Nat → St → Prop := esStep P cx all K (es3 P cx all K)
theorem es4_eq {P : Program} {cx : Cx} {all : List Oper} {K : St → Prop} : es4 P cx all K = evS P cx all K 4 := by rw [es4, es3_eq, esStep_eq]
def es5 (P : Program) (cx : Cx) (all : List Oper) (K : St → Prop) : List (Nat × List Nat) → List Nat → St → Prop := esStep P cx all K (es4 P cx all K)
theorem es5_eq {P : Program} {cx : Cx} {all : List Oper} {K : St → Prop} : es5 P cx all K = evS P cx all K 5 := by rw [es5, es4_eq, esStep_eq]
def es6 (P : Program) (cx : Cx) (all : List Oper) (K : St → Prop) : List (Nat × List Nat) → List Nat → St → Prop := esStep P cx all K (es5 P cx all K)
theorem es6_eq {P : Program} {cx : Cx} {all : List Oper} {K : St → Prop} : es6 P cx all K = evS P cx all K 6 := by rw [es6, es5_eq, esStep_eq]
def es7 (P : Program) (cx : Cx) (all : List Oper) (K : St → Prop) : List (Nat × List Nat) → List Nat → St → Prop := esStep P cx all K (es6 P cx all K)
theorem es7_eq {P : Program} {cx : Cx} {all : List Oper} {K : St → Prop} : es7 P cx all K = evS P cx all K 7 := by rw [es7, es6_eq, esStep_eq]
def es8 (P : Program) (cx : Cx) (all : List Oper) (K : St → Prop) : List (Nat × List Nat) → List Nat → St → Prop := esStep P cx all K (es7 P cx all K)
theorem es8_eq {P : Program} {cx : Cx} {all : List Oper} {K : St → Prop} : es8 P cx all K = evS P cx all K 8 := by rw [es8, es7_eq, esStep_eq]
def es9 (P : Program) (cx : Cx) (all : List Oper) (K : St → Prop) : List (Nat × List Nat) → List Nat → St → Prop := esStep P cx all K (es8 P cx all K)
theorem es9_eq {P : Program} {cx : Cx} {all : List Oper} {K : St → Prop} : es9 P cx all K = evS P cx all K 9 := by rw [es9, es8_eq, esStep_eq]
def es10 (P : Program) (cx : Cx) (all : List Oper) (K : St → Prop) : List (Nat × List Nat) → List Nat → St → Prop := esStep P cx all K (es9 P cx all K)
theorem es10_eq {P : Program} {cx : Cx} {all : List Oper} {K : St → Prop} : es10 P cx all K = evS P cx all K 10 := by rw [es10, es9_eq, esStep_eq]
def es11 (P : Program) (cx : Cx) (all : List Oper) (K : St → Prop) : List (Nat × List Nat) → List Nat → St → Prop := esStep P cx all K (es10 P cx all K)
theorem es11_eq {P : Program} {cx : Cx} {all : List Oper} {K : St → Prop} : es11 P cx all K = evS P cx all K 11 := by rw [es11, es10_eq, esStep_eq]
def es12 (P : Program) (cx : Cx) (all : List Oper) (K : St → Prop) : List (Nat × List Nat) → List Nat → St → Prop := esStep P cx all K (es11 P cx all K)
theorem es12_eq {P : Program} {cx : Cx} {all : List Oper} {K : St → Prop} : es12 P cx all K = evS P cx all K 12 := by rw [es12, es11_eq, esStep_eq]
def es13 (P : Program) (cx : Cx) (all : List Oper) (K : St → Prop) : List (Nat × List Nat) → List Nat → St → Prop := esStep P cx all K (es12 P cx all K)
theorem es13_eq {P : Program} {cx : Cx} {all : List Oper} {K : St → Prop} : es13 P cx all K = evS P cx all K 13 := by rw [es13, es12_eq, esStep_eq]
def es14 (P : Program) (cx : Cx) (all : List Oper) (K : St → Prop) : List (Nat × List Nat) → List Nat → St → Prop := esStep P cx all K (es13 P cx all K)
theorem es14_eq {P : Program} {cx : Cx} {all : List Oper} {K : St → Prop} : es14 P cx all K = evS P cx all K 14 := by rw [es14, es13_eq, esStep_eq]
def es15 (P : Program) (cx : Cx) (all : List Oper) (K : St → Prop) : List (Nat × List Nat) → List Nat → St → Prop := esStep P cx all K (es14 P cx all K)
theorem es15_eq {P : Program} {cx : Cx} {all : List Oper} {K : St → Prop} : es15 P cx all K = evS P cx all K 15 := by rw [es15, es14_eq, esStep_eq]
def es16 (P : Program) (cx : Cx) (all : List Oper) (K : St → Prop) : List (Nat × List Nat) → List Nat → St → Prop := esStep P cx all K (es15 P cx all K)
theorem es16_eq {P : Program} {cx : Cx} {all : List Oper} {K : St → Prop} : es16 P cx all K = evS P cx all K 16 := by rw [es16, es15_eq, esStep_eq]
def es17 (P : Program) (cx : Cx) (all : List Oper) (K : St → Prop) : List (Nat × List Nat) → List Nat → St → Prop := esStep P cx all K (es16 P cx all K)
theorem es17_eq {P : Program} {cx : Cx} {all : List Oper} {K : St → Prop} : es17 P cx all K = evS P cx all K 17 := by rw [es17, es16_eq, esStep_eq]
def es18 (P : Program) (cx : Cx) (all : List Oper) (K : St → Prop) : List (Nat × List Nat) → List Nat → St → Prop := esStep P cx all K (es17 P cx all K)
theorem es18_eq {P : Program} {cx : Cx} {all : List Oper} {K : St → Prop} : es18 P cx all K = evS P cx all K 18 := by rw [es18, es17_eq, esStep_eq]
def es19 (P : Program) (cx : Cx) (all : List Oper) (K : St → Prop) : List (Nat × List Nat) → List Nat → St → Prop := esStep P cx all K (es18 P cx all K)
theorem es19_eq {P : Program} {cx : Cx} {all : List Oper} {K : St → Prop} : es19 P cx all K = evS P cx all K 19 := by rw [es19, es18_eq, esStep_eq]
def es20 (P : Program) (cx : Cx) (all : List Oper) (K : St → Prop) : List (Nat × List Nat) → List Nat → St → Prop := esStep P cx all K (es19 P cx all K)
theorem es20_eq {P : Program} {cx : Cx} {all : List Oper} {K : St → Prop} : es20 P cx all K = evS P cx all K 20 := by rw [es20, es19_eq, esStep_eq]
def es21 (P : Program) (cx : Cx) (all : List Oper) (K : St → Prop) : List (Nat × List Nat) → List Nat → St → Prop := esStep P cx all K (es20 P cx all K)
theorem es21_eq {P : Program} {cx : Cx} {all : List Oper} {K : St → Prop} : es21 P cx all K = evS P cx all K 21 := by rw [es21, es20_eq, esStep_eq]
def es22 (P : Program) (cx : Cx) (all : List Oper) (K : St → Prop) : List (Nat × List Nat) → List Nat → St → Prop := esStep P cx all K (es21 P cx all K)
theorem es22_eq {P : Program} {cx : Cx} {all : List Oper} {K : St → Prop} : es22 P cx all K = evS P cx all K 22 := by rw [es22, es21_eq, esStep_eq]
def es23 (P : Program) (cx : Cx) (all : List Oper) (K : St → Prop) : List (Nat × List Nat) → List Nat → St → Prop := esStep P cx all K (es22 P cx all K)
theorem es23_eq {P : Program} {cx : Cx} {all : List Oper} {K : St → Prop} : es23 P cx all K = evS P cx all K 23 := by rw [es23, es22_eq, esStep_eq]
def es24 (P : Program) (cx : Cx) (all : List Oper) (K : St → Prop) : List (Nat × List Nat) → List Nat → St → Prop := esStep P cx all K (es23 P cx all K)
theorem es24_eq {P : Program} {cx : Cx} {all : List Oper} {K : St → Prop} : es24 P cx all K = evS P cx all K 24 := by rw [es24, es23_eq, esStep_eq]
def es25 (P : Program) (cx : Cx) (all : List Oper) (K : St → Prop) : List (Nat × List Nat) → List Nat → St → Prop := esStep P cx all K (es24 P cx all K)
theorem es25_eq {P : Program} {cx : Cx} {all : List Oper} {K : St → Prop} : es25 P cx all K = evS P cx all K 25 := by rw [es25, es24_eq, esStep_eq]
def es26 (P : Program) (cx : Cx) (all : List Oper) (K : St → Prop) : List (Nat × List Nat) → List Nat → St → Prop := esStep P cx all K (es25 P cx all K)
theorem es26_eq {P : Program} {cx : Cx} {all : List Oper} {K : St → Prop} : es26 P cx all K = evS P cx all K 26 := by rw [es26, es25_eq, esStep_eq]
def es27 (P : Program) (cx : Cx) (all : List Oper) (K : St → Prop) : List (Nat × List Nat) → List Nat → St → Prop := esStep P cx all K (es26 P cx all K)
theorem es27_eq {P : Program} {cx : Cx} {all : List Oper} {K : St → Prop} : es27 P cx all K = evS P cx all K 27 := by rw [es27, es26_eq, esStep_eq]
def es28 (P : Program) (cx : Cx) (all : List Oper) (K : St → Prop) : List (Nat × List Nat) → List Nat → St → Prop := esStep P cx all K (es27 P cx all K)
theorem es28_eq {P : Program} {cx : Cx} {all : List Oper} {K : St → Prop} : es28 P cx all K = evS P cx all K 28 := by rw [es28, es27_eq, esStep_eq]
def es29 (P : Program) (cx : Cx) (all : List Oper) (K : St → Prop) : List (Nat × List Nat) → List Nat → St → Prop := esStep P cx all K (es28 P cx all K)
theorem es29_eq {P : Program} {cx : Cx} {all : List Oper} {K : St → Prop} : es29 P cx all K = evS P cx all K 29 := by rw [es29, es28_eq, esStep_eq]
def es30 (P : Program) (cx : Cx) (all : List Oper) (K : St → Prop) : List (Nat × List Nat) → List Nat → St → Prop := esStep P cx all K (es29 P cx all K)
theorem es30_eq {P : Program} {cx : Cx} {all : List Oper} {K : St → Prop} : es30 P cx all K = evS P cx all K 30 := by rw [es30, es29_eq, esStep_eq]
def es31 (P : Program) (cx : Cx) (all : List Oper) (K : St → Prop) : List (Nat × List Nat) → List Nat → St → Prop := esStep P cx all K (es30 P cx all K)
theorem es31_eq {P : Program} {cx : Cx} {all : List Oper} {K : St → Prop} : es31 P cx all K = evS P cx all K 31 := by rw [es31, es30_eq, esStep_eq]
def es32 (P : Program) (cx : Cx) (all : List Oper) (K : St → Prop) : List (Nat × List Nat) → List Nat → St → Prop := esStep P cx all K (es31 P cx all K)
theorem es32_eq {P : Program} {cx : Cx} {all : List Oper} {K : St → Prop} : es32 P cx all K = evS P cx all K 32 := by rw [es32, es31_eq, esStep_eq]
def es33 (P : Program) (cx : Cx) (all : List Oper) (K : St → Prop) : List (Nat × List Nat) → List Nat → St → Prop := esStep P cx all K (es32 P cx all K)
theorem es33_eq {P : Program} {cx : Cx} {all : List Oper} {K : St → Prop} : es33 P cx all K = evS P cx all K 33 := by rw [es33, es32_eq, esStep_eq]
def es34 (P : Program) (cx : Cx) (all : List Oper) (K : St → Prop) : List (Nat × List Nat) → List Nat → St → Prop := esStep P cx all K (es33 P cx all K)
theorem es34_eq {P : Program} {cx : Cx} {all : List Oper} {K : St → Prop} : es34 P cx all K = evS P cx all K 34 := by rw [es34, es33_eq, esStep_eq]
def es35 (P : Program) (cx : Cx) (all : List Oper) (K : St → Prop) : List (Nat × List Nat) → List Nat → St → Prop := esStep P cx all K (es34 P cx all K)
theorem es35_eq {P : Program} {cx : Cx} {all : List Oper} {K : St → Prop} : es35 P cx all K = evS P cx all K 35 := by rw [es35, es34_eq, esStep_eq]
def es36 (P : Program) (cx : Cx) (all : List Oper) (K : St → Prop) : List (Nat × List Nat) → List Nat → St → Prop := esStep P cx all K (es35 P cx all K)
theorem es36_eq {P : Program} {cx : Cx} {all : List Oper} {K : St → Prop} : es36 P cx all K = evS P cx all K 36 := by rw [es36, es35_eq, esStep_eq]
def es37 (P : Program) (cx : Cx) (all : List Oper) (K : St → Prop) : List (Nat × List Nat) → List Nat → St → Prop := esStep P cx all K (es36 P cx all K)
theorem es37_eq {P : Program} {cx : Cx} {all : List Oper} {K : St → Prop} : es37 P cx all K = evS P cx all K 37 := by rw [es37, es36_eq, esStep_eq]
def es38 (P : Program) (cx : Cx) (all : List Oper) (K : St → Prop) : List (Nat × List Nat) → List Nat → St → Prop := esStep P cx all K (es37 P cx all K)
theorem es38_eq {P : Program} {cx : Cx} {all : List Oper} {K : St → Prop} : es38 P cx all K = evS P cx all K 38 := by rw [es38, es37_eq, esStep_eq]
def es39 (P : Program) (cx : Cx) (all : List Oper) (K : St → Prop) : List (Nat × List Nat) → List Nat → St → Prop := esStep P cx all K (es38 P cx all K)
theorem es39_eq {P : Program} {cx : Cx} {all : List Oper} {K : St → Prop} : es39 P cx all K = evS P cx all K 39 := by rw [es39, es38_eq, esStep_eq]
def es40 (P : Program) (cx : Cx) (all : List Oper) (K : St → Prop) : List (Nat × List Nat) → List Nat → St → Prop := esStep P cx all K (es39 P cx all K)
theorem es40_eq {P : Program} {cx : Cx} {all : List Oper} {K : St → Prop} : es40 P cx all K = evS P cx all K 40 := by rw [es40, es39_eq, esStep_eq]
def es41 (P : Program) (cx : Cx) (all : List Oper) (K : St → Prop) : List (Nat × List Nat) → List Nat → St → Prop := esStep P cx all K (es40 P cx all K)
theorem es41_eq {P : Program} {cx : Cx} {all : List Oper} {K : St → Prop} : es41 P cx all K = evS P cx all K 41 := by rw [es41, es40_eq, esStep_eq]
def es42 (P : Program) (cx : Cx) (all : List Oper) (K : St → Prop) : List (Nat × List Nat) → List Nat → St → Prop := esStep P cx all K (es41 P cx all K)
theorem es42_eq {P : Program} {cx : Cx} {all : List Oper} {K : St → Prop} : es42 P cx all K = evS P cx all K 42 := by rw [es42, es41_eq, esStep_eq]
def es43 (P : Program) (cx : Cx) (all : List Oper) (K : St → Prop) : List (Nat × List Nat) → List Nat → St → Prop := esStep P cx all K (es42 P cx all K)
theorem es43_eq {P : Program} {cx : Cx} {all : List Oper} {K : St → Prop} : es43 P cx all K = evS P cx all K 43 := by rw [es43, es42_eq, esStep_eq]
def es44 (P : Program) (cx : Cx) (all : List Oper) (K : St → Prop) : List (Nat × List Nat) → List Nat → St → Prop := esStep P cx all K (es43 P cx all K)
theorem es44_eq {P : Program} {cx : Cx} {all : List Oper} {K : St → Prop} : es44 P cx all K = evS P cx all K 44 := by rw [es44, es43_eq, esStep_eq]
def es45 (P : Program) (cx : Cx) (all : List Oper) (K : St → Prop) : List (Nat × List Nat) → List Nat → St → Prop := esStep P cx all K (es44 P cx all K)
theorem es45_eq {P : Program} {cx : Cx} {all : List Oper} {K : St → Prop} : es45 P cx all K = evS P cx all K 45 := by rw [es45, es44_eq, esStep_eq]
def es46 (P : Program) (cx : Cx) (all : List Oper) (K : St → Prop) : List (Nat × List Nat) → List Nat → St → Prop := esStep P cx all K (es45 P cx all K)
theorem es46_eq {P : Program} {cx : Cx} {all : List Oper} {K : St → Prop} : es46 P cx all K = evS P cx all K 46 := by rw [es46, es45_eq, esStep_eq]
def es47 (P : Program) (cx : Cx) (all : List Oper) (K : St → Prop) : List (Nat × List Nat) → List Nat → St → Prop := esStep P cx all K (es46 P cx all K)
theorem es47_eq {P : Program} {cx : Cx} {all : List Oper} {K : St → Prop} : es47 P cx all K = evS P cx all K 47 := by rw [es47, es46_eq, esStep_eq]
def es48 (P : Program) (cx : Cx) (all : List Oper) (K : St → Prop) : List (Nat × List Nat) → List Nat → St → Prop := esStep P cx all K (es47 P cx all K)
theorem es48_eq {P : Program} {cx : Cx} {all : List Oper} {K : St → Prop} : es48 P cx all K = evS P cx all K 48 := by rw [es48, es47_eq, esStep_eq]
def es49 (P : Program) (cx : Cx) (all : List Oper) (K : St → Prop) : List (Nat × List Nat) → List Nat → St → Prop := esStep P cx all K (es48 P cx all K)
theorem es49_eq {P : Program} {cx : Cx} {all : List Oper} {K : St → Prop} : es49 P cx all K = evS P cx all K 49 := by rw [es49, es48_eq, esStep_eq]
def es50 (P : Program) (cx : Cx) (all : List Oper) (K : St → Prop) : List (Nat × List Nat) → List Nat → St → Prop := esStep P cx all K (es49 P cx all K)
theorem es50_eq {P : Program} {cx : Cx} {all : List Oper} {K : St → Prop} : es50 P cx all K = evS P cx all K 50 := by rw [es50, es49_eq, esStep_eq]
def es51 (P : Program) (cx : Cx) (all : List Oper) (K : St → Prop) : List (Nat × List Nat) → List Nat → St → Prop := esStep P cx all K (es50 P cx all K)
theorem es51_eq {P : Program} {cx : Cx} {all : List Oper} {K : St → Prop} : es51 P cx all K = evS P cx all K 51 := by rw [es51, es50_eq, esStep_eq]
def es52 (P : Program) (cx : Cx) (all : List Oper) (K : St → Prop) : List (Nat × List Nat) → List Nat → St → Prop := esStep P cx all K (es51 P cx all K)
theorem es52_eq {P : Program} {cx : Cx} {all : List Oper} {K : St → Prop} : es52 P cx all K = evS P cx all K 52 := by rw [es52, es51_eq, esStep_eq]
def es53 (P : Program) (cx : Cx) (all : List Oper) (K : St → Prop) : List (Nat × List Nat) → List Nat → St → Prop := esStep P cx all K (es52 P cx all K)
theorem es53_eq {P : Program} {cx : Cx} {all : List Oper} {K : St → Prop} : es53 P cx all K = evS P cx all K 53 := by rw [es53, es52_eq, esStep_eq]
def es54 (P : Program) (cx : Cx) (all : List Oper) (K : St → Prop) : List (Nat × List Nat) → List Nat → St → Prop := esStep P cx all K (es53 P cx all K)
theorem es54_eq {P : Program} {cx : Cx} {all : List Oper} {K : St → Prop} : es54 P cx all K = evS P cx all K 54 := by rw [es54, es53_eq, esStep_eq]
def es55 (P : Program) (cx : Cx) (all : List Oper) (K : St → Prop) : List (Nat × List Nat) → List Nat → St → Prop := esStep P cx all K (es54 P cx all K)
theorem es55_eq {P : Program} {cx : Cx} {all : List Oper} {K : St → Prop} : es55 P cx all K = evS P cx all K 55 := by rw [es55, es54_eq, esStep_eq]
def es56 (P : Program) (cx : Cx) (all : List Oper) (K : St → Prop) : List (Nat × List Nat) → List Nat → St → Prop := esStep P cx all K (es55 P cx all K)
theorem es56_eq {P : Program} {cx : Cx} {all : List Oper} {K : St → Prop} : es56 P cx all K = evS P cx all K 56 := by rw [es56, es55_eq, esStep_eq]
def es57 (P : Program) (cx : Cx) (all : List Oper) (K : St → Prop) : List (Nat × List Nat) → List Nat → St → Prop := esStep P cx all K (es56 P cx all K)
theorem es57_eq {P : Program} {cx : Cx} {all : List Oper} {K : St → Prop} : es57 P cx all K = evS P cx all K 57 := by rw [es57, es56_eq, esStep_eq]
def es58 (P : Program) (cx : Cx) (all : List Oper) (K : St → Prop) : List (Nat × List Nat) → List Nat → St → Prop := esStep P cx all K (es57 P cx all K)
theorem es58_eq {P : Program} {cx : Cx} {all : List Oper} {K : St → Prop} : es58 P cx all K = evS P cx all K 58 := by rw [es58, es57_eq, esStep_eq]
def es59 (P : Program) (cx : Cx) (all : List Oper) (K : St → Prop) : List (Nat × List Nat) → List Nat → St → Prop := esStep P cx all K (es58 P cx all K)
theorem es59_eq {P : Program} {cx : Cx} {all : List Oper} {K : St → Prop} : es59 P cx all K = evS P cx all K 59 := by rw [es59, es58_eq, esStep_eq]
def es60 (P : Program) (cx : Cx) (all : List Oper) (K : St → Prop) : List (Nat × List Nat) → List Nat → St → Prop := esStep P cx all K (es59 P cx all K)
theorem es60_eq {P : Program} {cx : Cx} {all : List Oper} {K : St → Prop} : es60 P cx all K = evS P cx all K 60 := by rw [es60, es59_eq, esStep_eq]
def es61 (P : Program) (cx : Cx) (all : List Oper) (K : St → Prop) : List (Nat × List Nat) → List Nat → St → Prop := esStep P cx all K (es60 P cx all K)
theorem es61_eq {P : Program} {cx : Cx} {all : List Oper} {K : St → Prop} : es61 P cx all K = evS P cx all K 61 := by rw [es61, es60_eq, esStep_eq]
def es62 (P : Program) (cx : Cx) (all : List Oper) (K : St → Prop) : List (Nat × List Nat) → List Nat → St → Prop := esStep P cx all K (es61 P cx all K)
theorem es62_eq {P : Program} {cx : Cx} {all : List Oper} {K : St → Prop} : es62 P cx all K = evS P cx all K 62 := by rw [es62, es61_eq, esStep_eq]
def es63 (P : Program) (cx : Cx) (all : List Oper) (K : St → Prop) : List (Nat × List Nat) → List Nat → St → Prop := esStep P cx all K (es62 P cx all K)
theorem es63_eq {P : Program} {cx : Cx} {all : List Oper} {K : St → Prop} : es63 P cx all K = evS P cx all K 63 := by rw [es63, es62_eq, esStep_eq]
def es64 (P : Program) (cx : Cx) (all : List Oper) (K : St → Prop) : List (Nat × List Nat) → List Nat → St → Prop := esStep P cx all K (es63 P cx all K)
theorem es64_eq {P : Program} {cx : Cx} {all : List Oper} {K : St → Prop} : es64 P cx all K = evS P cx all K 64 := by rw [es64, es63_eq, esStep_eq]
def esAt (P : Program) (cx : Cx) (all : List Oper) (K : St → Prop) (n : Nat) : List (Nat × List Nat) → List Nat → St → Prop :=
  match n with
  | 0 => es0 P cx all K
  | 1 => es1 P cx all K
  | 2 => es2 P cx all K
  | 3 => es3 P cx all K
  | 4 => es4 P cx all K
  | 5 => es5 P cx all K
  | 6 => es6 P cx all K
  | 7 => es7 P cx all K
  | 8 => es8 P cx all K
  | 9 => es9 P cx all K
  | 10 => es10 P cx all K
  | 11 => es11 P cx all K
  | 12 => es12 P cx all K
  | 13 => es13 P cx all K
  | 14 => es14 P cx all K
  | 15 => es15 P cx all K
  | 16 => es16 P cx all K
  | 17 => es17 P cx all K
  | 18 => es18 P cx all K
  | 19 => es19 P cx all K
  | 20 => es20 P cx all K
  | 21 => es21 P cx all K
  | 22 => es22 P cx all K
  | 23 => es23 P cx all K
  | 24 => es24 P cx all K
  | 25 => es25 P cx all K
  | 26 => es26 P cx all K
  | 27 => es27 P cx all K
  | 28 => es28 P cx all K
  | 29 => es29 P cx all K
  | 30 => es30 P cx all K
  | 31 => es31 P cx all K
  | 32 => es32 P cx all K
  | 33 => es33 P cx all K
  | 34 => es34 P cx all K
  | 35 => es35 P cx all K
  | 36 => es36 P cx all K
  | 37 => es37 P cx all K
  | 38 => es38 P cx all K
  | 39 => es39 P cx all K
  | 40 => es40 P cx all K
  | 41 => es41 P cx all K
  | 42 => es42 P cx all K
  | 43 => es43 P cx all K
  | 44 => es44 P cx all K
  | 45 => es45 P cx all K
  | 46 => es46 P cx all K
  | 47 => es47 P cx all K
  | 48 => es48 P cx all K
  | 49 => es49 P cx all K
  | 50 => es50 P cx all K
  | 51 => es51 P cx all K
  | 52 => es52 P cx all K
  | 53 => es53 P cx all K
  | 54 => es54 P cx all K
  | 55 => es55 P cx all K
  | 56 => es56 P cx all K
  | 57 => es57 P cx all K
  | 58 => es58 P cx all K
  | 59 => es59 P cx all K
  | 60 => es60 P cx all K
  | 61 => es61 P cx all K
  | 62 => es62 P cx all K
  | 63 => es63 P cx all K
  | 64 => es64 P cx all K
  | n => evS P cx all K n
theorem esAt_eq {P : Program} {cx : Cx} {all : List Oper} {K : St → Prop} {n : Nat} : esAt P cx all K n = evS P cx all K n := by
  unfold esAt
  split
  · exact es0_eq
  · exact es1_eq
  · exact es2_eq
  · exact es3_eq
  · exact es4_eq
  · exact es5_eq
  · exact es6_eq
  · exact es7_eq
  · exact es8_eq
  · exact es9_eq
  · exact es10_eq
  · exact es11_eq
  · exact es12_eq
  · exact es13_eq
  · exact es14_eq
  · exact es15_eq
  · exact es16_eq
  · exact es17_eq
  · exact es18_eq
  · exact es19_eq
  · exact es20_eq
  · exact es21_eq
  · exact es22_eq
  · exact es23_eq
  · exact es24_eq
  · exact es25_eq
  · exact es26_eq
  · exact es27_eq
  · exact es28_eq
  · exact es29_eq
  · exact es30_eq
  · exact es31_eq
  · exact es32_eq
  · exact es33_eq
  · exact es34_eq
  · exact es35_eq
  · exact es36_eq
  · exact es37_eq
  · exact es38_eq
  · exact es39_eq
  · exact es40_eq
  · exact es41_eq
  · exact es42_eq
  · exact es43_eq
  · exact es44_eq
  · exact es45_eq
  · exact es46_eq
  · exact es47_eq
  · exact es48_eq
  · exact es49_eq
  · exact es50_eq
  · exact es51_eq
  · exact es52_eq
  · exact es53_eq
  · exact es54_eq
  · exact es55_eq
  · exact es56_eq
  · exact es57_eq
  · exact es58_eq
  · exact es59_eq
  · exact es60_eq
  · exact es61_eq
  · exact es62_eq
  · exact es63_eq
  · exact es64_eq
  · rfl
end Go.Pm
namespace Go.Pm
open Go
set_option linter.unusedVariables false
variable {P : Program}
def smallsIn : List (Nat × Ob) → List Nat → Bool
  | [], _ => true
  | (k, _) :: r, ks => match Nat.ble 10000 k with | true => smallsIn r ks | false => match has k ks with | true => smallsIn r ks | false => false
def dstOk (n : Nat) : List Oper → Bool
  | [] => true
  | o :: r => match o.dst with | some d => (match Nat.blt d n with | true => dstOk n r | false => false) | none => dstOk n r
def codeOk (n : Nat) : Code → Bool
  | .region _ ops _ => dstOk n ops.toList
  | .seq a b => match codeOk n a with | true => codeOk n b | false => false
  | .cond _ a b => match codeOk n a with | true => codeOk n b | false => false
  | .block _ b => codeOk n b
  | .loop b => codeOk n b
  | _ => true
def St.smalls (st : St) (ks : List Nat) : Prop := smallsIn st.obj ks = true
def KO.key : KO → Nat
  | .k n => n
  | .slot n _ _ _ => n
  | .part n _ _ _ _ => n
  | .cell n _ _ _ _ => n
  | .frz n => n
def keysOf : List KO → List Nat
  | [] => []
  | .frz _ :: r => keysOf r
  | x :: r => x.key :: keysOf r
def nameCell (key : Nat) : Nat → List AV → Option (List AV)
  | 0, .snil :: r => some (.own key :: r)
  | n + 1, v :: r => match nameCell key n r with | some l => some (v :: l) | none => none
  | _, _ => none
def St.name (st : St) (key sz : Nat) (deep : Bool) : St := st.set key (.arr sz deep [])
def isFree (st : St) (key sz : Nat) : Bool := match look key st.obj with | none => Nat.ble 10000 key && Nat.blt 0 sz | some _ => false
def KO.norm (ks : List Nat) (st : St) : KO → St
  | .k n => match look n st.obj with
    | some (.opn _ _ els) => match inside (elKeys els) ks with | true => st | false => st.shut n
    | _ => st
  | .slot key sz deep s => match look s st.env with
    | some .snil => match isFree st key sz with | true => (st.name key sz deep).put (some s) (.own key) | false => st
    | _ => st
  | .part key sz deep s c => match look s st.env with
    | some (.agg cs) => match nameCell key c cs with
      | some cs' => match isFree st key sz with | true => (st.name key sz deep).put (some s) (.agg cs') | false => st
      | none => st
    | _ => st
  | .cell key sz deep b c => match look b st.obj with
    | some (.var cells) => match nameCell key c cells with
      | some cs' => match isFree st key sz && !(Nat.beq key b) with | true => (st.name key sz deep).set b (.var cs') | false => st
      | none => st
    | _ => st
  | .frz n => match Nat.ble 10000 n with | true => st.frz [n] | false => st
def normL (ks : List Nat) : List KO → St → St
  | [], st => st
  | x :: r, st => normL ks r (x.norm ks st)
def plainK : List KO → Bool
  | [] => true
  | .k _ :: r => plainK r
  | _ => false
def St.norm (st : St) (Ko : List KO) : St := match plainK Ko with
  | false => normL (keysOf Ko) Ko st
  | true => match anyOpn st.obj with | false => st | true => normL (keysOf Ko) Ko st
def nmOf (id : Nat) : List (Nat × List KO) → List KO
  | [] => []
  | (i, l) :: r => match Nat.beq i id with | true => l | false => nmOf id r
structure Cut (id : Nat) where
  c : Option (List Nat × List KO × (St → Prop))
def evk (P : Program) (cx : Cx) : Code → (Ex → St → Prop) → St → Prop
  | .skip, K, st => K .normal st
  | .region id ops draw, K, st => match draw with
    | false => match nmOf id cx.nm with
      | [] => evOps P cx ops.toList (fun s => s.force (K .normal)) ops.toList st
      | Ko => (st.norm Ko).force fun st => evOps P cx ops.toList (fun s => s.force (K .normal)) ops.toList st
    | true => ∃ c : Cut id, match c.c with
      | none => esAt P cx ops.toList (fun s => s.force (K .normal)) ops.size [] [] st
      | some (L, Ko, I) => esAt P cx ops.toList (fun s => smallsIn (s.norm Ko).obj (keysOf Ko) = true ∧ ((s.norm Ko).only L (keysOf Ko)).force I) ops.size [] [] st ∧ ∀ s, I s → s.force (K .normal)
  | .seq a b, K, st => evk P cx a (fun e s => match e with | .normal => evk P cx b K s | .exit i => K (.exit i) s | .ret => K .ret s) st
  | .cond c a b, K, st => match st.ev c with
    | some (.d (.b t)) => (match t with | true => evk P cx a K st | false => evk P cx b K st)
    | _ => False
  | .block id b, K, st => evk P cx b (fun e s => match e with
    | .normal => K .normal s
    | .exit i => (match Nat.beq i id with | true => K .normal s | false => K (.exit i) s)
    | .ret => K .ret s) st
  | .loop b, K, st => ∃ (L : List Nat) (Ko : List KO) (I : St → Prop) (μ : St → Nat), smallsIn (st.norm Ko).obj (keysOf Ko) = true ∧ I ((st.norm Ko).only L (keysOf Ko)) ∧
      ∀ s, I s → evk P cx b (fun e s' => match e with
        | .normal => smallsIn (s'.norm Ko).obj (keysOf Ko) = true ∧ I ((s'.norm Ko).only L (keysOf Ko)) ∧ μ ((s'.norm Ko).only L (keysOf Ko)) < μ s
        | .exit i => K (.exit i) s'
        | .ret => K .ret s') s
  | .exit i, K, st => K (.exit i) st
  | .ret, K, st => K .ret st
  | _, _, _ => False
theorem dstOk_ok {n : Nat} : ∀ {l : List Oper}, dstOk n l = true → ∀ o ∈ l, ∀ d, o.dst = some d → d < n
  | [], _, o, h, _, _ => by cases h
  | x :: l, hh, o, h, d, hd => by
    simp only [dstOk] at hh
    rcases List.mem_cons.1 h with rfl | h
    · rw [hd] at hh
      simp only at hh
      cases hb : Nat.blt d n with
      | true => exact Nat.le_of_ble_eq_true hb
      | false => rw [hb] at hh; cases hh
    · cases hx : x.dst with
      | none => rw [hx] at hh; exact dstOk_ok hh o h d hd
      | some e =>
        rw [hx] at hh
        simp only at hh
        cases hb : Nat.blt e n with
        | true => rw [hb] at hh; exact dstOk_ok hh o h d hd
        | false => rw [hb] at hh; cases hh
theorem look_pickEnv {l : List (Nat × AV)} {t : Nat} {v : AV} : ∀ {ts : List Nat}, look t (pickEnv l ts) = some v → look t l = some v
  | [], h => by cases h
  | x :: ts, h => by
    simp only [pickEnv] at h
    cases hx : look x l with
    | none => rw [hx] at h; exact look_pickEnv h
    | some u =>
      rw [hx] at h
      simp only at h
      rw [look_cons] at h
      by_cases e : x = t
      · subst e; rw [if_pos rfl] at h; rw [hx]; exact h
      · rw [if_neg e] at h; exact look_pickEnv h
theorem look_pickObj {l : List (Nat × Ob)} {t : Nat} : ∀ {ts : List Nat}, look t (pickObj l ts) = match has t ts with | true => look t l | false => none
  | [] => rfl
  | x :: ts => by
    simp only [pickObj, has]
    by_cases e : x = t
    · subst e
      have hb : Nat.beq x x = true := by simp
      rw [hb]
      cases hx : look x l with
      | none =>
        simp only
        rw [look_pickObj]
        split
        · exact hx
        · rfl
      | some u => simp only; rw [look_cons, if_pos rfl]
    · have hb : Nat.beq x t = false := Bool.eq_false_iff.2 fun h => e (Nat.eq_of_beq_eq_true h)
      rw [hb]
      cases hx : look x l with
      | none => simp only; exact look_pickObj
      | some u => simp only; rw [look_cons, if_neg e]; exact look_pickObj
theorem within_id {ks : List Nat} {k j : Nat} (h : Pm.within ks k = some j) : j = k := by
  unfold Pm.within at h
  split at h
  · cases h; rfl
  · cases h
theorem smallsIn_ok : ∀ {l : List (Nat × Ob)} {ks : List Nat}, smallsIn l ks = true → ∀ k o, look k l = some o → k < 10000 → has k ks = true
  | [], ks, _, k, o, h, _ => by cases h
  | (j, x) :: l, ks, hh, k, o, h, hk => by
    rw [look_cons] at h
    simp only [smallsIn] at hh
    by_cases e : j = k
    · subst e
      cases hb : Nat.ble 10000 j with
      | true => have := Nat.le_of_ble_eq_true hb; omega
      | false =>
        rw [hb] at hh
        simp only at hh
        cases hj : has j ks with
        | true => rfl
        | false => rw [hj] at hh; cases hh
    · rw [if_neg e] at h
      cases hb : Nat.ble 10000 j with
      | true => rw [hb] at hh; exact smallsIn_ok hh k o h hk
      | false =>
        rw [hb] at hh
        simp only at hh
        cases hj : has j ks with
        | true => rw [hj] at hh; exact smallsIn_ok hh k o h hk
        | false => rw [hj] at hh; cases hh
section
variable {cx : Cx} {X0 : Nat → Prop} {J : Nat → Option Place} {st : St} {a : Act} {w : World} {K : Ex → St → Prop} {Q : Exit → Act → World → Prop}
theorem only_rel (r : Rel X0 J st a w) {L Ko : List Nat} (hs : smallsIn st.obj Ko = true) : ∃ J', Rel X0 J' (st.only L Ko) a w ∧ Step J w J' w := by
  let J' : Nat → Option Place := fun k => match has k Ko with | true => J k | false => none
  have hJ : ∀ {k p}, J' k = some p → J k = some p ∧ has k Ko = true := by
    intro k p h
    have h' : (match has k Ko with | true => J k | false => none) = some p := h
    cases hk : has k Ko with
    | true => rw [hk] at h'; exact ⟨h', rfl⟩
    | false => rw [hk] at h'; cases h'
  have hJ' : ∀ {k}, has k Ko = true → J' k = J k := by
    intro k hk
    show (match has k Ko with | true => J k | false => none) = _
    rw [hk]
  have hX : ∀ b, Xof X0 J' b → Xof X0 J b := by
    rintro b (h | ⟨k, p, hp, hb⟩)
    · exact .inl h
    · exact .inr ⟨k, p, (hJ hp).1, hb⟩
  have hJJ : ∀ k p j, J k = some p → Pm.within Ko k = some j → ∃ p', J' j = some p' ∧ p.like p' := by
    intro k p j hp hj
    have e := within_id hj
    subst e
    unfold Pm.within at hj
    split at hj
    · rename_i hk; exact ⟨p, by rw [hJ' hk]; exact hp, p.like_refl⟩
    · cases hj
  have hobj : ∀ k, look k (st.only L Ko).obj = match has k Ko with | true => (look k st.obj).map (Ob.ren (Pm.within Ko)) | false => none := by
    intro k
    show look k (renObj (Pm.within Ko) (pickObj st.obj Ko)) = _
    rw [look_renObj (fun k j h => within_id h), look_pickObj]
    unfold Pm.within
    cases has k Ko <;> rfl
  refine ⟨J', ⟨fun t v ht => ?_, ⟨fun k o ho => ?_, fun k p hp => ?_, fun k k' p p' hp hp' => r.mem.sep k k' p p' (hJ hp).1 (hJ hp').1, fun k p hp => r.mem.nd k p (hJ hp).1, fun b hb => ⟨(r.mem.x0 b hb).1, fun k p hp => (r.mem.x0 b hb).2 k p (hJ hp).1⟩⟩, r.defers⟩, ?_⟩
  · have ht' : look t (renEnv (Pm.within Ko) (pickEnv st.env L)) = some v := ht
    rw [look_renEnv] at ht'
    cases hv : look t (pickEnv st.env L) with
    | none => rw [hv] at ht'; cases ht'
    | some v0 =>
      rw [hv] at ht'
      cases ht'
      obtain ⟨u, hu, hr⟩ := r.env t v0 (look_pickEnv hv)
      exact ⟨u, hu, AV.rep_ren (fun b _ hx h => hx (hX b h)) (fun _ _ _ => rfl) hJJ v0 u hr⟩
  · rw [hobj] at ho
    cases hk : has k Ko with
    | false => rw [hk] at ho; cases ho
    | true =>
      rw [hk] at ho
      simp only at ho
      cases hv : look k st.obj with
      | none => rw [hv] at ho; cases ho
      | some o0 =>
        rw [hv] at ho
        cases ho
        obtain ⟨p, hp, hr⟩ := r.mem.ob k o0 hv
        exact ⟨p, by rw [hJ' hk]; exact hp, Ob.rep_ren (fun b _ hx h => hx (hX b h)) (fun _ _ _ => rfl) hJJ hr⟩
  · rw [hobj, (hJ hp).2]
    obtain ⟨o, ho⟩ := r.mem.dom k p (hJ hp).1
    exact ⟨o.ren (Pm.within Ko), by simp only; rw [show look k st.obj = some o from ho]; rfl⟩
  · refine ⟨Kept.refl _ w, fun k p b hp hb => .inl ⟨k, p, (hJ hp).1, hb⟩, fun k p hk hp => ?_⟩
    obtain ⟨o, ho⟩ := r.mem.dom k p hp
    exact ⟨p, by rw [hJ' (smallsIn_ok hs k o ho hk)]; exact hp, p.like_refl⟩
def LeadsTo (X0 : Nat → Prop) (J : Nat → Option Place) (a : Act) (w : World) (K : Ex → St → Prop) (Q : Exit → Act → World → Prop) : Prop :=
  ∀ e st' J' a' w', K e st' → Rel X0 J' st' a' w' → a'.tmps.size = a.tmps.size → Step J w J' w' →
    Q (match e with | .normal => .normal | .exit i => .exit i | .ret => .ret) a' w'
theorem LeadsTo.then {J' : Nat → Option Place} {a' : Act} {w' : World} (hs : a'.tmps.size = a.tmps.size) (s : Step J w J' w') (h : LeadsTo X0 J a w K Q) : LeadsTo X0 J' a' w' K Q :=
  fun e st2 J2 a2 w2 hK hr h2 s2 => h e st2 J2 a2 w2 hK hr (h2.trans hs) (s.trans s2)
theorem exists_least (R : Nat → Prop) (h : ∃ n, R n) : ∃ n, R n ∧ ∀ m, R m → n ≤ m := by
  obtain ⟨n, hn⟩ := h
  induction n using Nat.strongRecOn with
  | _ n ih =>
    by_cases hh : ∃ m, m < n ∧ R m
    · obtain ⟨m, hm, hr⟩ := hh
      exact ih m hm hr
    · exact ⟨n, hn, fun m hm => Nat.le_of_not_lt fun hlt => hh ⟨m, hlt, hm⟩⟩
theorem wp_loop_ghost {G : Type} {c : Code} (I : G → Act → World → Prop) (μ : G → Nat) {g : G} (h0 : I g a w)
    (round : ∀ g a w, I g a w → c.wp P (Exit.then (fun a' w' => ∃ g', I g' a' w' ∧ μ g' < μ g) Q) a w) : (Code.loop c).wp P Q a w := by
  classical
  let R : Act → World → Nat → Prop := fun a w n => ∃ g, I g a w ∧ μ g = n
  let ν : Act → World → Nat := fun a w => if h : ∃ n, R a w n then Classical.choose (exists_least (R a w) h) else 0
  refine wp_loop (fun a w => ∃ g, I g a w) ν ⟨g, h0⟩ fun a w hI => ?_
  have hex : ∃ n, R a w n := let ⟨g, hg⟩ := hI; ⟨μ g, g, hg, rfl⟩
  obtain ⟨g, hg, hμ⟩ := (Classical.choose_spec (exists_least (R a w) hex)).1
  refine wp_mono (round g a w hg) fun e a' w' hq => ?_
  cases e with
  | normal =>
    obtain ⟨g', hg', hlt⟩ := hq
    refine ⟨⟨g', hg'⟩, ?_⟩
    have hex' : ∃ n, R a' w' n := ⟨μ g', g', hg', rfl⟩
    show (if h : ∃ n, R a' w' n then Classical.choose (exists_least (R a' w') h) else 0) < (if h : ∃ n, R a w n then Classical.choose (exists_least (R a w) h) else 0)
    rw [dif_pos hex', dif_pos hex, ← hμ]
    exact Nat.lt_of_le_of_lt ((Classical.choose_spec (exists_least (R a' w') hex')).2 _ ⟨g', hg', rfl⟩) hlt
  | _ => exact hq
theorem name_rel (r : Rel X0 J st a w) {key sz : Nat} {deep : Bool} (hf : isFree st key sz = true) : ∃ J', Rel X0 J' (st.name key sz deep) a w ∧ Step J w J' w ∧ (AV.own key).rep w (Xof X0 J') J' (.slice none 0 0) ∧
    (∀ x v, AV.rep w (Xof X0 J) J x v → x.rep w (Xof X0 J') J' v) ∧ 10000 ≤ key := by
  unfold isFree at hf
  split at hf
  case h_2 => cases hf
  rename_i hl
  simp only [Bool.and_eq_true] at hf
  have hbig := Nat.le_of_ble_eq_true hf.1
  have hsz : 0 < sz := by simpa [Nat.blt_eq] using hf.2
  have hJ0 : J key = none := r.mem.free hl
  have hgen := r.mem.gen (J' := fun k => if k = key then some ⟨0, [], .slice none 0 0, false⟩ else J k) (w' := w) (f := some) (F := fun _ => False) (C := [key]) (obj' := fun q => look q (st.name key sz deep).obj)
    (fun k j h => (Option.some.inj h).symm) (fun _ _ => rfl)
    (fun k hk p hp => by rw [List.mem_singleton.1 hk, hJ0] at hp; cases hp)
    (fun k hk => by simp only [if_neg (fun h => hk (List.mem_singleton.2 h))])
    (fun k hk => by
      show look k (st.set key _).obj = _
      rw [St.set_look, if_neg (fun h => hk (List.mem_singleton.2 h.symm))]
      simp only; rw [ren_some_map])
    (fun k hk p _ => by rw [List.mem_singleton.1 hk]; exact ⟨_, by show look key (st.set key _).obj = _; rw [St.set_look, if_pos rfl]⟩)
    (fun k hk o ho => by
      rw [List.mem_singleton.1 hk] at ho ⊢
      have ho : look key (st.set key (.arr sz deep [])).obj = some o := ho
      rw [St.set_look, if_pos rfl] at ho
      cases ho
      exact ⟨_, if_pos rfl, hsz, none, 0, rfl, Nat.le_refl _, .inl ⟨rfl, rfl, rfl⟩⟩)
    (Kept.refl _ w) (fun _ h => h.elim)
    (fun k hk p hp => by rw [List.mem_singleton.1 hk] at hp; simp only [if_true] at hp; cases hp; exact List.nodup_nil)
    (fun k hk p hp b hb => by rw [List.mem_singleton.1 hk] at hp; simp only [if_true] at hp; cases hp; cases hb)
    (fun k k' p p' hk hk' _ _ hne => absurd ((List.mem_singleton.1 hk).trans (List.mem_singleton.1 hk').symm) hne)
  obtain ⟨m', tr, stp⟩ := hgen
  have tr' : ∀ x v, AV.rep w (Xof X0 J) J x v → x.rep w (Xof X0 _) _ v := fun x v h => by have := tr x v h; rwa [AV.ren_some] at this
  refine ⟨_, ⟨fun t v ht => ?_, m', r.defers⟩, stp, ?_, tr', hbig⟩
  · obtain ⟨u, hu, hr⟩ := r.env t v ht
    exact ⟨u, hu, tr' v u hr⟩
  · simp only [AV.rep]
    exact ⟨⟨0, [], .slice none 0 0, false⟩, by simp, rfl, rfl⟩
theorem nameCell_rep {X : Nat → Prop} {key : Nat} (hk : (AV.own key).rep w X J (.slice none 0 0)) : ∀ {c : Nat} {cs cs' : List AV} {us : List Value}, nameCell key c cs = some cs' → AV.repL w X J cs us → AV.repL w X J cs' us
  | 0, v :: r, cs', us, h, hr => by
    cases v <;> simp only [nameCell] at h <;> try (cases h; done)
    cases h
    simp only [AV.repL] at hr ⊢
    obtain ⟨u, us', rfl, h1, h2⟩ := hr
    simp only [AV.rep] at h1
    subst h1
    exact ⟨_, us', rfl, hk, h2⟩
  | 0, [], cs', us, h, hr => by simp [nameCell] at h
  | c + 1, [], cs', us, h, hr => by simp [nameCell] at h
  | c + 1, v :: r, cs', us, h, hr => by
    simp only [nameCell] at h
    split at h
    · rename_i l hl
      cases h
      simp only [AV.repL] at hr ⊢
      obtain ⟨u, us', rfl, h1, h2⟩ := hr
      exact ⟨u, us', rfl, h1, nameCell_rep hk hl h2⟩
    · cases h
theorem Rel.reput (r : Rel X0 J st a w) {s : Nat} {v v' : AV} (hs : look s st.env = some v) (hv : ∀ u, v.rep w (Xof X0 J) J u → v'.rep w (Xof X0 J) J u) : Rel X0 J (st.put (some s) v') a w := by
  refine ⟨fun t x ht => ?_, r.mem, r.defers⟩
  rw [St.put_look] at ht
  split at ht
  · rename_i e
    cases ht
    subst e
    obtain ⟨u, hu, hr⟩ := r.env s v hs
    exact ⟨u, hu, hv u hr⟩
  · exact r.env t x ht
theorem KO.norm_rel (r : Rel X0 J st a w) (ks : List Nat) (x : KO) : ∃ J', Rel X0 J' (x.norm ks st) a w ∧ Step J w J' w := by
  have stay : ∃ J', Rel X0 J' st a w ∧ Step J w J' w := ⟨J, r, Step.refl J w⟩
  cases x with
  | k n =>
    simp only [KO.norm]
    split
    · split
      · exact stay
      · exact shut_rel r n
    · exact stay
  | slot key sz deep s =>
    simp only [KO.norm]
    split
    · rename_i hs
      split
      · rename_i hf
        obtain ⟨J', r', stp, hown, tr, _⟩ := name_rel (deep := deep) r hf
        refine ⟨J', r'.reput (v := .snil) hs fun u hu => ?_, stp⟩
        simp only [AV.rep] at hu
        subst hu
        exact hown
      · exact stay
    · exact stay
  | part key sz deep s c =>
    simp only [KO.norm]
    split
    · rename_i cs hs
      split
      · rename_i cs' hcs
        split
        · rename_i hf
          obtain ⟨J', r', stp, hown, tr, _⟩ := name_rel (deep := deep) r hf
          refine ⟨J', r'.reput (v := .agg cs) hs fun u hu => ?_, stp⟩
          simp only [AV.rep] at hu ⊢
          obtain ⟨vs, rfl, hr⟩ := hu
          exact ⟨vs, rfl, nameCell_rep hown hcs hr⟩
        · exact stay
      · exact stay
    · exact stay
  | cell key sz deep b c =>
    simp only [KO.norm]
    split
    · rename_i cells hb
      split
      · rename_i cs' hcs
        split
        · rename_i hf
          simp only [Bool.and_eq_true, Bool.not_eq_true'] at hf
          have hne : key ≠ b := fun e => by rw [e] at hf; simp at hf
          obtain ⟨J', r', stp, hown, tr, hbig⟩ := name_rel (deep := deep) r hf.1
          have hb' : look b (st.name key sz deep).obj = some (.var cells) := by
            show look b (st.set key _).obj = _
            rw [St.set_look, if_neg hne]; exact hb
          obtain ⟨p, vcs, t, hp, ⟨hh, hn⟩, hh1, hr1⟩ := r'.mem.var hb'
          have hrep : (Ob.var cs').rep w (Xof X0 J') J' p := ⟨hh, hn, vcs, t, hh1, nameCell_rep hown hcs hr1⟩
          obtain ⟨m2, tr2, s2⟩ := Mem.upd (o0 := .var cs') (obj' := (look · ((st.name key sz deep).set b (.var cs')).obj)) (w' := w) r'.mem hp hh (fun j => by
            rw [St.set_look]
            by_cases e : b = j
            · rw [if_pos e, if_pos e.symm]
            · rw [if_neg e, if_neg (Ne.symm e)]) (Kept.refl _ w) hrep
          exact ⟨J', ⟨r'.env, m2, r.defers⟩, stp⟩
        · exact stay
      · exact stay
    · exact stay
  | frz n =>
    simp only [KO.norm]
    split
    · rename_i hb
      have hn := Nat.le_of_ble_eq_true hb
      refine ⟨less J [n], frz_rel r [n], ⟨.refl _ w, fun k p b hp hb => .inl ⟨k, p, (less_some hp).1, hb⟩, fun k p hk hp => ⟨p, ?_, p.like_refl⟩⟩⟩
      rw [less_of (by simp; omega)]; exact hp
    · exact stay
theorem normL_rel (ks : List Nat) : ∀ (Ko : List KO) {st : St} {J : Nat → Option Place}, Rel X0 J st a w → ∃ J', Rel X0 J' (normL ks Ko st) a w ∧ Step J w J' w
  | [], st, J, r => ⟨J, r, Step.refl J w⟩
  | x :: Ko, st, J, r => by
    obtain ⟨J1, r1, s1⟩ := KO.norm_rel r ks x
    obtain ⟨J2, r2, s2⟩ := normL_rel ks Ko r1
    exact ⟨J2, r2, s1.trans s2⟩
theorem norm_rel (r : Rel X0 J st a w) (Ko : List KO) : ∃ J', Rel X0 J' (st.norm Ko) a w ∧ Step J w J' w := by
  unfold St.norm
  split
  · exact normL_rel _ Ko r
  · split
    · exact ⟨J, r, Step.refl J w⟩
    · exact normL_rel _ Ko r
theorem only_normed (r : Rel X0 J st a w) {L : List Nat} {Ko : List KO} (hs : smallsIn (st.norm Ko).obj (keysOf Ko) = true) : ∃ J', Rel X0 J' ((st.norm Ko).only L (keysOf Ko)) a w ∧ Step J w J' w := by
  obtain ⟨J1, r1, s1⟩ := norm_rel r Ko
  obtain ⟨J2, r2, s2⟩ := only_rel (L := L) r1 hs
  exact ⟨J2, r2, s1.trans s2⟩
theorem evk_sound (tok : TOk P cx.T) (hm : P.follows .mixedOrders = true) {n : Nat} : ∀ (c : Code) (K : Ex → St → Prop) (st : St) (J : Nat → Option Place) (a : Act) (w : World) (Q : Exit → Act → World → Prop),
    codeOk n c = true → a.tmps.size = n → Rel X0 J st a w → LeadsTo X0 J a w K Q → evk P cx c K st → c.wp P Q a w
  | .skip, K, st, J, a, w, Q, _, hs, r, hl, hc => wp_skip (hl .normal st J a w hc r rfl (Step.refl J w))
  | .exit i, K, st, J, a, w, Q, _, hs, r, hl, hc => wp_exit (hl (.exit i) st J a w hc r rfl (Step.refl J w))
  | .ret, K, st, J, a, w, Q, _, hs, r, hl, hc => wp_ret (hl .ret st J a w hc r rfl (Step.refl J w))
  | .region id ops draw, K, st, J, a, w, Q, hok, hs, r, hl, hc => by
    simp only [codeOk] at hok
    have hdst := dstOk_ok hok
    rw [← hs] at hdst
    simp only [evk, St.force_eq] at hc
    cases draw with
    | false =>
      cases hn : nmOf id cx.nm with
      | nil => rw [hn] at hc; exact region_sound tok r hdst (fun st' J' a' w' hK hr h1 h2 => hl .normal st' J' a' w' hK hr h1 h2) hc
      | cons x y =>
        rw [hn] at hc
        obtain ⟨J3, hr3, hs3⟩ := norm_rel r (x :: y)
        exact region_sound tok hr3 hdst (fun st' J' a' w' hK hr h1 h2 => hl .normal st' J' a' w' hK hr h1 (hs3.trans h2)) hc
    | true =>
      obtain ⟨⟨c⟩, hc⟩ := hc
      cases c with
      | none =>
        simp only [esAt_eq] at hc
        exact draw_soundS tok hm r hdst (fun st' J' a' w' hK hr h1 h2 => hl .normal st' J' a' w' hK hr h1 h2) hc
      | some c =>
        obtain ⟨L, Ko, I⟩ := c
        obtain ⟨hc, hI⟩ := hc
        rw [esAt_eq] at hc
        refine draw_soundS tok hm r hdst (fun st' J' a' w' hK hr h1 h2 => ?_) hc
        obtain ⟨J3, hr3, hs3⟩ := only_normed (L := L) hr hK.1
        exact hl .normal _ J3 a' w' (hI _ hK.2) hr3 h1 (h2.trans hs3)
  | .seq x y, K, st, J, a, w, Q, hok, hs, r, hl, hc => by
    simp only [codeOk] at hok
    cases hx : codeOk n x with
    | false => rw [hx] at hok; cases hok
    | true =>
      rw [hx] at hok
      simp only [evk] at hc
      refine wp_seq (evk_sound tok hm x _ st J a w _ hx hs r ?_ hc)
      intro e st' J' a' w' hK hr h1 h2
      cases e with
      | normal => exact evk_sound tok hm y K st' J' a' w' Q hok (h1.trans hs) hr (hl.then h1 h2) hK
      | exit i => exact hl (.exit i) st' J' a' w' hK hr h1 h2
      | ret => exact hl .ret st' J' a' w' hK hr h1 h2
  | .cond c x y, K, st, J, a, w, Q, hok, hs, r, hl, hc => by
    simp only [codeOk] at hok
    cases hx : codeOk n x with
    | false => rw [hx] at hok; cases hok
    | true =>
      rw [hx] at hok
      simp only [evk] at hc
      split at hc
      · rename_i t ht
        have hb : a.eval c = .bool t := by have := r.ev ht; simp only [AV.rep, D.rep] at this; exact this.1
        cases t
        · exact wp_cond_false hb (evk_sound tok hm y K st J a w Q hok hs r hl hc)
        · exact wp_cond_true hb (evk_sound tok hm x K st J a w Q hx hs r hl hc)
      · exact hc.elim
  | .block id b, K, st, J, a, w, Q, hok, hs, r, hl, hc => by
    simp only [codeOk] at hok
    simp only [evk] at hc
    refine wp_block (evk_sound tok hm b _ st J a w _ hok hs r ?_ hc)
    intro e st' J' a' w' hK hr h1 h2
    cases e with
    | normal => exact hl .normal st' J' a' w' hK hr h1 h2
    | exit i =>
      simp only at hK
      show (if i = id then Q .normal a' w' else Q (.exit i) a' w')
      by_cases e : i = id
      · rw [if_pos e]
        have : Nat.beq i id = true := by simpa using e
        rw [this] at hK
        exact hl .normal st' J' a' w' hK hr h1 h2
      · rw [if_neg e]
        have : Nat.beq i id = false := Bool.eq_false_iff.2 fun h => e (Nat.eq_of_beq_eq_true h)
        rw [this] at hK
        exact hl (.exit i) st' J' a' w' hK hr h1 h2
    | ret => exact hl .ret st' J' a' w' hK hr h1 h2
  | .loop b, K, st, J, a, w, Q, hok, hs, r, hl, hc => by
    simp only [codeOk] at hok
    simp only [evk] at hc
    obtain ⟨L, Ko, I, μ, hsm, hI, hround⟩ := hc
    obtain ⟨J1, hr1, hs1⟩ := only_normed (L := L) r hsm
    refine wp_loop_ghost (G := St) (fun s a' w' => I s ∧ a'.tmps.size = n ∧ ∃ J', Rel X0 J' s a' w' ∧ Step J w J' w') μ (g := (st.norm Ko).only L (keysOf Ko)) ⟨hI, hs, J1, hr1, hs1⟩ ?_
    rintro s a' w' ⟨hIs, hsz, J', hr, hst⟩
    refine evk_sound tok hm b _ s J' a' w' _ hok hsz hr ?_ (hround s hIs)
    intro e st2 J2 a2 w2 hK hr2 h1 h2
    cases e with
    | normal =>
      obtain ⟨h3, h4, h5⟩ := hK
      obtain ⟨J3, hr3, hs3⟩ := only_normed (L := L) hr2 h3
      exact ⟨(st2.norm Ko).only L (keysOf Ko), ⟨h4, h1.trans hsz, J3, hr3, (hst.trans h2).trans hs3⟩, h5⟩
    | exit i => exact hl (.exit i) st2 J2 a2 w2 hK hr2 (h1.trans (hsz.trans hs.symm)) (hst.trans h2)
    | ret => exact hl .ret st2 J2 a2 w2 hK hr2 (h1.trans (hsz.trans hs.symm)) (hst.trans h2)
  | .rangeFunc .., K, st, J, a, w, Q, _, _, _, _, hc => hc.elim
  | .scope .., K, st, J, a, w, Q, _, _, _, _, hc => hc.elim
  | .label .., K, st, J, a, w, Q, _, _, _, _, hc => hc.elim
  | .goto .., K, st, J, a, w, Q, _, _, _, _, hc => hc.elim
  | .refuse .., K, st, J, a, w, Q, _, _, _, _, hc => hc.elim
end
end Go.Pm
