/-
A walk of Go's code over values: what is read ahead stays as it was read.
-/
import Derived.Test.YtjjnmkhcdbmhoaaPmRa
namespace Go.Pm
open Go
set_option linter.unusedVariables false
variable {P : Program}

def argsOf (cx : Cx) (f : FuncId) (vs : List AV) (st : St) : List AV × List Nat := match has f cx.mu with | true => (vs, []) | false => lend (look · st.obj) vs
/-- Does the command leave the blocks of prot alone? -/
def okC (cx : Cx) (prot : List Nat) (st : St) (dst : Option Nat) : Cmd → Bool
  | .newVar _ => match dst with | some d => apart [10000 + d] prot | none => true
  | .newArr _ _ _ ks => match dst with | some d => apart ((10000 + d) :: ks) prot | none => true
  | .app k _ _ _ ks => apart (k :: ks) prot
  | .upd k _ _ => apart [k] prot
  | .call .. => false
  | .alt .. => false
  | .newNil .. => false
  | .bit _ => false
  | .opens .. => false
  | .put k _ ks => apart (k :: ks) prot
  | _ => true
/-- A call; what is lent is frozen by it only where that is free. -/
def evCallInS (P : Program) (f : FuncId) (args : List AV) (bs : List Nat) (free : Bool) (d : Nat) (st : St) (K : St → Prop) : Prop :=
  forceN (reachN (look · st.obj) 50 (refsL args) []) fun ks =>
    match nodup ks && apart bs ks && bigs bs && inside (refsL args) ks with
    | false => False
    | true => match pickObs (look · st.obj) (idx · ks 0) ks with
      | none => False
      | some objs => ∃ Q, EntQ P f (renL (idx · ks 0) args) objs Q ∧ ∀ R O, Q R O →
        (match Nat.ble ks.length O.length && freshOk st.obj ks d 0 (O.length - ks.length) with
        | false => False
        | true => match bs with
          | [] => K (after st ks d O R)
          | _ => match R.loose && flatObs O with
            | true => K (after st ks d O R)
            | false => match free with | true => K (after (st.frz bs) ks d O R) | false => False)
def evCallP (P : Program) (cx : Cx) (prot : List Nat) (f : FuncId) (vs : List AV) (dst : Option Nat) (st : St) (K : St → Prop) : Prop :=
  match dst with
  | none => False
  | some d => match has (1000000 + f) cx.mu with
    | true => False
    | false => match argsOf cx f vs st with
      | (args, bs) => match apart (reachN (look · st.obj) 50 (refsL args) []) prot with
        | false => False
        | true => evCallInS P f args bs (apart bs prot) d st K
def evCmdP (P : Program) (cx : Cx) (prot : List Nat) : Option Nat → Cmd → St → (St → Prop) → Prop
  | dst, .need p c, st, K => p ∧ evCmdP P cx prot dst c st K
  | dst, .get xs i f, st, K => ∃ x, xs[i]? = some x ∧ evCmdP P cx prot dst (f x) st K
  | dst, .call f vs, st, K => evCallP P cx prot f vs dst st K
  | dst, c, st, K => match okC cx prot st dst c with | true => evCmd P cx dst c st K | false => False

theorem evCallInS_up {f : FuncId} {args : List AV} {bs : List Nat} {free free' : Bool} {d : Nat} {st : St} {K K' : St → Prop} (hf : free = true → free' = true) (hK : ∀ s, K s → K' s) (h : evCallInS P f args bs free d st K) : evCallInS P f args bs free' d st K' := by
  unfold evCallInS at h ⊢
  rw [forceN_eq] at h ⊢
  split at h
  · exact h.elim
  · split at h
    · exact h.elim
    · obtain ⟨Q, hent, hQ⟩ := h
      refine ⟨Q, hent, fun R O hq => ?_⟩
      have h := hQ R O hq
      split at h
      · exact h.elim
      · split at h
        · exact hK _ h
        · split at h
          · exact hK _ h
          · cases free with
            | false => exact h.elim
            | true => rw [hf rfl]; exact hK _ h
theorem evCallInS_to {f : FuncId} {args : List AV} {bs : List Nat} {free : Bool} {d : Nat} {st : St} {K : St → Prop} (h : evCallInS P f args bs free d st K) : evCallIn P f args bs d st K := by
  unfold evCallInS at h
  unfold evCallIn
  rw [forceN_eq] at h ⊢
  generalize reachN (look · st.obj) 50 (refsL args) [] = ks at h ⊢
  simp only at h ⊢
  generalize (nodup ks && apart bs ks && bigs bs && inside (refsL args) ks) = q at h ⊢
  cases q with
  | false => exact h.elim
  | true =>
  simp only at h ⊢
  generalize pickObs (look · st.obj) (idx · ks 0) ks = po at h ⊢
  cases po with
  | none => exact h.elim
  | some objs =>
  simp only at h ⊢
  obtain ⟨Q, hent, hQ⟩ := h
  refine ⟨Q, hent, fun R O hq => ?_⟩
  have h := hQ R O hq
  generalize (Nat.ble ks.length O.length && freshOk st.obj ks d 0 (O.length - ks.length)) = q at h ⊢
  cases q with
  | false => exact h.elim
  | true =>
  simp only at h ⊢
  cases bs with
  | nil => exact h
  | cons b0 bs =>
    simp only at h ⊢
    generalize (R.loose && flatObs O) = q at h ⊢
    cases q with
    | true => exact h
    | false =>
      cases free with
      | false => exact h.elim
      | true => exact h
theorem evCallP_to {cx : Cx} {prot : List Nat} {f : FuncId} {vs : List AV} {dst : Option Nat} {st : St} {K : St → Prop} (h : evCallP P cx prot f vs dst st K) : evCall P cx f vs dst st K := by
  unfold evCallP at h
  unfold evCall
  cases dst with
  | none => exact h
  | some d =>
    simp only at h ⊢
    cases hro : has (1000000 + f) cx.mu with
    | true => rw [hro] at h; exact h.elim
    | false =>
      rw [hro] at h
      simp only at h ⊢
      split at h
      · exact h.elim
      · have h := evCallInS_to h
        unfold argsOf at h
        cases hh : has f cx.mu <;> (rw [hh] at h; exact h)
theorem evCallP_mono {cx : Cx} {prot : List Nat} {f : FuncId} {vs : List AV} {dst : Option Nat} {st : St} {K K' : St → Prop} (hK : ∀ s, K s → K' s) (h : evCallP P cx prot f vs dst st K) : evCallP P cx prot f vs dst st K' := by
  unfold evCallP at h ⊢
  cases dst with
  | none => exact h
  | some d =>
    simp only at h ⊢
    split at h
    · exact h.elim
    · split at h
      · exact h.elim
      · exact evCallInS_up id hK h

section
variable {cx : Cx} {st : St} {K K' : St → Prop} {dst : Option Nat} {prot prot' rs : List Nat}

theorem apart_less : ∀ {bs : List Nat}, (∀ k, k ∈ prot' → k ∈ prot) → apart bs prot = true → apart bs prot' = true
  | [], _, _ => rfl
  | k :: bs, hs, h => by
    simp only [apart] at h ⊢
    cases hk : has k prot with
    | true => rw [hk] at h; cases h
    | false =>
      rw [hk] at h
      have : has k prot' = false := Bool.eq_false_iff.2 fun e => by
        rw [(has_iff _ _).2 (hs k ((has_iff _ _).1 e))] at hk; cases hk
      rw [this]
      exact apart_less hs h
theorem apart_tail {k : Nat} {ks : List Nat} (h : apart (k :: ks) prot = true) : apart ks prot = true := by
  simp only [apart] at h
  split at h
  · cases h
  · exact h
theorem okC_less (hs : ∀ k, k ∈ prot' → k ∈ prot) {c : Cmd} (h : okC cx prot st dst c = true) : okC cx prot' st dst c = true := by
  cases c with
  | newVar cells => cases dst with
    | none => rfl
    | some d => exact apart_less hs h
  | newArr a b c ks => cases dst with
    | none => rfl
    | some d => exact apart_less hs h
  | app k a b c ks => exact apart_less hs h
  | upd k o v => exact apart_less hs h
  | call f vs => exact h
  | alt => exact h
  | newNil => exact h
  | bit => exact h
  | opens => exact h
  | put k o ks => exact apart_less hs h
  | _ => rfl
theorem evCallP_less (hs : ∀ k, k ∈ prot' → k ∈ prot) {f : FuncId} {vs : List AV} (h : evCallP P cx prot f vs dst st K) : evCallP P cx prot' f vs dst st K := by
  unfold evCallP at h ⊢
  cases dst with
  | none => exact h
  | some d =>
    simp only at h ⊢
    split at h
    · exact h.elim
    · split at h
      · exact h.elim
      · rename_i ha
        rw [apart_less hs ha]
        exact evCallInS_up (fun e => apart_less hs e) (fun _ h => h) h
theorem evCmdP_less (hs : ∀ k, k ∈ prot' → k ∈ prot) : ∀ {c : Cmd}, evCmdP P cx prot dst c st K → evCmdP P cx prot' dst c st K := by
  intro c
  induction c with
  | need p c ih => exact fun h => ⟨h.1, ih h.2⟩
  | get xs i f ih => exact fun ⟨x, hx, h⟩ => ⟨x, hx, ih x h⟩
  | call f vs => exact evCallP_less hs
  | _ =>
    intro h
    simp only [evCmdP] at h ⊢
    split at h
    · rename_i ho; rw [okC_less hs ho]; exact h
    · exact h.elim
theorem evCmdP_to : ∀ {c : Cmd}, evCmdP P cx prot dst c st K → evCmd P cx dst c st K := by
  intro c
  induction c with
  | need p c ih => exact fun h => ⟨h.1, ih h.2⟩
  | get xs i f ih => exact fun ⟨x, hx, h⟩ => ⟨x, hx, ih x h⟩
  | call f vs => exact evCallP_to
  | _ =>
    intro h
    simp only [evCmdP] at h
    split at h
    · exact h
    · exact h.elim

theorem freshOk_congr {a b : List (Nat × Ob)} {ks : List Nat} {d : Nat} (h : ∀ k, look k a = look k b) : ∀ {n i : Nat}, freshOk a ks d i n = freshOk b ks d i n
  | 0, _ => rfl
  | n + 1, i => by simp only [freshOk]; rw [h, freshOk_congr h]

/-- A call, seen from a state in which a slot more is filled. -/
theorem callIn_comm {x : Option (Nat × AV)} {e : Nat} {s t : St} (hx : Ext x s t) (hne : ∀ d v, x = some (d, v) → d ≠ e) (hsub : ∀ k, k ∈ rs → k ∈ prot) (hvp : ∀ d v, x = some (d, v) → ∀ k, k ∈ v.refs → k ∈ rs ∨ k < 10000) (hc : ∀ k, k ∈ rs → ∃ o, look k s.obj = some o ∧ ∀ j, j ∈ o.refs → j ∈ rs)
    {f : FuncId} {args : List AV} {bs : List Nat} {free : Bool} (hbs : free = true → apart bs prot = true) (hks : apart (reachN (look · s.obj) 50 (refsL args) []) prot = true) (h : evCallInS P f args bs free e t K) :
    evCallInS P f args bs free e s (fun s' => ∃ t', K t' ∧ Ext x s' t' ∧ Far rs e s s') := by
  unfold evCallInS at h ⊢
  rw [forceN_eq] at h ⊢
  rw [hx.look] at h
  generalize reachN (look · s.obj) 50 (refsL args) [] = ks at h hks ⊢
  have hks := apart_ok hks
  simp only at h ⊢
  generalize hchk : (nodup ks && apart bs ks && bigs bs && inside (refsL args) ks) = q at h ⊢
  cases q with
  | false => exact h.elim
  | true =>
  simp only [Bool.and_eq_true] at hchk
  have hbig : bigs bs = true := hchk.1.2
  simp only at h ⊢
  generalize hpo : pickObs (look · s.obj) (idx · ks 0) ks = po at h ⊢
  cases po with
  | none => exact h.elim
  | some objs =>
  simp only at h ⊢
  obtain ⟨Q, hent, hK⟩ := h
  refine ⟨Q, hent, fun R O hq => ?_⟩
  have h := hK R O hq
  rw [freshOk_congr hx.obj] at h
  generalize hck : (Nat.ble ks.length O.length && freshOk s.obj ks e 0 (O.length - ks.length)) = q at h ⊢
  cases q with
  | false => exact h.elim
  | true =>
  simp only [Bool.and_eq_true] at hck
  have hfr := freshOk_ok hck.2
  have hnot : ∀ j k, 0 ≤ j → j < 0 + O.length → nameOf ks e j = some k → k ∉ rs := by
    intro j k _ hj hn hp
    by_cases hjl : j < ks.length
    · rw [nameOf_lt hjl] at hn
      cases hn
      exact hks _ (List.getElem_mem hjl) (hsub _ hp)
    · rw [nameOf_ge (by omega)] at hn
      cases hn
      have h1 := hfr (j - ks.length) (Nat.zero_le _) (by omega)
      obtain ⟨o, ho, _⟩ := hc _ hp
      rw [h1] at ho; cases ho
  have plain : ∀ {s0 t0 : St}, Ext x s0 t0 → Far rs e s s0 → K (after t0 ks e O R) → ∃ t', K t' ∧ Ext x (after s0 ks e O R) t' ∧ Far rs e s (after s0 ks e O R) :=
    fun {s0 t0} h1 h2 h3 => ⟨_, h3, h1.after hne ks O R, (Far.setAll O 0 _ s0 h2 hnot).put _⟩
  cases bs with
  | nil => exact plain hx (Far.refl _ _ _) h
  | cons b0 bs =>
    simp only at h ⊢
    split
    · rename_i hf; rw [hf] at h; exact plain hx (Far.refl _ _ _) h
    · rename_i hf
      rw [hf] at h
      cases free with
      | false => exact h.elim
      | true =>
        have hbs := apart_ok (hbs rfl)
        have hpb : ∀ k, k ∈ rs → has k (b0 :: bs) = false := fun k hk => Bool.eq_false_iff.2 fun e => hbs k ((has_iff _ _).1 e) (hsub _ hk)
        have hsm : ∀ k, k < 10000 → has k (b0 :: bs) = false := fun k hk => Bool.eq_false_iff.2 fun e => by have := bigs_le hbig k ((has_iff _ _).1 e); omega
        have hvb : ∀ d v, x = some (d, v) → ∀ k, k ∈ v.refs → has k (b0 :: bs) = false := fun d v hd k hk => (hvp d v hd k hk).elim (hpb k) (hsm k)
        exact plain (hx.frz hvb) (Far.frz hpb hsm hc) h

theorem comm {x : Option (Nat × AV)} {e : Nat} {s t : St} (hx : Ext x s t) (hsub : ∀ k, k ∈ rs → k ∈ prot) (hvp : ∀ d v, x = some (d, v) → ∀ k, k ∈ v.refs → k ∈ rs ∨ k < 10000) (hc : ∀ k, k ∈ rs → ∃ o, look k s.obj = some o ∧ ∀ j, j ∈ o.refs → j ∈ rs)
    (hd : ∀ e', dst = some e' → (∀ d v, x = some (d, v) → d ≠ e') ∧ e' = e) : ∀ (c : Cmd), evCmdP P cx prot dst c t K → evCmdP P cx prot dst c s (fun s' => ∃ t', K t' ∧ Ext x s' t' ∧ Far rs e s s') := by
  have put : ∀ {s0 t0 : St} (u : AV), Ext x s0 t0 → Far rs e s s0 → Ext x (s0.put dst u) (t0.put dst u) ∧ Far rs e s (s0.put dst u) := by
    intro s0 t0 u h1 h2
    cases hdst : dst with
    | none => exact ⟨h1, h2⟩
    | some e' =>
      obtain ⟨g1, rfl⟩ := hd e' hdst
      exact ⟨h1.put g1 u, h2.put u⟩
  have without_in : ∀ {ks : List Nat}, apart ks prot = true → ∀ k, k ∈ rs → without ks k = some k := by
    intro ks hk k hp
    unfold without
    have : has k ks = false := Bool.eq_false_iff.2 fun e => apart_ok hk k ((has_iff _ _).1 e) (hsub _ hp)
    rw [this]
  intro c
  induction c with
  | need p c ih => exact fun h => ⟨h.1, ih h.2⟩
  | get xs i f ih => exact fun ⟨y, hy, h⟩ => ⟨y, hy, ih y h⟩
  | stuck => intro h; simp only [evCmdP, okC, evCmd] at h
  | val u =>
    intro h
    simp only [evCmdP, okC, evCmd] at h ⊢
    exact ⟨_, h, put u hx (Far.refl _ _ _)⟩
  | str xs =>
    intro h
    simp only [evCmdP, okC, evCmd] at h ⊢
    obtain ⟨l, hl, hK⟩ := h
    exact ⟨l, hl, _, hK, put _ hx (Far.refl _ _ _)⟩
  | newVar cells =>
    intro h
    simp only [evCmdP] at h ⊢
    cases hdst : dst with
    | none => rw [hdst] at h; simp only [okC, evCmd] at h
    | some e' =>
      rw [hdst] at h put
      simp only [okC] at h ⊢
      split at h
      case h_2 => exact h.elim
      rename_i ho
      try rw [ho]
      simp only [evCmd] at h ⊢
      rw [hx.obj] at h
      split at h
      · rename_i hl
        try simp only
        exact ⟨_, h, put _ (hx.set _ _) ((Far.refl rs e s).set (fun hm => apart_ok ho _ (List.mem_cons_self ..) (hsub _ hm)))⟩
      · exact h.elim
  | newArr sz deep xs ks =>
    intro h
    simp only [evCmdP] at h ⊢
    cases hdst : dst with
    | none => rw [hdst] at h; simp only [okC, evCmd] at h
    | some e' =>
      rw [hdst] at h put
      simp only [okC] at h ⊢
      split at h
      case h_2 => exact h.elim
      rename_i ho
      try rw [ho]
      simp only [evCmd] at h ⊢
      rw [hx.obj] at h
      split at h
      · rename_i hl
        try simp only
        cases ks with
        | nil =>
          simp only at h ⊢
          exact ⟨_, h, put _ (hx.set _ _) ((Far.refl rs e s).set (fun hm => apart_ok ho _ (List.mem_cons_self ..) (hsub _ hm)))⟩
        | cons k ks =>
          simp only at h ⊢
          split at h
          · exact h.elim
          · rename_i hb
            have hsm : ∀ k0, k0 < 10000 → without ((10000 + e') :: k :: ks) k0 = some k0 := fun k0 hk0 => without_small (by simp only [bigs] at hb ⊢; rw [show Nat.ble 10000 (10000 + e') = true from Nat.ble_eq_true_of_le (Nat.le_add_right _ _)]; exact hb) hk0
            refine ⟨_, h, put _ ((hx.ren (fun k j h => without_id h) (fun d v hd => AV.ren_id v fun k hk => (hvp d v hd k hk).elim (without_in ho k) (hsm k))).set _ _) (Far.set (Far.ren (fun k j h => without_id h) (without_in ho) hsm hc) (fun hm => apart_ok ho _ (List.mem_cons_self ..) (hsub _ hm)))⟩
      · exact h.elim
  | app k sz deep xs ks =>
    intro h
    simp only [evCmdP, okC] at h ⊢
    split at h
    case h_2 => exact h.elim
    rename_i ho
    try rw [ho]
    simp only [evCmd] at h ⊢
    split at h
    · rename_i hb
      try rw [hb]
      exact ⟨_, h, put _ ((hx.ren (fun k j h => without_id h) (fun d v hd => AV.ren_id v fun k hk => (hvp d v hd k hk).elim (without_in ho k) (without_small hb))).set _ _) (Far.set (Far.ren (fun k j h => without_id h) (without_in ho) (fun k hk => without_small hb hk) hc) (fun hm => apart_ok ho _ (List.mem_cons_self ..) (hsub _ hm)))⟩
    · exact h.elim
  | put k ob ks =>
    intro h
    simp only [evCmdP, okC] at h ⊢
    split at h
    case h_2 => exact h.elim
    rename_i ho
    try rw [ho]
    have hot := apart_tail ho
    simp only [evCmd] at h ⊢
    split at h
    · rename_i hb
      try rw [hb]
      exact ⟨_, h, put _ ((hx.ren (fun k j h => without_id h) (fun d v hd => AV.ren_id v fun k hk => (hvp d v hd k hk).elim (without_in hot k) (without_small hb))).set _ _) (Far.set (Far.ren (fun k j h => without_id h) (without_in hot) (fun k hk => without_small hb hk) hc) (fun hm => apart_ok ho _ (List.mem_cons_self ..) (hsub _ hm)))⟩
    · exact h.elim
  | upd k o u =>
    intro h
    simp only [evCmdP, okC] at h ⊢
    split at h
    case h_2 => exact h.elim
    rename_i ho
    try rw [ho]
    simp only [evCmd] at h ⊢
    exact ⟨_, h, put _ (hx.set _ _) ((Far.refl rs e s).set (fun hm => apart_ok ho _ (List.mem_cons_self ..) (hsub _ hm)))⟩
  | call f vs =>
    intro h
    simp only [evCmdP] at h ⊢
    unfold evCallP at h ⊢
    cases hdst : dst with
    | none => rw [hdst] at h; exact h.elim
    | some e' =>
      rw [hdst] at h
      obtain ⟨hne, rfl⟩ := hd e' hdst
      simp only at h ⊢
      have ha : argsOf cx f vs t = argsOf cx f vs s := by unfold argsOf; rw [hx.look]
      rw [ha, hx.look] at h
      split at h
      · exact h.elim
      · split at h
        · exact h.elim
        · rename_i hks
          exact callIn_comm hx hne hsub hvp hc id hks h
  | alt => intro h; simp only [evCmdP, okC] at h
  | newNil => intro h; simp only [evCmdP, okC] at h
  | bit => intro h; simp only [evCmdP, okC] at h
  | opens => intro h; simp only [evCmdP, okC] at h
end
end Go.Pm
