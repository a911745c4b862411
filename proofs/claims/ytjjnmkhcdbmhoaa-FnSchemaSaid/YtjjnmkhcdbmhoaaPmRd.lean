/-
A walk of Go's code over values: drawn orders, one road for all.
-/
import Derived.Test.YtjjnmkhcdbmhoaaPmRc
namespace Go.Pm
open Go
set_option linter.unusedVariables false
variable {P : Program}

def GivesC : Cmd → AV → Prop
  | .val u, v => u = v
  | .need p c, v => p ∧ GivesC c v
  | .get xs i f, v => ∃ x, xs[i]? = some x ∧ GivesC (f x) v
  | .str xs, v => ∃ l, xs = u8s l ∧ v = .d (.s l)
  | _, _ => False
def Gives (cx : Cx) (all : List Oper) (o : Oper) (s : St) (v : AV) : Prop :=
  (gate all o s = some true ∧ GivesC (opCmd cx.T o s) v) ∨ (gate all o s = some false ∧ v = .tup [])
def evV : Cmd → (AV → Prop) → Prop
  | .val u, K => K u
  | .need p c, K => p ∧ evV c K
  | .get xs i f, K => ∃ x, xs[i]? = some x ∧ evV (f x) K
  | .str xs, K => ∃ l, xs = u8s l ∧ K (.d (.s l))
  | _, _ => False

section
variable {cx : Cx} {all : List Oper} {K K' : St → Prop}

theorem evV_gives {K : AV → Prop} : ∀ {c : Cmd}, evV c K → ∃ v, GivesC c v ∧ K v := by
  intro c
  induction c with
  | val u => exact fun h => ⟨u, rfl, h⟩
  | need p c ih => exact fun ⟨hp, h⟩ => let ⟨v, h1, h2⟩ := ih h; ⟨v, ⟨hp, h1⟩, h2⟩
  | get xs i f ih => exact fun ⟨x, hx, h⟩ => let ⟨v, h1, h2⟩ := ih x h; ⟨v, ⟨x, hx, h1⟩, h2⟩
  | str xs => exact fun ⟨l, hl, h⟩ => ⟨_, ⟨l, hl, rfl⟩, h⟩
  | _ => exact fun h => h.elim
theorem givesC_ev {v : AV} {prot : List Nat} {dst : Option Nat} {st : St} (hK : K (st.put dst v)) : ∀ {c : Cmd}, GivesC c v → evCmdP P cx prot dst c st K := by
  intro c
  induction c with
  | val u => intro h; simp only [GivesC] at h; subst h; simp only [evCmdP, okC, evCmd]; exact hK
  | need p c ih => exact fun ⟨hp, h⟩ => ⟨hp, ih h⟩
  | get xs i f ih => exact fun ⟨x, hx, h⟩ => ⟨x, hx, ih x h⟩
  | str xs => intro ⟨l, hl, h⟩; subst h; simp only [evCmdP, okC, evCmd]; exact ⟨l, hl, hK⟩
  | _ => exact fun h => h.elim
theorem gives_one {v : AV} {prot : List Nat} {o : Oper} {s : St} (h : Gives cx all o s v) (hK : K (s.put o.dst v)) : evOneP P cx prot all o K s := by
  unfold evOneP
  rcases h with ⟨hg, h⟩ | ⟨hg, rfl⟩
  · rw [hg]; exact givesC_ev hK h
  · rw [hg]; exact hK
/-- Does the operation hand on what it reads? -/
def isMove : Op → Bool
  | .move _ => true
  | _ => false
theorem gives_far {v : AV} {o : Oper} {s s' : St} {rs : List Nat} {e : Nat} (hv : valOp o.op = true) (hf : Far rs e s s') (he : e ∉ slotsOf all o)
    (hr : ∀ k, k ∈ slotsOf all o → ∀ u, look k s.env = some u → ∀ j, j ∈ u.refs → j ∈ rs ∨ (isMove o.op = true ∧ j < 10000)) (h : Gives cx all o s v) :
    Gives cx all o s' v ∧ ∀ k, k ∈ slotsOf all o → ∀ u, look k s'.env = some u → ∀ j, j ∈ u.refs → j ∈ rs ∨ (isMove o.op = true ∧ j < 10000) := by
  have hl : ∀ k, k ∈ slotsOf all o → look k s'.env = look k s.env := fun k hk => hf.env k (by rintro rfl; exact he hk) (fun u hu j hj => (hr k hk u hu j hj).imp id (·.2))
  have hcmd : opCmd cx.T o s' = opCmd cx.T o s := by
    cases hmv : isMove o.op with
    | true =>
      obtain ⟨x, hx⟩ : ∃ x, o.op = .move x := by
        cases ho : o.op <;> rw [ho] at hmv <;> first | exact ⟨_, rfl⟩ | cases hmv
      have hev := ev_slots hl x (by rw [hx]; simp [Op.operands])
      simp only [opCmd, hx, hev]
    | false =>
    have hr : ∀ k, k ∈ slotsOf all o → ∀ u, look k s.env = some u → ∀ j, j ∈ u.refs → j ∈ rs := fun k hk u hu j hj => (hr k hk u hu j hj).elim id (fun h => by rw [hmv] at h; cases h.1)
    refine opCmd_far hv (ev_slots hl) ?_
    intro x hx u hu k hk
    cases x with
    | tmp t =>
      have hts : t ∈ slotsOf all o := List.mem_append_right _ (tmpsOf_mem hx)
      have : look t s'.env = some u := hu
      rw [hl t hts] at this
      exact hf.obj k (hr t hts u this k hk)
    | const c =>
      have hc : ofConst c = some u := hu
      unfold ofConst at hc
      split at hc <;> first | (cases hc; simp [AV.refs] at hk; done) | cases hc
    | func f => cases hu; simp [AV.refs, refsL] at hk
    | global g => cases hu
  refine ⟨?_, fun k hk u hu => hr k hk u (by rw [← hl k hk]; exact hu)⟩
  unfold Gives at h ⊢
  rw [gate_congr hl, hcmd]
  exact h

theorem edgeOk_congr {done done' : List Nat} (h : ∀ k, has k done = has k done') : ∀ {l : List Edge}, edgeOk done l = edgeOk done' l
  | [] => rfl
  | e :: l => by simp only [edgeOk]; rw [h, edgeOk_congr h]
theorem readyL_congr {done done' : List Nat} (h : ∀ k, has k done = has k done') : ∀ {l : List Oper} {i : Nat}, readyL done i l = readyL done' i l
  | [], _ => rfl
  | o :: l, i => by simp only [readyL]; rw [h, edgeOk_congr h, readyL_congr h]
theorem has_cons (k j : Nat) (l : List Nat) : has k (j :: l) = (Nat.beq j k || has k l) := by
  simp only [has]; cases Nat.beq j k <;> rfl
theorem evAnyP_done : ∀ {n : Nat} {prot : List (Nat × List Nat)} {done done' : List Nat} {st : St}, (∀ k, has k done = has k done') → evAnyP P cx all K n prot done st → evAnyP P cx all K n prot done' st
  | 0, prot, done, done', st, h, hh => by simp only [evAnyP] at hh ⊢; rw [← readyL_congr h]; exact hh
  | n + 1, prot, done, done', st, h, hh => by
    simp only [evAnyP] at hh ⊢
    rw [← readyL_congr h]
    split at hh
    · exact hh
    · refine evAll_intro fun i hi => ?_
      have := evAll_ok hh i hi
      split at this
      · exact evOneP_mono (fun s hs => evAnyP_done (fun k => by rw [has_cons, has_cons, h]) hs) this
      · exact this
theorem Ext.refl (s : St) : Ext none s s := ⟨fun _ => rfl, fun _ => rfl⟩

theorem evAnyP_eqv (hKe : ∀ s t, Ext none s t → K t → K s) : ∀ {n : Nat} {prot prot' : List (Nat × List Nat)} {done : List Nat} {s t : St}, Ext none s t → (∀ o k, k ∈ protFor all o prot' → k ∈ protFor all o prot) →
    evAnyP P cx all K n prot done t → evAnyP P cx all K n prot' done s
  | 0, prot, prot', done, s, t, hx, _, h => by
    simp only [evAnyP] at h ⊢
    split at h
    · exact hKe s t hx h
    · exact h.elim
  | n + 1, prot, prot', done, s, t, hx, hp, h => by
    simp only [evAnyP] at h ⊢
    split at h
    · exact hKe s t hx h
    · refine evAll_intro fun i hi => ?_
      have := evAll_ok h i hi
      split at this
      · rename_i o ho
        have h2 := oneP_comm (x := none) (e := o.dst.getD 0) (rs := []) hx (by simp) (by simp) (by simp) (fun e' he => ⟨by simp, by rw [he]; rfl⟩) (by simp) this
        exact evOneP_mono (fun s' ⟨t', h3, h4, _⟩ => evAnyP_eqv hKe h4 hp h3) (evOneP_less (hp o) h2)
      · exact this

theorem protFor_cons {o : Oper} {i : Nat} {rs : List Nat} {prot : List (Nat × List Nat)} : ∀ k, k ∈ protFor all o prot → k ∈ protFor all o ((i, rs) :: prot) := by
  intro k hk
  simp only [protFor]
  split
  · exact hk
  · exact List.mem_append_right _ hk
theorem edgeFrom_ready {i : Nat} {done : List Nat} : ∀ {l : List Edge}, has i done = false → edgeOk done l = true → edgeFrom i l = false
  | [], _, _ => rfl
  | e :: l, hi, h => by
    simp only [edgeOk] at h
    simp only [edgeFrom]
    cases hb : Region.binds .any e with
    | false => rw [hb] at h; exact edgeFrom_ready hi h
    | true =>
      rw [hb] at h
      simp only at h ⊢
      cases hd : has e.on done with
      | false => rw [hd] at h; cases h
      | true =>
        rw [hd] at h
        have : Nat.beq e.on i = false := Bool.eq_false_iff.2 fun hh => by
          have := Nat.eq_of_beq_eq_true hh
          rw [this, hi] at hd; cases hd
        rw [this]
        exact edgeFrom_ready hi h

/-- What is done stands behind what is done. -/
def closedD (all : List Oper) (done : List Nat) : Prop := ∀ p op, has p done = true → all[p]? = some op → edgeOk done op.after.toList = true
theorem closedD_cons {done : List Nat} {j : Nat} {o : Oper} (h : closedD all done) (hj : all[j]? = some o) (he : edgeOk done o.after.toList = true) : closedD all (j :: done) := by
  have up : ∀ l : List Edge, edgeOk done l = true → edgeOk (j :: done) l = true := fun l hl => edgeOk_iff.2 fun e hm hb => by
    rw [has_cons, edgeOk_iff.1 hl e hm hb, Bool.or_true]
  intro p op hp hop
  rw [has_cons] at hp
  cases hb : Nat.beq j p with
  | true => cases Nat.eq_of_beq_eq_true hb; rw [hj] at hop; cases hop; exact up _ he
  | false => rw [hb, Bool.false_or] at hp; exact up _ (h p op hp hop)
theorem farL_ready {rec : Oper → Bool} {done : List Nat} (hr : ∀ p op, has p done = true → all[p]? = some op → rec op = false) : ∀ {l : List Edge}, edgeOk done l = true → farL rec all l = false
  | [], _ => rfl
  | e :: l, h => by
    have hl : edgeOk done l = true := edgeOk_iff.2 fun e' he hb => edgeOk_iff.1 h e' (List.mem_cons_of_mem _ he) hb
    simp only [farL]
    cases hd : dataEdge e with
    | false => exact farL_ready hr hl
    | true =>
      have hb : Region.binds .any e = true := by
        unfold dataEdge at hd
        unfold Region.binds
        split at hd
        · rename_i hg; rw [hg]
        · cases hd
      have hon := edgeOk_iff.1 h e (List.mem_cons_self ..) hb
      cases ho : all[e.on]? with
      | none => exact farL_ready hr hl
      | some op =>
        simp only
        rw [hr e.on op hon ho]
        exact farL_ready hr hl
theorem far_ready {done : List Nat} {i : Nat} (hc : closedD all done) (hi : has i done = false) : ∀ (n : Nat) {o : Oper}, edgeOk done o.after.toList = true → far all i n o = false
  | 0, o, h => edgeFrom_ready hi h
  | n + 1, o, h => by
    simp only [far]
    rw [edgeFrom_ready hi h]
    exact farL_ready (fun p op hp hop => far_ready hc hi n (hc p op hp hop)) h

/-- What is only read may be read first. -/
theorem take_first (hKe : ∀ s t, Ext none s t → K t → K s) {i d : Nat} {oi : Oper} {v : AV} {rs : List Nat} (hoi : all[i]? = some oi) (hdi : oi.dst = some d) (hval : valOp oi.op = true) (hvr : ∀ k, k ∈ v.refs → k ∈ rs ∨ k < 10000) :
    ∀ (n : Nat) (s t : St) (done : List Nat) (prot : List (Nat × List Nat)), closedD all done → Ext (some (d, v)) s t → Gives cx all oi s v →
      (∀ k, k ∈ slotsOf all oi → ∀ u, look k s.env = some u → ∀ j, j ∈ u.refs → j ∈ rs ∨ (isMove oi.op = true ∧ j < 10000)) → (∀ k, k ∈ rs → ∃ o, look k s.obj = some o ∧ ∀ j, j ∈ o.refs → j ∈ rs) →
      i ∈ readyL done 0 all →
      (∀ (j : Nat) (oj : Oper), all[j]? = some oj → j ≠ i → has j done = false → edgeFrom i oj.after.toList = false → d ∉ slotsOf all oj ∧ ∀ e, oj.dst = some e → d ≠ e ∧ e ∉ slotsOf all oi) →
      evAnyP P cx all K n ((i, rs) :: prot) (i :: done) t → evAnyP P cx all K (n + 1) prot done s := by
  intro n
  induction n with
  | zero =>
    intro s t done prot hcd hx hg hr hc hi hfree h
    have h0 := h
    simp only [evAnyP] at h
    split at h
    case h_2 => exact h.elim
    rename_i hempty
    simp only [evAnyP]
    split
    · rename_i hnil; rw [hnil] at hi; cases hi
    · rename_i i0 is hcons
      refine evAll_intro fun j hj => ?_
      rw [← hcons] at hj
      by_cases hji : j = i
      · subst hji
        rw [hoi]
        refine gives_one hg ?_
        rw [hdi]
        have : Ext none (s.put (some d) v) t := ⟨fun k => by rw [St.put_look, hx.env]; rfl, hx.obj⟩
        try simp only [evAnyP]
        rw [hempty]
        exact hKe _ _ this h
      · obtain ⟨m, oj, hm, hoj, hnd, hedge⟩ := mem_readyL.1 hj
        have : j ∈ readyL (i :: done) 0 all := mem_readyL.2 ⟨m, oj, hm, hoj, by
          rw [has_cons, hnd, Bool.or_false]
          exact Bool.eq_false_iff.2 fun e => hji (Nat.eq_of_beq_eq_true e).symm, edgeOk_iff.2 fun e he hb => by
            rw [has_cons, edgeOk_iff.1 hedge e he hb, Bool.or_true]⟩
        rw [hempty] at this; cases this
  | succ n ih =>
    intro s t done prot hcd hx hg hr hc hi hfree h
    rw [evAnyP]
    split
    · rename_i hnil; rw [hnil] at hi; cases hi
    · rename_i i0 is hcons
      refine evAll_intro fun j hj => ?_
      rw [← hcons] at hj
      obtain ⟨mi, oi', hmi, hoi', hind, hiedge⟩ := mem_readyL.1 hi
      by_cases hji : j = i
      · subst hji
        rw [hoi]
        refine gives_one hg ?_
        rw [hdi]
        have : Ext none (s.put (some d) v) t := ⟨fun k => by rw [St.put_look, hx.env]; rfl, hx.obj⟩
        exact evAnyP_eqv hKe this (fun o k hk => protFor_cons k hk) h
      · obtain ⟨m, oj, hm, hoj, hnd, hedge⟩ := mem_readyL.1 hj
        have hm0 : m = j := by omega
        subst hm0
        rw [hoj]
        have hjr : m ∈ readyL (i :: done) 0 all := mem_readyL.2 ⟨m, oj, hm, hoj, by
          rw [has_cons, hnd, Bool.or_false]
          exact Bool.eq_false_iff.2 fun e => hji (Nat.eq_of_beq_eq_true e).symm, edgeOk_iff.2 fun e he hb => by
            rw [has_cons, edgeOk_iff.1 hedge e he hb, Bool.or_true]⟩
        have hnoedge := edgeFrom_ready hind hedge
        obtain ⟨hds, hdj⟩ := hfree m oj hoj hji hnd hnoedge
        rw [evAnyP] at h
        split at h
        · rename_i hnil; rw [hnil] at hjr; cases hjr
        · rename_i i1 is1 hcons1
          rw [← hcons1] at h
          have h1 := evAll_ok h m hjr
          rw [hoj] at h1
          simp only at h1
          have hrsub : ∀ k, k ∈ rs → k ∈ protFor all oj ((i, rs) :: prot) := by
            intro k hk
            simp only [protFor, far_ready hcd hind 6 hedge]
            exact List.mem_append_left _ hk
          have h2 := oneP_comm (x := some (d, v)) (e := oj.dst.getD (d + 1 + (slotsOf all oi).sum)) (rs := rs) hx hrsub (fun d' v' hdv => by cases hdv; exact hvr) hc
            (fun e' he => ⟨fun d' v' hdv => by cases hdv; exact (hdj e' he).1, by rw [he]; rfl⟩) (fun d' v' hdv => by cases hdv; exact hds) h1
          refine evOneP_mono ?_ (evOneP_less (fun k hk => protFor_cons k hk) h2)
          rintro s' ⟨t', h3, h4, h5⟩
          have hnot : oj.dst.getD (d + 1 + (slotsOf all oi).sum) ∉ slotsOf all oi := by
            cases hdst : oj.dst with
            | some e => exact (hdj e hdst).2
            | none =>
              intro hmem
              have : ∀ (l : List Nat) (x : Nat), x ∈ l → x ≤ l.sum := by
                intro l
                induction l with
                | nil => intro x hx; cases hx
                | cons y l ih2 =>
                  intro x hx
                  rcases List.mem_cons.1 hx with rfl | hx
                  · simp
                  · have := ih2 x hx; simp only [List.sum_cons]; omega
              have := this _ _ hmem
              simp only [Option.getD_none] at this
              omega
          obtain ⟨g1, g2⟩ := gives_far hval h5 hnot hr hg
          refine ih s' t' (m :: done) prot (closedD_cons hcd hoj hedge) h4 g1 g2 (fun k hk => by rw [h5.obj k hk]; exact hc k hk) ?_ ?_ ?_
          · exact mem_readyL.2 ⟨mi, oi', hmi, hoi', by
              rw [has_cons, hind, Bool.or_false]
              exact Bool.eq_false_iff.2 fun e => hji (Nat.eq_of_beq_eq_true e), edgeOk_iff.2 fun e he hb => by
                rw [has_cons, edgeOk_iff.1 hiedge e he hb, Bool.or_true]⟩
          · intro j' oj' ho' hne hd' hed
            refine hfree j' oj' ho' hne ?_ hed
            rw [has_cons] at hd'
            cases hh : has j' done with
            | true => rw [hh, Bool.or_true] at hd'; cases hd'
            | false => rfl
          · exact evAnyP_done (fun k => by rw [has_cons, has_cons, has_cons, has_cons, ← Bool.or_assoc, ← Bool.or_assoc, Bool.or_comm (Nat.beq m k)]) h3
end
end Go.Pm
