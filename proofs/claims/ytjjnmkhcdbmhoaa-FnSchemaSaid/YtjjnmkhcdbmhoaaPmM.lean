/-
A walk of Go's code over values: all operations; regions.
-/
import Derived.Test.YtjjnmkhcdbmhoaaPmLc
import Derived.Orders
namespace Go.Pm
open Go
set_option linter.unusedVariables false
variable {P : Program}

section
variable {cx : Cx} {X0 : Nat → Prop} {J : Nat → Option Place} {st : St} {a : Act} {w : World} {o : Oper} {K : St → Prop} {next : Act → World → Prop} {Q : Exit → Act → World → Prop}

/-- Every operation does what its command says. -/
theorem op_sound (tok : TOk P cx.T) (r : Rel X0 J st a w) (hd : ∀ d, o.dst = some d → d < a.tmps.size) (hn : Leads P X0 J a w K next)
    (hc : evCmd P cx o.dst (opCmd cx.T o st) st K) : o.wp P a w next Q := by
  cases hop : o.op with
  | move x => exact op_move r hd hn (.inl hop) hc
  | assign x => exact op_move r hd hn (.inr hop) hc
  | pick c x y => exact op_pick r hd hn hop hc
  | nilCheck x => exact op_nilCheck r hd hn hop hc
  | extract x i => exact op_extract r hd hn hop hc
  | makeFunc f x y => exact op_makeFunc r hd hn hop hc
  | unOp p t x => exact op_unOp r hd hn hop hc
  | load t x => exact op_load tok r hd hn hop hc
  | field t x f => exact op_field tok r hd hn hop hc
  | fieldAddr t x f => exact op_fieldAddr tok r hd hn hop hc
  | index t x j => exact op_index tok r hd hn hop hc
  | indexAddr t x j => exact op_indexAddr tok r hd hn hop hc
  | slice t x lo hi mx => cases mx with
    | none => exact op_slice tok r hd hn hop hc
    | some m => exact op_sliceNil tok r hd hn hop hc
  | binOp p t x y yt => exact op_binOp tok r hd hn hop hc
  | alloc t => exact op_alloc tok r hd hn hop hc
  | box t x => exact op_box r hd hn hop hc
  | store t x y => exact op_store tok r hd hn hop hc
  | buildSlice t n ps => exact op_buildSlice tok r hd hn hop hc
  | makeSlice t x y => exact op_makeSlice tok r hd hn hop hc
  | convert s d x => exact op_convert r hd hn tok hop hc
  | build t ps => exact op_build r hd hn tok hop hc
  | call c =>
    obtain ⟨callee, args, ts⟩ := c
    cases callee with
    | value f => exact op_call r hd hn hop rfl hc
    | builtin b =>
      have hc' : evCmd P cx o.dst (builtinC cx.T st b ts.toList args.toList) st K := by simp only [opCmd, hop] at hc; exact hc
      cases b with
      | len => exact op_len r hd hn tok hop hc'
      | append => exact op_append r hd hn tok hop hc'
      | min => exact op_min r hd hn hop (.inl rfl) hc'
      | max => exact op_min r hd hn hop (.inr rfl) hc'
      | copy => exact op_copy tok r hd hn hop hc'
      | _ => simp only [builtinC] at hc'; split at hc' <;> simp only [evCmd] at hc'
    | invoke x n => simp only [opCmd, hop, evCmd] at hc
  | _ => simp only [opCmd, hop, evCmd] at hc

theorem rep_undef {X : Nat → Prop} : (AV.tup []).rep w X J undef := by
  simp only [AV.rep]; exact ⟨#[], rfl, by simp [AV.repL]⟩

theorem Step.refl' (J : Nat → Option Place) (w : World) : Step J w J w := Step.refl J w

/-- One operation of a region, with its guard. -/
def evOne (P : Program) (cx : Cx) (all : List Oper) (o : Oper) (K : St → Prop) (st : St) : Prop :=
  match o.guard with
  | none => evCmd P cx o.dst (opCmd cx.T o st) st K
  | some (j, want) => match all[j]? with
    | some oj => match oj.dst with
      | some t => match look t st.env with
        | some (.d (.b x)) => (match want with
          | true => (match x with
            | true => evCmd P cx o.dst (opCmd cx.T o st) st K
            | false => K (st.put o.dst (.tup [])))
          | false => (match x with
            | true => K (st.put o.dst (.tup []))
            | false => evCmd P cx o.dst (opCmd cx.T o st) st K))
        | some (.tup []) => K (st.put o.dst (.tup []))
        | _ => False
      | none => False
    | none => False

theorem one_sound (tok : TOk P cx.T) (r : Rel X0 J st a w) (hd : ∀ d, o.dst = some d → d < a.tmps.size) (hn : Leads P X0 J a w K next) {ops : Array Oper} {i : Nat} (hi : ops[i]? = some o)
    (hc : evOne P cx ops.toList o K st) : wpOp P ops Q i next a w := by
  have hskip : K (st.put o.dst (.tup [])) → next (a.put o.dst undef) w := fun hK =>
    hn _ J _ w hK (r.put hd rep_undef) Act.put_size (Step.refl J w)
  unfold wpOp
  rw [hi]
  simp only
  cases hg : o.guard with
  | none =>
    have : Region.wanted o (yielded ops a.tmps) = true := by simp [Region.wanted, hg]
    rw [if_pos this]
    simp only [evOne, hg] at hc
    exact .inl (op_sound tok r hd hn hc)
  | some gw =>
    obtain ⟨j, want⟩ := gw
    simp only [evOne, hg] at hc
    split at hc
    case h_2 => exact hc.elim
    rename_i oj hoj
    split at hc
    case h_2 => exact hc.elim
    rename_i t ht
    have hj : ops[j]? = some oj := by simpa using hoj
    split at hc
    · rename_i x hx
      obtain ⟨u, hu, hr⟩ := r.env t _ hx
      simp only [AV.rep, D.rep] at hr
      have hy : yielded ops a.tmps j = some x := by simp [yielded, hj, ht, hu, hr.1]
      have hw : Region.wanted o (yielded ops a.tmps) = (x == want) := by simp [Region.wanted, hg, hy]
      rw [hw]
      cases want <;> cases x <;> simp only at hc
      · exact .inl (op_sound tok r hd hn hc)
      · exact hskip hc
      · exact hskip hc
      · exact .inl (op_sound tok r hd hn hc)
    · rename_i hx
      obtain ⟨u, hu, hr⟩ := r.env t _ hx
      simp only [AV.rep, AV.repL] at hr
      obtain ⟨vs, rfl, _⟩ := hr
      have hy : yielded ops a.tmps j = none := by simp [yielded, hj, ht, hu]
      have hw : Region.wanted o (yielded ops a.tmps) = false := by simp [Region.wanted, hg, hy]
      rw [hw]
      exact hskip hc
    · exact hc.elim

/-- The same, of a region whose order is told: arrays are made whole where that is wanted. -/
def evOneX (P : Program) (cx : Cx) (all : List Oper) (o : Oper) (K : St → Prop) (st : St) : Prop :=
  match o.guard with
  | none => evOp P cx o st K
  | some (j, want) => match all[j]? with
    | some oj => match oj.dst with
      | some t => match look t st.env with
        | some (.d (.b x)) => (match want with
          | true => (match x with
            | true => evOp P cx o st K
            | false => K (st.put o.dst (.tup [])))
          | false => (match x with
            | true => K (st.put o.dst (.tup []))
            | false => evOp P cx o st K))
        | some (.tup []) => K (st.put o.dst (.tup []))
        | _ => False
      | none => False
    | none => False
theorem Leads.then {J' : Nat → Option Place} {a' : Act} {w' : World} (hs : a'.tmps.size = a.tmps.size) (s : Step J w J' w') (h : Leads P X0 J a w K next) : Leads P X0 J' a' w' K next :=
  fun st2 J2 a2 w2 hK hr h2 s2 => h st2 J2 a2 w2 hK hr (h2.trans hs) (s.trans s2)
theorem evOp_sound (tok : TOk P cx.T) (r : Rel X0 J st a w) (hd : ∀ d, o.dst = some d → d < a.tmps.size) (hn : Leads P X0 J a w K next) (hc : evOp P cx o st K) : o.wp P a w next Q := by
  unfold evOp at hc
  split at hc
  · exact op_sound tok r hd hn (ev16_to _ _ _ _ hc)
  · split at hc
    · exact op_sound tok r hd hn (ev16_to _ _ _ _ hc)
    · rw [St.force_eq] at hc
      obtain ⟨J', r', s⟩ := shuts_rel (wholeFor o st) r
      exact op_sound tok r' hd (hn.then rfl s) (ev16_to _ _ _ _ hc)
theorem oneX_sound (tok : TOk P cx.T) (r : Rel X0 J st a w) (hd : ∀ d, o.dst = some d → d < a.tmps.size) (hn : Leads P X0 J a w K next) {ops : Array Oper} {i : Nat} (hi : ops[i]? = some o)
    (hc : evOneX P cx ops.toList o K st) : wpOp P ops Q i next a w := by
  have hskip : K (st.put o.dst (.tup [])) → next (a.put o.dst undef) w := fun hK =>
    hn _ J _ w hK (r.put hd rep_undef) Act.put_size (Step.refl J w)
  unfold wpOp
  rw [hi]
  simp only
  cases hg : o.guard with
  | none =>
    have : Region.wanted o (yielded ops a.tmps) = true := by simp [Region.wanted, hg]
    rw [if_pos this]
    simp only [evOneX, hg] at hc
    exact .inl (evOp_sound tok r hd hn hc)
  | some gw =>
    obtain ⟨j, want⟩ := gw
    simp only [evOneX, hg] at hc
    split at hc
    case h_2 => exact hc.elim
    rename_i oj hoj
    split at hc
    case h_2 => exact hc.elim
    rename_i t ht
    have hj : ops[j]? = some oj := by simpa using hoj
    split at hc
    · rename_i x hx
      obtain ⟨u, hu, hr⟩ := r.env t _ hx
      simp only [AV.rep, D.rep] at hr
      have hy : yielded ops a.tmps j = some x := by simp [yielded, hj, ht, hu, hr.1]
      have hw : Region.wanted o (yielded ops a.tmps) = (x == want) := by simp [Region.wanted, hg, hy]
      rw [hw]
      cases want <;> cases x <;> simp only at hc
      · exact .inl (evOp_sound tok r hd hn hc)
      · exact hskip hc
      · exact hskip hc
      · exact .inl (evOp_sound tok r hd hn hc)
    · rename_i hx
      obtain ⟨u, hu, hr⟩ := r.env t _ hx
      simp only [AV.rep, AV.repL] at hr
      obtain ⟨vs, rfl, _⟩ := hr
      have hy : yielded ops a.tmps j = none := by simp [yielded, hj, ht, hu]
      have hw : Region.wanted o (yielded ops a.tmps) = false := by simp [Region.wanted, hg, hy]
      rw [hw]
      exact hskip hc
    · exact hc.elim

theorem evOps_cons {all rest : List Oper} : evOps P cx all K (o :: rest) st = evOneX P cx all o (evOps P cx all K rest) st := by
  cases hg : o.guard with
  | none => simp only [evOps, evOneX, hg]
  | some gw => obtain ⟨j, want⟩ := gw; simp only [evOps, evOneX, hg]; rfl

theorem ops_sound (tok : TOk P cx.T) {ops : Array Oper} {n : Nat} (hdst : ∀ o ∈ ops.toList, ∀ d, o.dst = some d → d < n) :
    ∀ (rest : List Oper) (i : Nat), ops.toList.drop i = rest → ∀ (st : St) (a : Act) (w : World) (J : Nat → Option Place), Rel X0 J st a w → a.tmps.size = n →
      Leads P X0 J a w K (Q .normal) → evOps P cx ops.toList K rest st → wpOps P ops Q (List.range' i rest.length) a w
  | [], i, hi, st, a, w, J, r, hs, hn, hc => by
    simp only [List.length_nil, List.range'_zero, wpOps]
    exact hn st J a w hc r rfl (Step.refl J w)
  | o :: rest, i, hi, st, a, w, J, r, hs, hn, hc => by
    have ho : ops.toList[i]? = some o := by
      have := congrArg (fun l => l[0]?) hi
      simpa [List.getElem?_drop] using this
    have hm : o ∈ ops.toList := List.mem_of_getElem? ho
    have hrest : ops.toList.drop (i + 1) = rest := by
      rw [← List.drop_drop, hi]; rfl
    rw [List.length_cons, List.range'_succ, wpOps_cons]
    rw [evOps_cons] at hc
    refine oneX_sound tok r (fun d hd => hs ▸ hdst o hm d hd) ?_ (by simpa using ho) hc
    intro st' J' a' w' hK hr h1 h2
    exact ops_sound tok hdst rest (i + 1) hrest st' a' w' J' hr (h1.trans hs) (hn.then h1 h2) hK

theorem region_sound (tok : TOk P cx.T) (r : Rel X0 J st a w) {ops : Array Oper} (hdst : ∀ o ∈ ops.toList, ∀ d, o.dst = some d → d < a.tmps.size) {id : Nat}
    (hn : Leads P X0 J a w K (Q .normal)) (hc : evOps P cx ops.toList K ops.toList st) : (Code.region id ops false).wp P Q a w := by
  have := ops_sound tok hdst ops.toList 0 rfl st a w J r rfl hn hc
  refine wp_region ?_
  rw [List.range_eq_range']
  simpa using this

/-! ### Regions whose order is drawn -/
/-- What may come next, as a list that the kernel can reckon. -/
def edgeOk (done : List Nat) : List Edge → Bool
  | [] => true
  | e :: r => match Region.binds .any e with
    | false => edgeOk done r
    | true => match has e.on done with | true => edgeOk done r | false => false
def readyL (done : List Nat) : Nat → List Oper → List Nat
  | _, [] => []
  | i, o :: r => match has i done with
    | true => readyL done (i + 1) r
    | false => match edgeOk done o.after.toList with | true => i :: readyL done (i + 1) r | false => readyL done (i + 1) r
structure Both (a b : Prop) : Prop where
  one : a
  two : b
def evAll (f : Nat → Prop) : List Nat → Prop
  | [] => True
  | i :: is => match is with | [] => f i | _ :: _ => Both (f i) (evAll f is)
/-- Every order. -/
def evAny (P : Program) (cx : Cx) (all : List Oper) (K : St → Prop) : Nat → List Nat → St → Prop
  | 0, done, st => match readyL done 0 all with | [] => K st | _ :: _ => False
  | n + 1, done, st => match readyL done 0 all with
    | [] => K st
    | i :: is => evAll (fun i => match all[i]? with | some o => evOne P cx all o (evAny P cx all K n (i :: done)) st | none => False) (i :: is)

theorem evAll_ok {f : Nat → Prop} : ∀ {l : List Nat}, evAll f l → ∀ i, i ∈ l → f i
  | [], _, i, h => by cases h
  | [j], hf, i, h => by rw [List.mem_singleton.1 h]; exact hf
  | j :: k :: l, hf, i, h => by
    have hf' : Both (f j) (evAll f (k :: l)) := hf
    rcases List.mem_cons.1 h with rfl | h
    · exact hf'.one
    · exact evAll_ok hf'.two i h

theorem edgeOk_iff {done : List Nat} : ∀ {l : List Edge}, edgeOk done l = true ↔ ∀ e, e ∈ l → Region.binds .any e = true → has e.on done = true
  | [] => by simp [edgeOk]
  | e :: l => by
    simp only [edgeOk]
    cases hb : Region.binds .any e with
    | false =>
      simp only
      rw [edgeOk_iff]
      constructor
      · intro h x hx hxb
        rcases List.mem_cons.1 hx with rfl | hx
        · rw [hb] at hxb; cases hxb
        · exact h x hx hxb
      · exact fun h x hx => h x (List.mem_cons_of_mem _ hx)
    | true =>
      simp only
      cases hd : has e.on done with
      | false => simp only [Bool.false_eq_true, false_iff]; intro h; rw [h e (List.mem_cons_self ..) hb] at hd; cases hd
      | true =>
        simp only
        rw [edgeOk_iff]
        constructor
        · intro h x hx hxb
          rcases List.mem_cons.1 hx with rfl | hx
          · exact hd
          · exact h x hx hxb
        · exact fun h x hx => h x (List.mem_cons_of_mem _ hx)

theorem mem_readyL {done : List Nat} {i : Nat} : ∀ {l : List Oper} {j : Nat}, i ∈ readyL done j l ↔ ∃ m o, i = j + m ∧ l[m]? = some o ∧ has i done = false ∧ edgeOk done o.after.toList = true
  | [], j => by simp [readyL]
  | o :: l, j => by
    have key : i ∈ readyL done j (o :: l) ↔ (i = j ∧ has i done = false ∧ edgeOk done o.after.toList = true) ∨ i ∈ readyL done (j + 1) l := by
      simp only [readyL]
      cases hd : has j done with
      | true => simp only; constructor
                · exact .inr
                · rintro (⟨rfl, h, _⟩ | h)
                  · rw [hd] at h; cases h
                  · exact h
      | false =>
        simp only
        cases he : edgeOk done o.after.toList with
        | true =>
          simp only [List.mem_cons]
          constructor
          · rintro (rfl | h)
            · exact .inl ⟨rfl, hd, trivial⟩
            · exact .inr h
          · rintro (⟨rfl, _, _⟩ | h)
            · exact .inl rfl
            · exact .inr h
        | false =>
          simp only
          constructor
          · exact .inr
          · rintro (⟨_, _, h⟩ | h)
            · cases h
            · exact h
    rw [key, mem_readyL]
    constructor
    · rintro (⟨h1, h2, h3⟩ | ⟨m, o', h1, h2, h3, h4⟩)
      · exact ⟨0, o, by omega, rfl, h2, h3⟩
      · exact ⟨m + 1, o', by omega, by simpa using h2, h3, h4⟩
    · rintro ⟨m, o', h1, h2, h3, h4⟩
      cases m with
      | zero => simp at h2; subst h2; exact .inl ⟨by omega, h3, h4⟩
      | succ m => exact .inr ⟨m, o', by omega, by simpa using h2, h3, h4⟩

/-- The two books of what has been done. -/
structure Booked (ops : Array Oper) (listed : Array Bool) (done : List Nat) : Prop where
  size : listed.size = ops.size
  get : ∀ k, listed.getD k false = has k done

theorem Booked.set {ops : Array Oper} {listed : Array Bool} {done : List Nat} (h : Booked ops listed done) {i : Nat} (hi : i < ops.size) : Booked ops (listed.setIfInBounds i true) (i :: done) := by
  refine ⟨by simp [h.size], fun k => ?_⟩
  simp only [has]
  by_cases e : i = k
  · subst e
    have : i < listed.size := by rw [h.size]; exact hi
    simp [this]
  · have hb : Nat.beq i k = false := Bool.eq_false_iff.2 fun hh => e (Nat.eq_of_beq_eq_true hh)
    rw [getD_set_ne false e, hb]; exact h.get k
theorem Booked.start (ops : Array Oper) : Booked ops (Array.replicate ops.size false) [] := by
  refine ⟨by simp, fun k => ?_⟩
  rw [Array.getD_eq_getD_getElem?, Array.getElem?_replicate]
  split <;> rfl
theorem Booked.ready {ops : Array Oper} {listed : Array Bool} {done : List Nat} (h : Booked ops listed done) (i : Nat) : i ∈ Region.ready .any ops listed ↔ i ∈ readyL done 0 ops.toList := by
  rw [mem_ready, mem_readyL]
  have hg : i < ops.size → listed.getD i true = has i done := by
    intro hi
    rw [← h.get i]
    have : i < listed.size := by rw [h.size]; exact hi
    simp [this]
  constructor
  · rintro ⟨h1, o, ho, h2⟩
    have hi : i < ops.size := (Array.getElem?_eq_some_iff.1 ho).1
    refine ⟨i, o, by omega, by simpa using ho, by rw [← hg hi]; exact h1, edgeOk_iff.2 fun e he hb => ?_⟩
    rw [← h.get]
    exact h2 e (Array.mem_toList_iff.1 he) hb
  · rintro ⟨m, o, hm, ho, h1, h2⟩
    have hm : m = i := by omega
    subst hm
    have ho' : ops[m]? = some o := by simpa using ho
    have hi : m < ops.size := (Array.getElem?_eq_some_iff.1 ho').1
    refine ⟨by rw [hg hi]; exact h1, o, ho', fun e he hb => ?_⟩
    rw [h.get]
    exact edgeOk_iff.1 h2 e (Array.mem_toList_iff.2 he) hb

theorem any_sound (tok : TOk P cx.T) {ops : Array Oper} {n : Nat} (hdst : ∀ o ∈ ops.toList, ∀ d, o.dst = some d → d < n) :
    ∀ (fuel : Nat) (listed : Array Bool) (done : List Nat), Booked ops listed done → ∀ (st : St) (a : Act) (w : World) (J : Nat → Option Place), Rel X0 J st a w → a.tmps.size = n →
      Leads P X0 J a w K (Q .normal) → evAny P cx ops.toList K fuel done st → wpAny P .any ops Q fuel listed a w
  | 0, listed, done, hb, st, a, w, J, r, hs, hn, hc => by
    simp only [evAny] at hc
    split at hc
    · rename_i hr
      refine ⟨?_, hn st J a w hc r rfl (Step.refl J w)⟩
      cases hrr : Region.ready .any ops listed with
      | nil => rfl
      | cons i is =>
        have := (hb.ready i).1 (by rw [hrr]; exact List.mem_cons_self ..)
        rw [hr] at this; cases this
    · exact hc.elim
  | fuel + 1, listed, done, hb, st, a, w, J, r, hs, hn, hc => by
    simp only [evAny] at hc
    split at hc
    · rename_i hr
      refine ⟨fun _ => hn st J a w hc r rfl (Step.refl J w), fun i hi => ?_⟩
      have := (hb.ready i).1 hi
      rw [hr] at this; cases this
    · rename_i i0 is hr
      have hne : i0 ∈ Region.ready .any ops listed := (hb.ready i0).2 (by rw [hr]; exact List.mem_cons_self ..)
      refine ⟨fun h => (by rw [h] at hne; cases hne), fun i hi => ?_⟩
      have hi' := (hb.ready i).1 hi
      rw [hr] at hi'
      have hci := evAll_ok hc i hi'
      split at hci
      · rename_i o ho
        have ho' : ops[i]? = some o := by simpa using ho
        have hm : o ∈ ops.toList := List.mem_of_getElem? ho
        refine one_sound tok r (fun d hd => hs ▸ hdst o hm d hd) ?_ ho' hci
        intro st' J' a' w' hK hr h1 h2
        exact any_sound tok hdst fuel _ _ (hb.set (Array.getElem?_eq_some_iff.1 ho').1) st' a' w' J' hr (h1.trans hs) (hn.then h1 h2) hK
      · exact hci.elim

theorem Step.drawn {J : Nat → Option Place} {w : World} {n : Nat} : Step J w J { w with drawn := n } := (Same.drawn w n).step J

theorem draw_sound (tok : TOk P cx.T) (hm : P.follows .mixedOrders = true) (r : Rel X0 J st a w) {ops : Array Oper} (hdst : ∀ o ∈ ops.toList, ∀ d, o.dst = some d → d < a.tmps.size) {id : Nat}
    (hn : Leads P X0 J a w K (Q .normal)) (hc : evAny P cx ops.toList K ops.size [] st) : (Code.region id ops true).wp P Q a w :=
  wp_region_any hm (any_sound tok hdst ops.size _ [] (Booked.start ops) st a _ J (r.same (Same.drawn w _)) rfl (hn.then rfl Step.drawn) hc)
end
end Go.Pm
