/-
A walk of Go's code over values: a function.
-/
import Derived.Test.YtjjnmkhcdbmhoaaPmN
namespace Go.Pm
open Go
set_option linter.unusedVariables false
variable {P : Program}

def initEnv : Nat → List AV → List (Nat × AV)
  | _, [] => []
  | i, v :: r => (i, v) :: initEnv (i + 1) r
def initObj : Nat → List Ob → List (Nat × Ob)
  | _, [] => []
  | i, v :: r => (i, v) :: initObj (i + 1) r
def upTo : Nat → Nat → List Nat
  | _, 0 => []
  | i, n + 1 => i :: upTo (i + 1) n

def cellVal (T : List TD) (st : St) (t ty : Nat) : Option AV :=
  match look t st.env with
  | some (.ptr k off) => match look k st.obj with
    | some (.var cells) => match drop off cells with
      | some l => match T[ty]? with
        | some i => match loadAs i l with | .val v => some v | _ => none
        | none => none
      | none => none
    | _ => none
  | _ => none
def outs (T : List TD) (st : St) : List ResultVar → Option (List AV)
  | [] => some []
  | .tmp t :: r => match look t st.env with
    | some v => match outs T st r with | some l => some (v :: l) | none => none
    | none => none
  | .cell t ty :: r => match cellVal T st t ty with
    | some v => match outs T st r with | some l => some (v :: l) | none => none
    | none => none
def outside : List (Nat × Ob) → List Nat → List Nat
  | [], _ => []
  | (k, _) :: r, nm => match has k nm with | true => outside r nm | false => k :: outside r nm
def tidy (σ : Nat → Option Ob) (v : AV) : AV := match v.show σ with | some (x, []) => .d x | _ => v
def tidyL (σ : Nat → Option Ob) : List AV → List AV
  | [] => []
  | v :: r => tidy σ v :: tidyL σ r
def finR : List AV → AV
  | [v] => v
  | l => .tup l
def bigOf : List Nat → List Nat
  | [] => []
  | k :: r => match Nat.ble 10000 k with | true => k :: bigOf r | false => bigOf r
def keptOf (T : List TD) (results : List ResultVar) (keep : Bool) (st : St) : List Nat := match keep with
  | false => []
  | true => match outs T st results with | some vs => bigOf (reachN (look · st.obj) 50 (refsL vs) []) | none => []

/-- What a function hands back. -/
def fin (T : List TD) (results : List ResultVar) (n : Nat) (keep : Bool) (st : St) (post : AV → List Ob → Prop) : Prop :=
  forceN (upTo 0 n ++ keptOf T results keep st) fun nm => match nodup nm with
    | false => False
    | true => match outs T st results with
      | none => False
      | some vs => forceN (outside st.obj nm) fun bs => (st.frz bs).force fun s => match pickObs (look · s.obj) (idx · nm 0) nm with
        | none => False
        | some O => (finR (renL (idx · nm 0) (tidyL (look · s.obj) (frzL (look · st.obj) bs vs)))).force fun R => post R O

def objKeys : List (Nat × Ob) → List Nat
  | [] => []
  | (k, _) :: r => k :: objKeys r
/-- The state at the end: arrays whole, nil slices named as nm says. -/
def atEnd (nm : List KO) (s : St) (K : St → Prop) : Prop :=
  match anyOpn s.obj with
  | false => match nm with
    | [] => K s
    | _ => (s.norm nm).force K
  | true => ((s.shuts (objKeys s.obj)).norm nm).force K
def evFn (P : Program) (cx : Cx) (fn : Func) (keep : Bool) (nm : List KO) (args : List AV) (objs : List Ob) (post : AV → List Ob → Prop) : Prop :=
  match fn.body with
  | none => False
  | some c => match codeOk fn.ntmps c && Nat.ble args.length fn.ntmps && Nat.ble objs.length 10000 with
    | false => False
    | true => evk P cx c (fun e s => match e with
        | .exit _ => False
        | .normal => atEnd nm s fun s => fin cx.T fn.results.toList objs.length keep s post
        | .ret => atEnd nm s fun s => fin cx.T fn.results.toList objs.length keep s post)
        ⟨initEnv 0 args, initObj 0 objs⟩

theorem AV.repL_get {w : World} {X : Nat → Prop} {J : Nat → Option Place} : ∀ {xs : List AV} {us : List Value} {i : Nat} {v : AV}, AV.repL w X J xs us → xs[i]? = some v → ∃ u, us[i]? = some u ∧ v.rep w X J u
  | [], us, i, v, _, h => by simp at h
  | x :: xs, us, i, v, hr, h => by
    simp only [AV.repL] at hr
    obtain ⟨u, us', rfl, h1, h2⟩ := hr
    cases i with
    | zero => simp at h; subst h; exact ⟨u, rfl, h1⟩
    | succ i =>
      obtain ⟨u2, g1, g2⟩ := AV.repL_get (i := i) h2 (by simpa using h)
      exact ⟨u2, by simpa using g1, g2⟩
theorem AV.repL_len {w : World} {X : Nat → Prop} {J : Nat → Option Place} : ∀ {xs : List AV} {us : List Value}, AV.repL w X J xs us → us.length = xs.length
  | [], us, hr => by simp only [AV.repL] at hr; subst hr; rfl
  | x :: xs, us, hr => by
    simp only [AV.repL] at hr
    obtain ⟨u, us', rfl, h1, h2⟩ := hr
    simp [AV.repL_len h2]
theorem look_initEnv : ∀ {l : List AV} {i t : Nat}, look t (initEnv i l) = if i ≤ t then l[t - i]? else none
  | [], i, t => by simp [initEnv, look_nil]
  | v :: l, i, t => by
    simp only [initEnv, look_cons, look_initEnv]
    by_cases e : i = t
    · subst e; simp
    · rw [if_neg e]
      by_cases h : i ≤ t
      · rw [if_pos h, if_pos (by omega), show t - i = (t - (i + 1)) + 1 by omega, List.getElem?_cons_succ]
      · rw [if_neg h, if_neg (by omega)]
theorem look_initObj : ∀ {l : List Ob} {i t : Nat}, look t (initObj i l) = if i ≤ t then l[t - i]? else none
  | [], i, t => by simp [initObj, look_nil]
  | v :: l, i, t => by
    simp only [initObj, look_cons, look_initObj]
    by_cases e : i = t
    · subst e; simp
    · rw [if_neg e]
      by_cases h : i ≤ t
      · rw [if_pos h, if_pos (by omega), show t - i = (t - (i + 1)) + 1 by omega, List.getElem?_cons_succ]
      · rw [if_neg h, if_neg (by omega)]
theorem upTo_get : ∀ {n i j : Nat} {l : List Nat}, j < n → (upTo i n ++ l)[j]? = some (i + j)
  | 0, i, j, l, h => by omega
  | n + 1, i, j, l, h => by
    simp only [upTo, List.cons_append]
    cases j with
    | zero => rfl
    | succ j => rw [List.getElem?_cons_succ, upTo_get (by omega)]; congr 1; omega
theorem outside_ok {nm : List Nat} : ∀ {l : List (Nat × Ob)}, ∀ k, k ∈ outside l nm → k ∉ nm
  | [], k, h => by cases h
  | (j, o) :: l, k, h => by
    simp only [outside] at h
    cases hj : has j nm with
    | true => rw [hj] at h; exact outside_ok k h
    | false =>
      rw [hj] at h
      rcases List.mem_cons.1 h with e | h
      · subst e; intro hm; rw [(has_iff _ _).2 hm] at hj; cases hj
      · exact outside_ok k h

section
variable {cx : Cx} {X0 : Nat → Prop} {J : Nat → Option Place} {st : St} {a : Act} {w : World}

theorem cellVal_ok (tok : TOk P cx.T) (r : Rel X0 J st a w) {t ty : Nat} {v : AV} (h : cellVal cx.T st t ty = some v) :
    ∃ u, (do loadVar ty (← asAddr (a.tmps.getD t undef)) : Sem Value).run P w = .ok u w ∧ v.rep w (Xof X0 J) J u := by
  unfold cellVal at h
  split at h
  case h_2 => cases h
  rename_i k off hx
  split at h
  case h_2 => cases h
  rename_i cells hk
  split at h
  case h_2 => cases h
  rename_i l hl
  split at h
  case h_2 => cases h
  rename_i i hi
  have hti := tok ty i hi
  subst hti
  obtain ⟨u0, hu0, hv⟩ := r.env t _ hx
  simp only [AV.rep] at hv
  obtain ⟨p, hp, rfl⟩ := hv
  obtain ⟨rfl, hle⟩ := drop_some hl
  obtain ⟨p', cs, tt, hp', _, hcs, hr⟩ := r.mem.var hk
  rw [hp] at hp'; cases hp'
  split at h
  case h_2 => cases h
  rename_i v0 hv0
  cases h
  have hc : evCmd P cx (some 0) (loadAs (tdOf P ty) (cells.drop off)) st (fun s => look 0 s.env = some v) := by
    rw [hv0]; simp only [evCmd]; rw [St.put_look]; simp
  obtain ⟨v', u, hK, hvr, hu⟩ := loadAs_ok (P := P) (t := ty) (AV.repL_drop (n := off) hr) hc
  rw [St.put_look] at hK
  simp at hK
  subst hK
  refine ⟨u, ?_, hvr⟩
  have hrun := run_loadAt_of (rangeAt_heap hcs off) hu
  have hg : a.tmps.getD t undef = .pointer (some ⟨p.blk, off, none⟩) := by rw [Array.getD_eq_getD_getElem?, hu0]; rfl
  rw [hg]
  simpa [Instr.loadAt, Instr.sureAddr, asAddr] using hrun

theorem outs_ok (tok : TOk P cx.T) (r : Rel X0 J st a w) : ∀ {rs : List ResultVar} {vs : List AV}, outs cx.T st rs = some vs →
    ∃ us : List Value, (rs.mapM (fun | .tmp t => pure (a.tmps.getD t undef) | .cell x t => do loadVar t (← asAddr (a.tmps.getD x undef)) : ResultVar → Sem Value)).run P w = .ok us w ∧ AV.repL w (Xof X0 J) J vs us
  | [], vs, h => by
    cases h
    exact ⟨[], by simp, by simp [AV.repL]⟩
  | .tmp t :: rs, vs, h => by
    simp only [outs] at h
    split at h
    case h_2 => cases h
    rename_i v hv
    split at h
    case h_2 => cases h
    rename_i l hl
    cases h
    obtain ⟨us, h1, h2⟩ := outs_ok tok r hl
    obtain ⟨u, hu, hr⟩ := r.env t v hv
    refine ⟨u :: us, ?_, by simp only [AV.repL]; exact ⟨u, us, rfl, hr, h2⟩⟩
    have hg : a.tmps.getD t undef = u := by rw [Array.getD_eq_getD_getElem?, hu]; rfl
    simp only [List.mapM_cons, Sem.run_bind, Sem.run_pure, Result.andThen_ok, h1, hg]
  | .cell t ty :: rs, vs, h => by
    simp only [outs] at h
    split at h
    case h_2 => cases h
    rename_i v hv
    split at h
    case h_2 => cases h
    rename_i l hl
    cases h
    obtain ⟨us, h1, h2⟩ := outs_ok tok r hl
    obtain ⟨u, hu, hr⟩ := cellVal_ok tok r hv
    refine ⟨u :: us, ?_, by simp only [AV.repL]; exact ⟨u, us, rfl, hr, h2⟩⟩
    rw [List.mapM_cons, Sem.run_bind]
    simp only
    rw [hu]
    simp only [Result.andThen_ok, Sem.run_bind, h1, Sem.run_pure]

theorem results_run (tok : TOk P cx.T) (r : Rel X0 J st a w) {fn : Func} {vs : List AV} (h : outs cx.T st fn.results.toList = some vs) :
    ∃ us : List Value, (results fn a.tmps).run P w = .ok (if h : us.toArray.size = 1 then us.toArray[0] else .tuple us.toArray) w ∧ AV.repL w (Xof X0 J) J vs us := by
  obtain ⟨us, h1, h2⟩ := outs_ok tok r h
  refine ⟨us, ?_, h2⟩
  unfold results
  rw [Array.mapM_eq_mapM_toList]
  simp only [Sem.run_bind, Sem.run_map]
  erw [h1]
  rfl

theorem finR_rep {X : Nat → Prop} : ∀ {vs : List AV} {us : List Value}, AV.repL w X J vs us → (finR vs).rep w X J (if h : us.toArray.size = 1 then us.toArray[0] else .tuple us.toArray)
  | [], us, h => by
    simp only [AV.repL] at h; subst h
    simp only [finR, AV.rep]
    exact ⟨#[], by simp, by simp [AV.repL]⟩
  | [v], us, h => by
    simp only [AV.repL] at h
    obtain ⟨u, us', rfl, h1, rfl⟩ := h
    simpa [finR] using h1
  | v1 :: v2 :: vs, us, h => by
    have hl := AV.repL_len h
    simp only [finR, AV.rep]
    refine ⟨us.toArray, ?_, by simpa using h⟩
    rw [dif_neg (by simp only [List.size_toArray, hl, List.length_cons]; omega)]

theorem tidyL_rep (m : Mem X0 J (look · st.obj) w) : ∀ {vs : List AV} {us : List Value}, AV.repL w (Xof X0 J) J vs us → AV.repL w (Xof X0 J) J (tidyL (look · st.obj) vs) us
  | [], us, h => h
  | v :: vs, us, h => by
    simp only [tidyL, AV.repL] at h ⊢
    obtain ⟨u, us', rfl, h1, h2⟩ := h
    refine ⟨u, us', rfl, ?_, tidyL_rep m h2⟩
    unfold tidy
    split
    · rename_i x hx
      simp only [AV.rep]
      exact show_rep m (fun _ h => h) v u x [] hx h1 (fun k hk => by cases hk)
    · exact h1

theorem frzL_rel (r : Rel X0 J st a w) (bs : List Nat) {vs : List AV} {us : List Value} (h : AV.repL w (Xof X0 J) J vs us) : AV.repL w (Xof X0 (less J bs)) (less J bs) (frzL (look · st.obj) bs vs) us := by
  refine frzL_rep r.mem (fun _ => rfl) ?_ ?_ vs us h
  · rintro b (h | ⟨k, p, hp, hb⟩)
    · exact .inl h
    · exact .inr ⟨k, p, (less_some hp).1, hb⟩
  · rintro k hk p hp b hb (h | ⟨k', p', hp', hb'⟩)
    · exact (r.mem.x0 b h).2 k p hp hb
    · obtain ⟨h1, h2⟩ := less_some hp'
      refine r.mem.sep k k' p p' hp h1 ?_ b hb hb'
      rintro rfl
      exact h2 hk

theorem initRel {vs : Array Value} {args : List AV} {objs : List Ob} {n : Nat} (hargs : AV.repL w (Xof X0 J) J args vs.toList) (hm : Mem X0 J (objs[·]?) w) :
    Rel X0 J ⟨initEnv 0 args, initObj 0 objs⟩ { tmps := vs ++ Array.replicate (n - vs.size) undef, defers := [] } w := by
  have hobj : (look · (initObj 0 objs)) = (objs[·]?) := by
    funext k; rw [look_initObj, if_pos (Nat.zero_le _)]; rfl
  refine ⟨fun t v ht => ?_, by show Mem X0 J (look · (initObj 0 objs)) w; rw [hobj]; exact hm, rfl⟩
  have ht' : look t (initEnv 0 args) = some v := ht
  rw [look_initEnv, if_pos (Nat.zero_le _), Nat.sub_zero] at ht'
  obtain ⟨u, hu, hr⟩ := AV.repL_get hargs ht'
  have hlt : t < vs.size := by
    have := (List.getElem?_eq_some_iff.1 hu).1
    simpa using this
  refine ⟨u, ?_, hr⟩
  rw [Array.getElem?_append_left hlt]
  simpa using hu

/-- A function's contract, from its code. -/
theorem ent_ofN (tok : TOk P cx.T) (hmx : P.follows .mixedOrders = true) {f : FuncId} {fn : Func} (hf : P.funcs[f]? = some fn) (hname : (fn.name == "runtime.NumGoroutine") = false)
    {keep : Bool} {nm : List KO} {args : List AV} {objs : List Ob} {Q : AV → List Ob → Prop} (h : evFn P cx fn keep nm args objs Q) : EntQ P f args objs Q := by
  unfold evFn at h
  cases hb : fn.body with
  | none => rw [hb] at h; exact h.elim
  | some c =>
  rw [hb] at h
  simp only at h
  split at h
  · exact h.elim
  rename_i hck
  simp only [Bool.and_eq_true] at hck
  obtain ⟨⟨hcode, hargn⟩, hobjn⟩ := hck
  have hargn := Nat.le_of_ble_eq_true hargn
  have hobjn := Nat.le_of_ble_eq_true hobjn
  refine ⟨⟨fn, hf, hname, by rw [hb]; rfl⟩, fun X0 J w vs hargs hm => ?_⟩
  have hvl : vs.size = args.length := by have := AV.repL_len hargs; simpa using this
  refine calls_of_wp hf hb (evk_sound tok hmx (n := fn.ntmps) c _ _ J _ w _ hcode (by simp only [Array.size_append, Array.size_replicate]; omega) (initRel (n := fn.ntmps) hargs hm) ?_ h)
  have key : ∀ st' J1 a1 w1, fin cx.T fn.results.toList objs.length keep st' Q → Rel X0 J1 st' a1 w1 → Step J w J1 w1 →
      a1.defers = [] ∧ ∃ v, (results fn a1.tmps).run P w1 = .ok v w1 ∧ ∃ R O v' J', Q R O ∧ Ending.returned v = .returned v' ∧ R.rep w1 (Xof X0 J') J' v' ∧ Mem X0 J' (O[·]?) w1 ∧ Kept (Fps J) w w1 ∧
        (∀ k p b, J' k = some p → b ∈ p.fp → Fps J b ∨ w.heap.size ≤ b) ∧ ∀ k p, J k = some p → ∃ p', J' k = some p' ∧ p.like p' := by
    intro st' J1 a1 w1 hfin r hst
    unfold fin at hfin
    simp only [AV.force_eq, forceN_eq, St.force_eq] at hfin
    generalize hnm : upTo 0 objs.length ++ keptOf cx.T fn.results.toList keep st' = nm at hfin
    split at hfin
    · exact hfin.elim
    rename_i hnd
    have hnd := nodup_ok hnd
    have rf := frz_rel r (outside st'.obj nm)
    split at hfin
    · exact hfin.elim
    rename_i us hus
    split at hfin
    · exact hfin.elim
    rename_i O' hO
    obtain ⟨vals, hrun, hrep0⟩ := results_run tok r hus
    have hrep := frzL_rel r (outside st'.obj nm) hrep0
    obtain ⟨hX, mc, hren⟩ := mem_callee rf.mem (X0c := fun b => Xof X0 (less J1 (outside st'.obj nm)) b ∧ (∀ k, k ∈ ([] : List Nat) → ∀ p, less J1 (outside st'.obj nm) k = some p → b ∉ p.fp) ∧ ∀ k, k ∈ nm → ∀ p, less J1 (outside st'.obj nm) k = some p → b ∉ p.fp)
      (Jc := fun i => (nm[i]?).bind (less J1 (outside st'.obj nm))) hnd (by simp) hO (fun _ => Iff.rfl) (fun _ => rfl)
    have hle : ∀ b, X0 b → Xof X0 (less J1 (outside st'.obj nm)) b ∧ (∀ k, k ∈ ([] : List Nat) → ∀ p, less J1 (outside st'.obj nm) k = some p → b ∉ p.fp) ∧ ∀ k, k ∈ nm → ∀ p, less J1 (outside st'.obj nm) k = some p → b ∉ p.fp :=
      fun b hb => ⟨.inl hb, by simp, fun k _ p hp => (rf.mem.x0 b hb).2 k p hp⟩
    have hsub : ∀ b, Xof X0 (fun i => (nm[i]?).bind (less J1 (outside st'.obj nm))) b → Xof (fun b => Xof X0 (less J1 (outside st'.obj nm)) b ∧ (∀ k, k ∈ ([] : List Nat) → ∀ p, less J1 (outside st'.obj nm) k = some p → b ∉ p.fp) ∧ ∀ k, k ∈ nm → ∀ p, less J1 (outside st'.obj nm) k = some p → b ∉ p.fp) (fun i => (nm[i]?).bind (less J1 (outside st'.obj nm))) b := by
      rintro b (hb | hb)
      · exact .inl (hle b hb)
      · exact .inr hb
    have hsub2 : ∀ b, Xof (fun b => Xof X0 (less J1 (outside st'.obj nm)) b ∧ (∀ k, k ∈ ([] : List Nat) → ∀ p, less J1 (outside st'.obj nm) k = some p → b ∉ p.fp) ∧ ∀ k, k ∈ nm → ∀ p, less J1 (outside st'.obj nm) k = some p → b ∉ p.fp) (fun i => (nm[i]?).bind (less J1 (outside st'.obj nm))) b → Xof X0 (less J1 (outside st'.obj nm)) b := fun b hb => ((hX b).1 hb).1
    have hJk : ∀ (i : Nat) (p : Place), ((nm[i]?).bind (less J1 (outside st'.obj nm))) = some p → ∃ k, nm[i]? = some k ∧ J1 k = some p := by
      intro i p hp
      cases hk : nm[i]? with
      | none => rw [hk] at hp; cases hp
      | some k => rw [hk] at hp; exact ⟨k, rfl, (less_some hp).1⟩
    refine ⟨rf.defers, _, hrun, _, _, _, fun i => (nm[i]?).bind (less J1 (outside st'.obj nm)), hfin, rfl, ?_, ?_, hst.kept, ?_, ?_⟩
    · refine finR_rep ?_
      have h1 := tidyL_rep rf.mem hrep
      have h2 : AV.repL w1 (Xof X0 fun i => (nm[i]?).bind (less J1 (outside st'.obj nm))) (fun i => (nm[i]?).bind (less J1 (outside st'.obj nm))) (renL (idx · nm 0) (tidyL (look · (st'.frz (outside st'.obj nm)).obj) (frzL (look · st'.obj) (outside st'.obj nm) us))) vals := by
        refine AV.repL_ren (fun b _ hx h => hx (hsub2 b (hsub b h))) (fun _ _ _ => rfl) (fun k p i hp hi => ?_) _ _ h1
        have := (idx_some hi).2
        rw [Nat.sub_zero] at this
        exact ⟨p, by simp only [this, Option.bind_some]; exact hp, p.like_refl⟩
      exact h2
    · refine ⟨fun k o ho => ?_, mc.dom, mc.sep, mc.nd, fun b hb => mc.x0 b (hle b hb)⟩
      obtain ⟨p, hp, hr⟩ := mc.ob k o ho
      have := Ob.rep_ren (f := some) (J' := fun i => (nm[i]?).bind (less J1 (outside st'.obj nm))) (fun b _ hx h => hx (hsub b h)) (fun _ _ _ => rfl) (fun k p j hp hj => by cases hj; exact ⟨p, hp, p.like_refl⟩) hr
      rw [Ob.ren_some] at this
      exact ⟨p, hp, this⟩
    · intro i p b hp hb
      obtain ⟨k, _, hk⟩ := hJk i p hp
      exact hst.own k p b hk hb
    · intro i p hp
      obtain ⟨o, ho⟩ := hm.dom i p hp
      have hi : i < objs.length := (List.getElem?_eq_some_iff.1 ho).1
      obtain ⟨p', hp', hl⟩ := hst.stay i p (by omega) hp
      have hnmi : nm[i]? = some i := by rw [← hnm, upTo_get hi, Nat.zero_add]
      refine ⟨p', ?_, hl⟩
      simp only [hnmi, Option.bind_some]
      rw [less_of (fun hmem => outside_ok i hmem (List.mem_of_getElem? hnmi))]
      exact hp'
  have endOf : ∀ {st' : St} {J1 : Nat → Option Place} {a1 : Act} {w1 : World} {K : St → Prop}, atEnd nm st' K → Rel X0 J1 st' a1 w1 → Step J w J1 w1 → ∃ st2 J2, K st2 ∧ Rel X0 J2 st2 a1 w1 ∧ Step J w J2 w1 := by
    intro st' J1 a1 w1 K h r hst
    unfold atEnd at h
    split at h
    · split at h
      · exact ⟨st', J1, h, r, hst⟩
      · rw [St.force_eq] at h
        obtain ⟨J2, r2, s2⟩ := norm_rel r nm
        exact ⟨_, J2, h, r2, hst.trans s2⟩
    · rw [St.force_eq] at h
      obtain ⟨J2, r2, s2⟩ := shuts_rel (objKeys st'.obj) r
      obtain ⟨J3, r3, s3⟩ := norm_rel r2 nm
      exact ⟨_, J3, h, r3, (hst.trans s2).trans s3⟩
  intro e st' J1 a1 w1 hK r hsz hst
  cases e with
  | normal => obtain ⟨st2, J2, h2, r2, s2⟩ := endOf hK r hst; exact key st2 J2 a1 w1 h2 r2 s2
  | exit i => exact hK.elim
  | ret => obtain ⟨st2, J2, h2, r2, s2⟩ := endOf hK r hst; exact key st2 J2 a1 w1 h2 r2 s2
theorem ent_of (tok : TOk P cx.T) (hmx : P.follows .mixedOrders = true) {f : FuncId} {fn : Func} (hf : P.funcs[f]? = some fn) (hname : (fn.name == "runtime.NumGoroutine") = false)
    {keep : Bool} {args : List AV} {objs : List Ob} {Q : AV → List Ob → Prop} (h : evFn P cx fn keep [] args objs Q) : EntQ P f args objs Q := ent_ofN tok hmx hf hname h
end
/-! What a goal looks like, asked cheaply. -/
theorem isEx {α : Sort _} {p : α → Prop} (h : Exists p) : Exists p := h
theorem isAnd {a b : Prop} (h : a ∧ b) : a ∧ b := h
theorem isOr {a b : Prop} (h : a ∨ b) : a ∨ b := h
theorem isCall {P : Program} {f : FuncId} {args : List AV} {objs : List Ob} {q : (AV → List Ob → Prop) → Prop} (h : ∃ Q, EntQ P f args objs Q ∧ q Q) : ∃ Q, EntQ P f args objs Q ∧ q Q := h
theorem isLoop {q : List Nat → Prop} (h : ∃ L : List Nat, q L) : ∃ L : List Nat, q L := h
theorem isSmall {obj : List (Nat × Ob)} {ks : List Nat} {Q : Prop} (h : smallsIn obj ks = true ∧ Q) : smallsIn obj ks = true ∧ Q := h
theorem isCut {id : Nat} {q : Cut id → Prop} (h : ∃ c : Cut id, q c) : ∃ c : Cut id, q c := h
theorem isGet {xs : List D} {i : Nat} {q : D → Prop} (h : ∃ x, xs[i]? = some x ∧ q x) : ∃ x, xs[i]? = some x ∧ q x := h
end Go.Pm
