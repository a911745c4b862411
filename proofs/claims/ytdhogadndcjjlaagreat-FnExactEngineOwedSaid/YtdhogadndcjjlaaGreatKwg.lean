/-
A part of the proof (packed).
-/
import Derived.Test.YtdhogadndcjjlaaGreatProg
import Derived.WalkKit
import Derived.ChangeArms
import Derived.Deep.Slices
import Derived.WideShapes
import Derived.ReadAgain
import Derived.ChangeOld
import Derived.ChangeReads
import Derived.Lib.Bytealg
import Derived.Laws.BitsLemmas
import Derived.Test.YtdhogadndcjjlaaGreatChecked
import Derived.Test.YtdhogadndcjjlaaGreatRows
import Derived.ProofKit
import Derived.OpenShut
import Derived.SizedLaws
import Derived.Test.YtdhogadndcjjlaaGreatKwf
namespace Go.Pm
open Go
set_option linter.unusedVariables false
variable {P : Program}
def initEnv : Nat → List AV → List (Nat × AV)
  | _, [] => []
  | i, v :: r => (i, v) :: initEnv (i + 1) r
def initObj : Nat → List Ob → List (Nat × Ob)
  | _, [] => []
  | i, v :: r => (i, v) :: initObj (i + 1) r
def upTo : Nat → Nat → List Nat
  | _, 0 => []
  | i, n + 1 => i :: upTo (i + 1) n
def cellVal (T : List TD) (st : St) (t ty : Nat) : Option AV :=
  match look t st.env with
  | some (.ptr k off) => match look k st.obj with
    | some (.var cells) => match drop off cells with
      | some l => match T[ty]? with
        | some i => match loadAs i l with | .val v => some v | _ => none
        | none => none
      | none => none
    | _ => none
  | _ => none
def outs (T : List TD) (st : St) : List ResultVar → Option (List AV)
  | [] => some []
  | .tmp t :: r => match look t st.env with
    | some v => match outs T st r with | some l => some (v :: l) | none => none
    | none => none
  | .cell t ty :: r => match cellVal T st t ty with
    | some v => match outs T st r with | some l => some (v :: l) | none => none
    | none => none
def outside : List (Nat × Ob) → List Nat → List Nat
  | [], _ => []
  | (k, _) :: r, nm => match has k nm with | true => outside r nm | false => k :: outside r nm
def tidy (σ : Nat → Option Ob) (v : AV) : AV := match v.show σ with | some (x, []) => .d x | _ => v
def tidyL (σ : Nat → Option Ob) : List AV → List AV
  | [] => []
  | v :: r => tidy σ v :: tidyL σ r
def finR : List AV → AV
  | [v] => v
  | l => .tup l
def bigOf : List Nat → List Nat
  | [] => []
  | k :: r => match Nat.ble 10000 k with | true => k :: bigOf r | false => bigOf r
def keptOf (T : List TD) (results : List ResultVar) (n : Nat) (keep : Bool) (st : St) : List Nat := match keep with
  | false => []
  | true => match outs T st results with | some vs => bigOf (reachN (look · st.obj) 50 (refsL vs ++ upTo 0 n) []) | none => []
def fin (T : List TD) (results : List ResultVar) (n : Nat) (keep : Bool) (st : St) (post : AV → List Ob → Prop) : Prop :=
  forceN (upTo 0 n ++ keptOf T results n keep st) fun nm => match nodup nm with
    | false => False
    | true => match outs T st results with
      | none => False
      | some vs => forceN (outside st.obj nm) fun bs => (st.frz bs).force fun s => match pickObs (look · s.obj) (idx · nm 0) nm with
        | none => False
        | some O => (finR (renL (idx · nm 0) (tidyL (look · s.obj) (frzL (look · st.obj) bs vs)))).force fun R => post R O
def objKeys : List (Nat × Ob) → List Nat
  | [] => []
  | (k, _) :: r => k :: objKeys r
def atEnd (nm : List KO) (s : St) (K : St → Prop) : Prop :=
  match anyOpn s.obj with
  | false => match nm with
    | [] => K s
    | _ => (s.norm nm).force K
  | true => ((s.shuts (objKeys s.obj)).norm nm).force K
def stealF (i k : Nat) : Option Nat := match Nat.beq k i with | true => some (9000000 + i) | false => some k
def renAll (f : Nat → Option Nat) : List (Nat × Ob) → List (Nat × Ob)
  | [] => []
  | (k, o) :: r => (k, o.ren f) :: renAll f r
def St.steal (st : St) (i : Nat) : St := match look i st.obj with
  | some o => (match look (9000000 + i) st.obj with
    | none => ⟨renEnv (stealF i) st.env, (i, .gone) :: (9000000 + i, o.ren (stealF i)) :: renAll (stealF i) st.obj⟩
    | some _ => st)
  | none => st
def St.steals : List Nat → St → St
  | [], st => st
  | i :: r, st => St.steals r (st.steal i)
def evFnS (P : Program) (cx : Cx) (fn : Func) (keep : Bool) (nm : List KO) (ks : List Nat) (args : List AV) (objs : List Ob) (post : AV → List Ob → Prop) : Prop :=
  match fn.body with
  | none => False
  | some c => match codeOk fn.ntmps c && Nat.ble args.length fn.ntmps && Nat.ble objs.length 10000 with
    | false => False
    | true => evk P cx c (fun e s => match e with
        | .exit _ => False
        | .normal => atEnd nm s fun s => fin cx.T fn.results.toList objs.length keep s post
        | .ret => atEnd nm s fun s => fin cx.T fn.results.toList objs.length keep s post)
        (St.steals ks ⟨initEnv 0 args, initObj 0 objs⟩)
def evFn (P : Program) (cx : Cx) (fn : Func) (keep : Bool) (nm : List KO) (args : List AV) (objs : List Ob) (post : AV → List Ob → Prop) : Prop :=
  match fn.body with
  | none => False
  | some c => match codeOk fn.ntmps c && Nat.ble args.length fn.ntmps && Nat.ble objs.length 10000 with
    | false => False
    | true => evk P cx c (fun e s => match e with
        | .exit _ => False
        | .normal => atEnd nm s fun s => fin cx.T fn.results.toList objs.length keep s post
        | .ret => atEnd nm s fun s => fin cx.T fn.results.toList objs.length keep s post)
        ⟨initEnv 0 args, initObj 0 objs⟩
theorem AV.repL_get {w : World} {X : Nat → Prop} {J : Nat → Option Place} : ∀ {xs : List AV} {us : List Value} {i : Nat} {v : AV}, AV.repL w X J xs us → xs[i]? = some v → ∃ u, us[i]? = some u ∧ v.rep w X J u
  | [], us, i, v, _, h => by simp at h
  | x :: xs, us, i, v, hr, h => by
    simp only [AV.repL] at hr
    obtain ⟨u, us', rfl, h1, h2⟩ := hr
    cases i with
    | zero => simp at h; subst h; exact ⟨u, rfl, h1⟩
    | succ i =>
      obtain ⟨u2, g1, g2⟩ := AV.repL_get (i := i) h2 (by simpa using h)
      exact ⟨u2, by simpa using g1, g2⟩
theorem AV.repL_len {w : World} {X : Nat → Prop} {J : Nat → Option Place} : ∀ {xs : List AV} {us : List Value}, AV.repL w X J xs us → us.length = xs.length
  | [], us, hr => by simp only [AV.repL] at hr; subst hr; rfl
  | x :: xs, us, hr => by
    simp only [AV.repL] at hr
    obtain ⟨u, us', rfl, h1, h2⟩ := hr
    simp [AV.repL_len h2]
theorem look_initEnv : ∀ {l : List AV} {i t : Nat}, look t (initEnv i l) = if i ≤ t then l[t - i]? else none
  | [], i, t => by simp [initEnv, look_nil]
  | v :: l, i, t => by
    simp only [initEnv, look_cons, look_initEnv]
    by_cases e : i = t
    · subst e; simp
    · rw [if_neg e]
      by_cases h : i ≤ t
      · rw [if_pos h, if_pos (by omega), show t - i = (t - (i + 1)) + 1 by omega, List.getElem?_cons_succ]
      · rw [if_neg h, if_neg (by omega)]
theorem look_initObj : ∀ {l : List Ob} {i t : Nat}, look t (initObj i l) = if i ≤ t then l[t - i]? else none
  | [], i, t => by simp [initObj, look_nil]
  | v :: l, i, t => by
    simp only [initObj, look_cons, look_initObj]
    by_cases e : i = t
    · subst e; simp
    · rw [if_neg e]
      by_cases h : i ≤ t
      · rw [if_pos h, if_pos (by omega), show t - i = (t - (i + 1)) + 1 by omega, List.getElem?_cons_succ]
      · rw [if_neg h, if_neg (by omega)]
theorem upTo_get : ∀ {n i j : Nat} {l : List Nat}, j < n → (upTo i n ++ l)[j]? = some (i + j)
  | 0, i, j, l, h => by omega
  | n + 1, i, j, l, h => by
    simp only [upTo, List.cons_append]
    cases j with
    | zero => rfl
    | succ j => rw [List.getElem?_cons_succ, upTo_get (by omega)]; congr 1; omega
theorem outside_ok {nm : List Nat} : ∀ {l : List (Nat × Ob)}, ∀ k, k ∈ outside l nm → k ∉ nm
  | [], k, h => by cases h
  | (j, o) :: l, k, h => by
    simp only [outside] at h
    cases hj : has j nm with
    | true => rw [hj] at h; exact outside_ok k h
    | false =>
      rw [hj] at h
      rcases List.mem_cons.1 h with e | h
      · subst e; intro hm; rw [(has_iff _ _).2 hm] at hj; cases hj
      · exact outside_ok k h
section
variable {cx : Cx} {X0 : Nat → Prop} {J : Nat → Option Place} {st : St} {a : Act} {w : World}
theorem cellVal_ok (tok : TOk P cx.T) (r : Rel X0 J st a w) {t ty : Nat} {v : AV} (h : cellVal cx.T st t ty = some v) :
    ∃ u, (do loadVar ty (← asAddr (a.tmps.getD t undef)) : Sem Value).run P w = .ok u w ∧ v.rep w (Xof X0 J) J u := by
  unfold cellVal at h
  split at h
  case h_2 => cases h
  rename_i k off hx
  split at h
  case h_2 => cases h
  rename_i cells hk
  split at h
  case h_2 => cases h
  rename_i l hl
  split at h
  case h_2 => cases h
  rename_i i hi
  have hti := tok ty i hi
  subst hti
  obtain ⟨u0, hu0, hv⟩ := r.env t _ hx
  simp only [AV.rep] at hv
  obtain ⟨p, hp, rfl⟩ := hv
  obtain ⟨rfl, hle⟩ := drop_some hl
  obtain ⟨p', cs, tt, hp', _, hcs, hr⟩ := r.mem.var hk
  rw [hp] at hp'; cases hp'
  split at h
  case h_2 => cases h
  rename_i v0 hv0
  cases h
  have hc : evCmd P cx (some 0) (loadAs (tdOf P ty) (cells.drop off)) st (fun s => look 0 s.env = some v) := by
    rw [hv0]; simp only [evCmd]; rw [St.put_look]; simp
  obtain ⟨v', u, hK, hvr, hu⟩ := loadAs_ok (P := P) (t := ty) (AV.repL_drop (n := off) hr) hc
  rw [St.put_look] at hK
  simp at hK
  subst hK
  refine ⟨u, ?_, hvr⟩
  have hrun := run_loadAt_of (rangeAt_heap hcs off) hu
  have hg : a.tmps.getD t undef = .pointer (some ⟨p.blk, off, none⟩) := by rw [Array.getD_eq_getD_getElem?, hu0]; rfl
  rw [hg]
  simpa [Instr.loadAt, Instr.sureAddr, asAddr] using hrun
theorem outs_ok (tok : TOk P cx.T) (r : Rel X0 J st a w) : ∀ {rs : List ResultVar} {vs : List AV}, outs cx.T st rs = some vs →
    ∃ us : List Value, (rs.mapM (fun | .tmp t => pure (a.tmps.getD t undef) | .cell x t => do loadVar t (← asAddr (a.tmps.getD x undef)) : ResultVar → Sem Value)).run P w = .ok us w ∧ AV.repL w (Xof X0 J) J vs us
  | [], vs, h => by
    cases h
    exact ⟨[], by simp, by simp [AV.repL]⟩
  | .tmp t :: rs, vs, h => by
    simp only [outs] at h
    split at h
    case h_2 => cases h
    rename_i v hv
    split at h
    case h_2 => cases h
    rename_i l hl
    cases h
    obtain ⟨us, h1, h2⟩ := outs_ok tok r hl
    obtain ⟨u, hu, hr⟩ := r.env t v hv
    refine ⟨u :: us, ?_, by simp only [AV.repL]; exact ⟨u, us, rfl, hr, h2⟩⟩
    have hg : a.tmps.getD t undef = u := by rw [Array.getD_eq_getD_getElem?, hu]; rfl
    simp only [List.mapM_cons, Sem.run_bind, Sem.run_pure, Result.andThen_ok, h1, hg]
  | .cell t ty :: rs, vs, h => by
    simp only [outs] at h
    split at h
    case h_2 => cases h
    rename_i v hv
    split at h
    case h_2 => cases h
    rename_i l hl
    cases h
    obtain ⟨us, h1, h2⟩ := outs_ok tok r hl
    obtain ⟨u, hu, hr⟩ := cellVal_ok tok r hv
    refine ⟨u :: us, ?_, by simp only [AV.repL]; exact ⟨u, us, rfl, hr, h2⟩⟩
    rw [List.mapM_cons, Sem.run_bind]
    simp only
    rw [hu]
    simp only [Result.andThen_ok, Sem.run_bind, h1, Sem.run_pure]
theorem results_run (tok : TOk P cx.T) (r : Rel X0 J st a w) {fn : Func} {vs : List AV} (h : outs cx.T st fn.results.toList = some vs) :
    ∃ us : List Value, (results fn a.tmps).run P w = .ok (if h : us.toArray.size = 1 then us.toArray[0] else .tuple us.toArray) w ∧ AV.repL w (Xof X0 J) J vs us := by
  obtain ⟨us, h1, h2⟩ := outs_ok tok r h
  refine ⟨us, ?_, h2⟩
  unfold results
  rw [Array.mapM_eq_mapM_toList]
  simp only [Sem.run_bind, Sem.run_map]
  erw [h1]
  rfl
theorem finR_rep {X : Nat → Prop} : ∀ {vs : List AV} {us : List Value}, AV.repL w X J vs us → (finR vs).rep w X J (if h : us.toArray.size = 1 then us.toArray[0] else .tuple us.toArray)
  | [], us, h => by
    simp only [AV.repL] at h; subst h
    simp only [finR, AV.rep]
    exact ⟨#[], by simp, by simp [AV.repL]⟩
  | [v], us, h => by
    simp only [AV.repL] at h
    obtain ⟨u, us', rfl, h1, rfl⟩ := h
    simpa [finR] using h1
  | v1 :: v2 :: vs, us, h => by
    have hl := AV.repL_len h
    simp only [finR, AV.rep]
    refine ⟨us.toArray, ?_, by simpa using h⟩
    rw [dif_neg (by simp only [List.size_toArray, hl, List.length_cons]; omega)]
theorem tidyL_rep (m : Mem X0 J (look · st.obj) w) : ∀ {vs : List AV} {us : List Value}, AV.repL w (Xof X0 J) J vs us → AV.repL w (Xof X0 J) J (tidyL (look · st.obj) vs) us
  | [], us, h => h
  | v :: vs, us, h => by
    simp only [tidyL, AV.repL] at h ⊢
    obtain ⟨u, us', rfl, h1, h2⟩ := h
    refine ⟨u, us', rfl, ?_, tidyL_rep m h2⟩
    unfold tidy
    split
    · rename_i x hx
      simp only [AV.rep]
      exact show_rep m (fun _ h => h) v u x [] hx h1 (fun k hk => by cases hk)
    · exact h1
theorem frzL_rel (r : Rel X0 J st a w) (bs : List Nat) {vs : List AV} {us : List Value} (h : AV.repL w (Xof X0 J) J vs us) : AV.repL w (Xof X0 (less J bs)) (less J bs) (frzL (look · st.obj) bs vs) us := by
  refine frzL_rep r.mem (fun _ => rfl) ?_ ?_ vs us h
  · rintro b (h | ⟨k, p, hp, hb⟩)
    · exact .inl h
    · exact .inr ⟨k, p, (less_some hp).1, hb⟩
  · rintro k hk p hp b hb (h | ⟨k', p', hp', hb'⟩)
    · exact (r.mem.x0 b h).2 k p hp hb
    · obtain ⟨h1, h2⟩ := less_some hp'
      refine r.mem.sep k k' p p' hp h1 ?_ b hb hb'
      rintro rfl
      exact h2 hk
theorem initRel {vs : Array Value} {args : List AV} {objs : List Ob} {n : Nat} (hargs : AV.repL w (Xof X0 J) J args vs.toList) (hm : Mem X0 J (objs[·]?) w) :
    Rel X0 J ⟨initEnv 0 args, initObj 0 objs⟩ { tmps := vs ++ Array.replicate (n - vs.size) undef, defers := [] } w := by
  have hobj : (look · (initObj 0 objs)) = (objs[·]?) := by
    funext k; rw [look_initObj, if_pos (Nat.zero_le _)]; rfl
  refine ⟨fun t v ht => ?_, by show Mem X0 J (look · (initObj 0 objs)) w; rw [hobj]; exact hm, rfl⟩
  have ht' : look t (initEnv 0 args) = some v := ht
  rw [look_initEnv, if_pos (Nat.zero_le _), Nat.sub_zero] at ht'
  obtain ⟨u, hu, hr⟩ := AV.repL_get hargs ht'
  have hlt : t < vs.size := by
    have := (List.getElem?_eq_some_iff.1 hu).1
    simpa using this
  refine ⟨u, ?_, hr⟩
  rw [Array.getElem?_append_left hlt]
  simpa using hu
theorem look_renAll {f : Nat → Option Nat} : ∀ {l : List (Nat × Ob)} {k : Nat}, look k (renAll f l) = (look k l).map (Ob.ren f)
  | [], k => rfl
  | (j, o) :: r, k => by
    simp only [renAll, look_cons, look_renAll]
    split <;> rfl
theorem stealF_self {i : Nat} : stealF i i = some (9000000 + i) := by
  unfold stealF; rw [show Nat.beq i i = true from Nat.beq_refl i]
theorem stealF_ne {i k : Nat} (h : k ≠ i) : stealF i k = some k := by
  unfold stealF
  have : Nat.beq k i = false := by
    cases e : Nat.beq k i with
    | false => rfl
    | true => exact absurd (Nat.eq_of_beq_eq_true e) h
  rw [this]
theorem steal_rel (r : Rel X0 J st a w) (i : Nat) : ∃ J2, Rel X0 J2 (st.steal i) a w ∧ Step J w J2 w := by
  unfold St.steal
  cases ho : look i st.obj with
  | none => exact ⟨J, r, Step.refl J w⟩
  | some o =>
    cases hjo : look (9000000 + i) st.obj with
    | some _ => exact ⟨J, r, Step.refl J w⟩
    | none =>
      obtain ⟨p, hp, hrep⟩ := r.mem.ob i o ho
      have hjn : J (9000000 + i) = none := by
        cases e : J (9000000 + i) with
        | none => rfl
        | some q => obtain ⟨o', ho'⟩ := r.mem.dom _ _ e; rw [hjo] at ho'; cases ho'
      obtain ⟨J2, hJ2⟩ : ∃ J2 : Nat → Option Place, J2 = fun k => if k = i then some { p with hd := false } else if k = 9000000 + i then some p else J k := ⟨_, rfl⟩
      have hi : J2 i = some { p with hd := false } := by rw [hJ2]; simp
      have hj : J2 (9000000 + i) = some p := by rw [hJ2]; simp
      have he : ∀ k, k ≠ i → k ≠ 9000000 + i → J2 k = J k := fun k h1 h2 => by rw [hJ2]; simp [h1, h2]
      have gone : ({ p with hd := false } : Place).fp = [] := rfl
      have hback : ∀ k q, J2 k = some q → (k = i ∧ q.fp = []) ∨ (k ≠ i ∧ ∃ k0, J k0 = some q ∧ ((k = 9000000 + i ∧ k0 = i) ∨ (k ≠ 9000000 + i ∧ k0 = k))) := by
        intro k q hq
        by_cases h1 : k = i
        · subst h1; rw [hi] at hq; cases hq; exact .inl ⟨rfl, gone⟩
        · by_cases h2 : k = 9000000 + i
          · subst h2; rw [hj] at hq; cases hq; exact .inr ⟨h1, i, hp, .inl ⟨rfl, rfl⟩⟩
          · rw [he k h1 h2] at hq; exact .inr ⟨h1, k, hq, .inr ⟨h2, rfl⟩⟩
      have hX : ∀ b, Xof X0 J2 b → Xof X0 J b := by
        rintro b (hb | ⟨k, q, hq, hb⟩)
        · exact .inl hb
        · rcases hback k q hq with ⟨_, h0⟩ | ⟨_, k0, hk0, _⟩
          · rw [h0] at hb; cases hb
          · exact .inr ⟨k0, q, hk0, hb⟩
      have hlike : ∀ k q j, J k = some q → stealF i k = some j → ∃ q', J2 j = some q' ∧ q.like q' := by
        intro k q j hq hf
        by_cases h1 : k = i
        · subst h1; rw [stealF_self] at hf; cases hf; rw [hp] at hq; cases hq; exact ⟨_, hj, rfl, rfl⟩
        · rw [stealF_ne h1] at hf; cases hf
          by_cases h2 : k = 9000000 + i
          · subst h2; rw [hjn] at hq; cases hq
          · exact ⟨q, by rw [he k h1 h2]; exact hq, q.like_refl⟩
      have hXX : ∀ b, b < w.heap.size → ¬ Xof X0 J b → ¬ Xof X0 J2 b := fun b _ hn h => hn (hX b h)
      refine ⟨J2, ⟨fun t v ht => ?_, ⟨fun k o' hk => ?_, fun k q hq => ?_, ?_, ?_, ?_⟩, r.defers⟩, ⟨.refl _ w, ?_, ?_⟩⟩
      · rw [look_renEnv] at ht
        cases hv : look t st.env with
        | none => rw [hv] at ht; cases ht
        | some v0 =>
          rw [hv] at ht; cases ht
          obtain ⟨u, hu, hr⟩ := r.env t v0 hv
          exact ⟨u, hu, AV.rep_ren hXX (fun _ _ _ => rfl) hlike _ _ hr⟩
      · simp only [look_cons, look_renAll] at hk
        by_cases h1 : i = k
        · subst h1; rw [if_pos rfl] at hk; cases hk; exact ⟨_, hi, rfl⟩
        · rw [if_neg h1] at hk
          by_cases h2 : 9000000 + i = k
          · subst h2; rw [if_pos rfl] at hk; cases hk
            exact ⟨p, hj, Ob.rep_ren hXX (fun _ _ _ => rfl) hlike hrep⟩
          · rw [if_neg h2] at hk
            cases hv : look k st.obj with
            | none => rw [hv] at hk; cases hk
            | some o0 =>
              rw [hv] at hk; cases hk
              obtain ⟨q, hq, hr⟩ := r.mem.ob k o0 hv
              exact ⟨q, by rw [he k (fun e => h1 e.symm) (fun e => h2 e.symm)]; exact hq, Ob.rep_ren hXX (fun _ _ _ => rfl) hlike hr⟩
      · simp only [look_cons, look_renAll]
        by_cases h1 : i = k
        · rw [if_pos h1]; exact ⟨_, rfl⟩
        · rw [if_neg h1]
          by_cases h2 : 9000000 + i = k
          · rw [if_pos h2]; exact ⟨_, rfl⟩
          · rw [if_neg h2]
            rw [he k (fun e => h1 e.symm) (fun e => h2 e.symm)] at hq
            obtain ⟨o0, ho0⟩ := r.mem.dom k q hq
            rw [ho0]; exact ⟨_, rfl⟩
      · intro k k' q q' hq hq' hne b hb hb'
        rcases hback k q hq with ⟨_, h0⟩ | ⟨n1, k0, hk0, c1⟩
        · rw [h0] at hb; cases hb
        · rcases hback k' q' hq' with ⟨_, h0⟩ | ⟨n2, k1, hk1, c2⟩
          · rw [h0] at hb'; cases hb'
          · refine r.mem.sep k0 k1 q q' hk0 hk1 ?_ b hb hb'
            rcases c1 with ⟨c1, d1⟩ | ⟨c1, d1⟩ <;> rcases c2 with ⟨c2, d2⟩ | ⟨c2, d2⟩ <;> omega
      · intro k q hq
        rcases hback k q hq with ⟨_, h0⟩ | ⟨_, k0, hk0, _⟩
        · rw [h0]; exact List.nodup_nil
        · exact r.mem.nd k0 q hk0
      · intro b hb
        obtain ⟨h1, h2⟩ := r.mem.x0 b hb
        refine ⟨h1, fun k q hq hm => ?_⟩
        rcases hback k q hq with ⟨_, h0⟩ | ⟨_, k0, hk0, _⟩
        · rw [h0] at hm; cases hm
        · exact h2 k0 q hk0 hm
      · intro k q b hq hb
        rcases hback k q hq with ⟨_, h0⟩ | ⟨_, k0, hk0, _⟩
        · rw [h0] at hb; cases hb
        · exact .inl ⟨k0, q, hk0, hb⟩
      · intro k q hk hq
        by_cases h1 : k = i
        · subst h1; rw [hp] at hq; cases hq; exact ⟨_, hi, rfl, rfl⟩
        · by_cases h2 : k = 9000000 + i
          · subst h2; rw [hjn] at hq; cases hq
          · exact ⟨q, by rw [he k h1 h2]; exact hq, q.like_refl⟩
theorem steals_rel : ∀ (ks : List Nat) {J : Nat → Option Place} {st : St}, Rel X0 J st a w → ∃ J2, Rel X0 J2 (St.steals ks st) a w ∧ Step J w J2 w
  | [], J, st, r => ⟨J, r, Step.refl J w⟩
  | i :: ks, J, st, r => by
    obtain ⟨J1, r1, s1⟩ := steal_rel r i
    obtain ⟨J2, r2, s2⟩ := steals_rel ks r1
    exact ⟨J2, r2, s1.trans s2⟩
theorem ent_ofSN (tok : TOk P cx.T) (hmx : P.follows .mixedOrders = true) {f : FuncId} {fn : Func} (hf : P.funcs[f]? = some fn) (hname : (fn.name == "runtime.NumGoroutine") = false)
    {keep : Bool} {nm : List KO} {ks : List Nat} {args : List AV} {objs : List Ob} {Q : AV → List Ob → Prop} (h : evFnS P cx fn keep nm ks args objs Q) : EntQ P f args objs Q := by
  unfold evFnS at h
  cases hb : fn.body with
  | none => rw [hb] at h; exact h.elim
  | some c =>
  rw [hb] at h
  simp only at h
  split at h
  · exact h.elim
  rename_i hck
  simp only [Bool.and_eq_true] at hck
  obtain ⟨⟨hcode, hargn⟩, hobjn⟩ := hck
  have hargn := Nat.le_of_ble_eq_true hargn
  have hobjn := Nat.le_of_ble_eq_true hobjn
  refine ⟨⟨fn, hf, hname, by rw [hb]; rfl⟩, fun X0 J w vs hargs hm => ?_⟩
  have hvl : vs.size = args.length := by have := AV.repL_len hargs; simpa using this
  obtain ⟨J0, r0, s0⟩ := steals_rel ks (initRel (n := fn.ntmps) hargs hm)
  refine calls_of_wp hf hb (evk_sound tok hmx (n := fn.ntmps) c _ _ J0 _ w _ hcode (by simp only [Array.size_append, Array.size_replicate]; omega) r0 ?_ h)
  have key : ∀ st' J1 a1 w1, fin cx.T fn.results.toList objs.length keep st' Q → Rel X0 J1 st' a1 w1 → Step J w J1 w1 →
      a1.defers = [] ∧ ∃ v, (results fn a1.tmps).run P w1 = .ok v w1 ∧ ∃ R O v' J', Q R O ∧ Ending.returned v = .returned v' ∧ R.rep w1 (Xof X0 J') J' v' ∧ Mem X0 J' (O[·]?) w1 ∧ Kept (Fps J) w w1 ∧
        (∀ k p b, J' k = some p → b ∈ p.fp → Fps J b ∨ w.heap.size ≤ b) ∧ ∀ k p, J k = some p → ∃ p', J' k = some p' ∧ p.like p' := by
    intro st' J1 a1 w1 hfin r hst
    unfold fin at hfin
    simp only [AV.force_eq, forceN_eq, St.force_eq] at hfin
    generalize hnm : upTo 0 objs.length ++ keptOf cx.T fn.results.toList objs.length keep st' = nm at hfin
    split at hfin
    · exact hfin.elim
    rename_i hnd
    have hnd := nodup_ok hnd
    have rf := frz_rel r (outside st'.obj nm)
    split at hfin
    · exact hfin.elim
    rename_i us hus
    split at hfin
    · exact hfin.elim
    rename_i O' hO
    obtain ⟨vals, hrun, hrep0⟩ := results_run tok r hus
    have hrep := frzL_rel r (outside st'.obj nm) hrep0
    obtain ⟨hX, mc, hren⟩ := mem_callee rf.mem (X0c := fun b => Xof X0 (less J1 (outside st'.obj nm)) b ∧ (∀ k, k ∈ ([] : List Nat) → ∀ p, less J1 (outside st'.obj nm) k = some p → b ∉ p.fp) ∧ ∀ k, k ∈ nm → ∀ p, less J1 (outside st'.obj nm) k = some p → b ∉ p.fp)
      (Jc := fun i => (nm[i]?).bind (less J1 (outside st'.obj nm))) hnd (by simp) hO (fun _ => Iff.rfl) (fun _ => rfl)
    have hle : ∀ b, X0 b → Xof X0 (less J1 (outside st'.obj nm)) b ∧ (∀ k, k ∈ ([] : List Nat) → ∀ p, less J1 (outside st'.obj nm) k = some p → b ∉ p.fp) ∧ ∀ k, k ∈ nm → ∀ p, less J1 (outside st'.obj nm) k = some p → b ∉ p.fp :=
      fun b hb => ⟨.inl hb, by simp, fun k _ p hp => (rf.mem.x0 b hb).2 k p hp⟩
    have hsub : ∀ b, Xof X0 (fun i => (nm[i]?).bind (less J1 (outside st'.obj nm))) b → Xof (fun b => Xof X0 (less J1 (outside st'.obj nm)) b ∧ (∀ k, k ∈ ([] : List Nat) → ∀ p, less J1 (outside st'.obj nm) k = some p → b ∉ p.fp) ∧ ∀ k, k ∈ nm → ∀ p, less J1 (outside st'.obj nm) k = some p → b ∉ p.fp) (fun i => (nm[i]?).bind (less J1 (outside st'.obj nm))) b := by
      rintro b (hb | hb)
      · exact .inl (hle b hb)
      · exact .inr hb
    have hsub2 : ∀ b, Xof (fun b => Xof X0 (less J1 (outside st'.obj nm)) b ∧ (∀ k, k ∈ ([] : List Nat) → ∀ p, less J1 (outside st'.obj nm) k = some p → b ∉ p.fp) ∧ ∀ k, k ∈ nm → ∀ p, less J1 (outside st'.obj nm) k = some p → b ∉ p.fp) (fun i => (nm[i]?).bind (less J1 (outside st'.obj nm))) b → Xof X0 (less J1 (outside st'.obj nm)) b := fun b hb => ((hX b).1 hb).1
    have hJk : ∀ (i : Nat) (p : Place), ((nm[i]?).bind (less J1 (outside st'.obj nm))) = some p → ∃ k, nm[i]? = some k ∧ J1 k = some p := by
      intro i p hp
      cases hk : nm[i]? with
      | none => rw [hk] at hp; cases hp
      | some k => rw [hk] at hp; exact ⟨k, rfl, (less_some hp).1⟩
    refine ⟨rf.defers, _, hrun, _, _, _, fun i => (nm[i]?).bind (less J1 (outside st'.obj nm)), hfin, rfl, ?_, ?_, hst.kept, ?_, ?_⟩
    · refine finR_rep ?_
      have h1 := tidyL_rep rf.mem hrep
      have h2 : AV.repL w1 (Xof X0 fun i => (nm[i]?).bind (less J1 (outside st'.obj nm))) (fun i => (nm[i]?).bind (less J1 (outside st'.obj nm))) (renL (idx · nm 0) (tidyL (look · (st'.frz (outside st'.obj nm)).obj) (frzL (look · st'.obj) (outside st'.obj nm) us))) vals := by
        refine AV.repL_ren (fun b _ hx h => hx (hsub2 b (hsub b h))) (fun _ _ _ => rfl) (fun k p i hp hi => ?_) _ _ h1
        have := (idx_some hi).2
        rw [Nat.sub_zero] at this
        exact ⟨p, by simp only [this, Option.bind_some]; exact hp, p.like_refl⟩
      exact h2
    · refine ⟨fun k o ho => ?_, mc.dom, mc.sep, mc.nd, fun b hb => mc.x0 b (hle b hb)⟩
      obtain ⟨p, hp, hr⟩ := mc.ob k o ho
      have := Ob.rep_ren (f := some) (J' := fun i => (nm[i]?).bind (less J1 (outside st'.obj nm))) (fun b _ hx h => hx (hsub b h)) (fun _ _ _ => rfl) (fun k p j hp hj => by cases hj; exact ⟨p, hp, p.like_refl⟩) hr
      rw [Ob.ren_some] at this
      exact ⟨p, hp, this⟩
    · intro i p b hp hb
      obtain ⟨k, _, hk⟩ := hJk i p hp
      exact hst.own k p b hk hb
    · intro i p hp
      obtain ⟨o, ho⟩ := hm.dom i p hp
      have hi : i < objs.length := (List.getElem?_eq_some_iff.1 ho).1
      obtain ⟨p', hp', hl⟩ := hst.stay i p (by omega) hp
      have hnmi : nm[i]? = some i := by rw [← hnm, upTo_get hi, Nat.zero_add]
      refine ⟨p', ?_, hl⟩
      simp only [hnmi, Option.bind_some]
      rw [less_of (fun hmem => outside_ok i hmem (List.mem_of_getElem? hnmi))]
      exact hp'
  have endOf : ∀ {st' : St} {J1 : Nat → Option Place} {a1 : Act} {w1 : World} {K : St → Prop}, atEnd nm st' K → Rel X0 J1 st' a1 w1 → Step J w J1 w1 → ∃ st2 J2, K st2 ∧ Rel X0 J2 st2 a1 w1 ∧ Step J w J2 w1 := by
    intro st' J1 a1 w1 K h r hst
    unfold atEnd at h
    split at h
    · split at h
      · exact ⟨st', J1, h, r, hst⟩
      · rw [St.force_eq] at h
        obtain ⟨J2, r2, s2⟩ := norm_rel r nm
        exact ⟨_, J2, h, r2, hst.trans s2⟩
    · rw [St.force_eq] at h
      obtain ⟨J2, r2, s2⟩ := shuts_rel (objKeys st'.obj) r
      obtain ⟨J3, r3, s3⟩ := norm_rel r2 nm
      exact ⟨_, J3, h, r3, (hst.trans s2).trans s3⟩
  intro e st' J1 a1 w1 hK r hsz hst0
  have hst := s0.trans hst0
  cases e with
  | normal => obtain ⟨st2, J2, h2, r2, s2⟩ := endOf hK r hst; exact key st2 J2 a1 w1 h2 r2 s2
  | exit i => exact hK.elim
  | ret => obtain ⟨st2, J2, h2, r2, s2⟩ := endOf hK r hst; exact key st2 J2 a1 w1 h2 r2 s2
theorem ent_ofN (tok : TOk P cx.T) (hmx : P.follows .mixedOrders = true) {f : FuncId} {fn : Func} (hf : P.funcs[f]? = some fn) (hname : (fn.name == "runtime.NumGoroutine") = false)
    {keep : Bool} {nm : List KO} {args : List AV} {objs : List Ob} {Q : AV → List Ob → Prop} (h : evFn P cx fn keep nm args objs Q) : EntQ P f args objs Q := ent_ofSN tok hmx hf hname (ks := []) h
theorem ent_of (tok : TOk P cx.T) (hmx : P.follows .mixedOrders = true) {f : FuncId} {fn : Func} (hf : P.funcs[f]? = some fn) (hname : (fn.name == "runtime.NumGoroutine") = false)
    {keep : Bool} {args : List AV} {objs : List Ob} {Q : AV → List Ob → Prop} (h : evFn P cx fn keep [] args objs Q) : EntQ P f args objs Q := ent_ofN tok hmx hf hname h
end
theorem isEx {α : Sort _} {p : α → Prop} (h : Exists p) : Exists p := h
theorem isAnd {a b : Prop} (h : a ∧ b) : a ∧ b := h
theorem isOr {a b : Prop} (h : a ∨ b) : a ∨ b := h
theorem isCall {P : Program} {f : FuncId} {args : List AV} {objs : List Ob} {q : (AV → List Ob → Prop) → Prop} (h : ∃ Q, EntQ P f args objs Q ∧ q Q) : ∃ Q, EntQ P f args objs Q ∧ q Q := h
theorem isLoop {q : List Nat → Prop} (h : ∃ L : List Nat, q L) : ∃ L : List Nat, q L := h
theorem isSmall {obj : List (Nat × Ob)} {ks : List Nat} {Q : Prop} (h : smallsIn obj ks = true ∧ Q) : smallsIn obj ks = true ∧ Q := h
theorem isCut {id : Nat} {q : Cut id → Prop} (h : ∃ c : Cut id, q c) : ∃ c : Cut id, q c := h
theorem isGet {xs : List D} {i : Nat} {q : D → Prop} (h : ∃ x, xs[i]? = some x ∧ q x) : ∃ x, xs[i]? = some x ∧ q x := h
end Go.Pm
namespace Go.Pm.Tryz
open Go
def tab : List TD :=
[
  { kind := Go.Pm.TK.other, size := 1, bytes := 0, zero := none, eq := none },
  { kind := Go.Pm.TK.other, size := 1, bytes := 8, zero := some [Go.Pm.AV.c Go.Value.nilFunc], eq := none },
  { kind := Go.Pm.TK.int Go.IntKind.i64, size := 1, bytes := 8, zero := some [Go.Pm.AV.d (Go.Pm.D.i Go.IntKind.i64 (Int.ofNat 0))], eq := some [Go.Pm.FK.int Go.IntKind.i64] },
  { kind := Go.Pm.TK.int Go.IntKind.i64, size := 1, bytes := 8, zero := some [Go.Pm.AV.d (Go.Pm.D.i Go.IntKind.i64 (Int.ofNat 0))], eq := some [Go.Pm.FK.int Go.IntKind.i64] },
  { kind := Go.Pm.TK.bool, size := 1, bytes := 1, zero := some [Go.Pm.AV.d (Go.Pm.D.b false)], eq := some [Go.Pm.FK.bool] },
  { kind := Go.Pm.TK.int Go.IntKind.u8, size := 1, bytes := 1, zero := some [Go.Pm.AV.d (Go.Pm.D.i Go.IntKind.u8 (Int.ofNat 0))], eq := some [Go.Pm.FK.int Go.IntKind.u8] },
  { kind := Go.Pm.TK.int Go.IntKind.u8, size := 1, bytes := 1, zero := some [Go.Pm.AV.d (Go.Pm.D.i Go.IntKind.u8 (Int.ofNat 0))], eq := some [Go.Pm.FK.int Go.IntKind.u8] },
  { kind := Go.Pm.TK.struct [(0, 2, 1), (1, 3, 1), (2, 4, 1), (3, 6, 1)], size := 4, bytes := 24, zero := some [Go.Pm.AV.d (Go.Pm.D.i Go.IntKind.i64 (Int.ofNat 0)), Go.Pm.AV.d (Go.Pm.D.i Go.IntKind.i64 (Int.ofNat 0)), Go.Pm.AV.d (Go.Pm.D.b false), Go.Pm.AV.d (Go.Pm.D.i Go.IntKind.u8 (Int.ofNat 0))], eq := some [Go.Pm.FK.int Go.IntKind.i64, Go.Pm.FK.int Go.IntKind.i64, Go.Pm.FK.bool, Go.Pm.FK.int Go.IntKind.u8] },
  { kind := Go.Pm.TK.struct [(0, 2, 1), (1, 3, 1), (2, 4, 1), (3, 6, 1)], size := 4, bytes := 24, zero := some [Go.Pm.AV.d (Go.Pm.D.i Go.IntKind.i64 (Int.ofNat 0)), Go.Pm.AV.d (Go.Pm.D.i Go.IntKind.i64 (Int.ofNat 0)), Go.Pm.AV.d (Go.Pm.D.b false), Go.Pm.AV.d (Go.Pm.D.i Go.IntKind.u8 (Int.ofNat 0))], eq := some [Go.Pm.FK.int Go.IntKind.i64, Go.Pm.FK.int Go.IntKind.i64, Go.Pm.FK.bool, Go.Pm.FK.int Go.IntKind.u8] },
  { kind := Go.Pm.TK.str, size := 1, bytes := 16, zero := some [Go.Pm.AV.d (Go.Pm.D.s [])], eq := some [Go.Pm.FK.str] },
  { kind := Go.Pm.TK.str, size := 1, bytes := 16, zero := some [Go.Pm.AV.d (Go.Pm.D.s [])], eq := some [Go.Pm.FK.str] },
  { kind := Go.Pm.TK.str, size := 1, bytes := 16, zero := some [Go.Pm.AV.d (Go.Pm.D.s [])], eq := some [Go.Pm.FK.str] },
  { kind := Go.Pm.TK.int Go.IntKind.u64, size := 1, bytes := 8, zero := some [Go.Pm.AV.d (Go.Pm.D.i Go.IntKind.u64 (Int.ofNat 0))], eq := some [Go.Pm.FK.int Go.IntKind.u64] },
  { kind := Go.Pm.TK.struct [(0, 9, 1), (1, 12, 1)], size := 2, bytes := 24, zero := some [Go.Pm.AV.d (Go.Pm.D.s []), Go.Pm.AV.d (Go.Pm.D.i Go.IntKind.u64 (Int.ofNat 0))], eq := none },
  { kind := Go.Pm.TK.struct [(0, 9, 1), (1, 12, 1)], size := 2, bytes := 24, zero := some [Go.Pm.AV.d (Go.Pm.D.s []), Go.Pm.AV.d (Go.Pm.D.i Go.IntKind.u64 (Int.ofNat 0))], eq := none },
  { kind := Go.Pm.TK.ptr 277, size := 1, bytes := 8, zero := some [Go.Pm.AV.c (Go.Value.pointer none)], eq := none },
  { kind := Go.Pm.TK.ptr 280, size := 1, bytes := 8, zero := some [Go.Pm.AV.c (Go.Value.pointer none)], eq := none },
  { kind := Go.Pm.TK.ptr 287, size := 1, bytes := 8, zero := some [Go.Pm.AV.c (Go.Value.pointer none)], eq := none },
  { kind := Go.Pm.TK.struct [(0, 17, 1)], size := 1, bytes := 8, zero := some [Go.Pm.AV.c (Go.Value.pointer none)], eq := none },
  { kind := Go.Pm.TK.struct [(0, 17, 1)], size := 1, bytes := 8, zero := some [Go.Pm.AV.c (Go.Value.pointer none)], eq := none },
  { kind := Go.Pm.TK.other, size := 1, bytes := 16, zero := some [Go.Pm.AV.c Go.Value.nilIface], eq := none },
  { kind := Go.Pm.TK.int Go.IntKind.i32, size := 1, bytes := 4, zero := some [Go.Pm.AV.d (Go.Pm.D.i Go.IntKind.i32 (Int.ofNat 0))], eq := some [Go.Pm.FK.int Go.IntKind.i32] },
  { kind := Go.Pm.TK.slice 9, size := 1, bytes := 24, zero := some [Go.Pm.AV.snil], eq := none },
  { kind := Go.Pm.TK.slice 153, size := 1, bytes := 24, zero := some [Go.Pm.AV.snil], eq := none },
  { kind := Go.Pm.TK.struct [(0, 22, 1), (1, 23, 1)], size := 2, bytes := 48, zero := some [Go.Pm.AV.snil, Go.Pm.AV.snil], eq := none },
  { kind := Go.Pm.TK.struct [(0, 22, 1), (1, 23, 1)], size := 2, bytes := 48, zero := some [Go.Pm.AV.snil, Go.Pm.AV.snil], eq := none },
  { kind := Go.Pm.TK.slice 161, size := 1, bytes := 24, zero := some [Go.Pm.AV.snil], eq := none },
  { kind := Go.Pm.TK.struct [(0, 26, 1)], size := 1, bytes := 24, zero := some [Go.Pm.AV.snil], eq := none },
  { kind := Go.Pm.TK.struct [(0, 26, 1)], size := 1, bytes := 24, zero := some [Go.Pm.AV.snil], eq := none },
  { kind := Go.Pm.TK.struct [(0, 25, 2), (2, 28, 1), (3, 2, 1), (4, 2, 1)], size := 5, bytes := 88, zero := some [Go.Pm.AV.snil, Go.Pm.AV.snil, Go.Pm.AV.snil, Go.Pm.AV.d (Go.Pm.D.i Go.IntKind.i64 (Int.ofNat 0)), Go.Pm.AV.d (Go.Pm.D.i Go.IntKind.i64 (Int.ofNat 0))], eq := none },
  { kind := Go.Pm.TK.struct [(0, 25, 2), (2, 28, 1), (3, 2, 1), (4, 2, 1)], size := 5, bytes := 88, zero := some [Go.Pm.AV.snil, Go.Pm.AV.snil, Go.Pm.AV.snil, Go.Pm.AV.d (Go.Pm.D.i Go.IntKind.i64 (Int.ofNat 0)), Go.Pm.AV.d (Go.Pm.D.i Go.IntKind.i64 (Int.ofNat 0))], eq := none },
  { kind := Go.Pm.TK.other, size := 1, bytes := 8, zero := some [Go.Pm.AV.c Go.Value.nilFunc], eq := none },
  { kind := Go.Pm.TK.other, size := 1, bytes := 8, zero := some [Go.Pm.AV.c Go.Value.nilFunc], eq := none },
  { kind := Go.Pm.TK.slice 162, size := 1, bytes := 24, zero := some [Go.Pm.AV.snil], eq := none },
  { kind := Go.Pm.TK.struct [(0, 22, 1), (1, 33, 1)], size := 2, bytes := 48, zero := some [Go.Pm.AV.snil, Go.Pm.AV.snil], eq := none },
  { kind := Go.Pm.TK.struct [(0, 22, 1), (1, 33, 1)], size := 2, bytes := 48, zero := some [Go.Pm.AV.snil, Go.Pm.AV.snil], eq := none },
  { kind := Go.Pm.TK.slice 80, size := 1, bytes := 24, zero := some [Go.Pm.AV.snil], eq := none },
  { kind := Go.Pm.TK.struct [(0, 36, 1)], size := 1, bytes := 24, zero := some [Go.Pm.AV.snil], eq := none },
  { kind := Go.Pm.TK.struct [(0, 36, 1)], size := 1, bytes := 24, zero := some [Go.Pm.AV.snil], eq := none },
  { kind := Go.Pm.TK.struct [(0, 35, 2), (2, 38, 1), (3, 2, 1), (4, 2, 1)], size := 5, bytes := 88, zero := some [Go.Pm.AV.snil, Go.Pm.AV.snil, Go.Pm.AV.snil, Go.Pm.AV.d (Go.Pm.D.i Go.IntKind.i64 (Int.ofNat 0)), Go.Pm.AV.d (Go.Pm.D.i Go.IntKind.i64 (Int.ofNat 0))], eq := none },
  { kind := Go.Pm.TK.struct [(0, 35, 2), (2, 38, 1), (3, 2, 1), (4, 2, 1)], size := 5, bytes := 88, zero := some [Go.Pm.AV.snil, Go.Pm.AV.snil, Go.Pm.AV.snil, Go.Pm.AV.d (Go.Pm.D.i Go.IntKind.i64 (Int.ofNat 0)), Go.Pm.AV.d (Go.Pm.D.i Go.IntKind.i64 (Int.ofNat 0))], eq := none },
  { kind := Go.Pm.TK.other, size := 1, bytes := 8, zero := some [Go.Pm.AV.c Go.Value.nilFunc], eq := none },
  { kind := Go.Pm.TK.other, size := 1, bytes := 8, zero := some [Go.Pm.AV.c Go.Value.nilFunc], eq := none },
  { kind := Go.Pm.TK.other, size := 1, bytes := 8, zero := some [Go.Pm.AV.c Go.Value.nilFunc], eq := none },
  { kind := Go.Pm.TK.slice 2, size := 1, bytes := 24, zero := some [Go.Pm.AV.snil], eq := none },
  { kind := Go.Pm.TK.other, size := 1, bytes := 8, zero := some [Go.Pm.AV.c Go.Value.nilFunc], eq := none },
  { kind := Go.Pm.TK.other, size := 1, bytes := 8, zero := some [Go.Pm.AV.c Go.Value.nilFunc], eq := none },
  { kind := Go.Pm.TK.other, size := 1, bytes := 8, zero := some [Go.Pm.AV.c Go.Value.nilFunc], eq := none },
  { kind := Go.Pm.TK.other, size := 1, bytes := 8, zero := some [Go.Pm.AV.c Go.Value.nilFunc], eq := none },
  { kind := Go.Pm.TK.slice 102, size := 1, bytes := 24, zero := some [Go.Pm.AV.snil], eq := none },
  { kind := Go.Pm.TK.other, size := 1, bytes := 8, zero := some [Go.Pm.AV.c Go.Value.nilFunc], eq := none },
  { kind := Go.Pm.TK.other, size := 1, bytes := 8, zero := some [Go.Pm.AV.c Go.Value.nilFunc], eq := none },
  { kind := Go.Pm.TK.other, size := 1, bytes := 8, zero := some [Go.Pm.AV.c Go.Value.nilFunc], eq := none },
  { kind := Go.Pm.TK.slice 100, size := 1, bytes := 24, zero := some [Go.Pm.AV.snil], eq := none },
  { kind := Go.Pm.TK.struct [(0, 9, 1), (1, 53, 1), (2, 2, 1)], size := 3, bytes := 48, zero := some [Go.Pm.AV.d (Go.Pm.D.s []), Go.Pm.AV.snil, Go.Pm.AV.d (Go.Pm.D.i Go.IntKind.i64 (Int.ofNat 0))], eq := none },
  { kind := Go.Pm.TK.struct [(0, 9, 1), (1, 53, 1), (2, 2, 1)], size := 3, bytes := 48, zero := some [Go.Pm.AV.d (Go.Pm.D.s []), Go.Pm.AV.snil, Go.Pm.AV.d (Go.Pm.D.i Go.IntKind.i64 (Int.ofNat 0))], eq := none },
  { kind := Go.Pm.TK.struct [(0, 2, 1), (1, 2, 1), (2, 2, 1), (3, 2, 1), (4, 4, 1), (5, 2, 1)], size := 6, bytes := 48, zero := some [Go.Pm.AV.d (Go.Pm.D.i Go.IntKind.i64 (Int.ofNat 0)), Go.Pm.AV.d (Go.Pm.D.i Go.IntKind.i64 (Int.ofNat 0)), Go.Pm.AV.d (Go.Pm.D.i Go.IntKind.i64 (Int.ofNat 0)), Go.Pm.AV.d (Go.Pm.D.i Go.IntKind.i64 (Int.ofNat 0)), Go.Pm.AV.d (Go.Pm.D.b false), Go.Pm.AV.d (Go.Pm.D.i Go.IntKind.i64 (Int.ofNat 0))], eq := some [Go.Pm.FK.int Go.IntKind.i64, Go.Pm.FK.int Go.IntKind.i64, Go.Pm.FK.int Go.IntKind.i64, Go.Pm.FK.int Go.IntKind.i64, Go.Pm.FK.bool, Go.Pm.FK.int Go.IntKind.i64] },
  { kind := Go.Pm.TK.struct [(0, 2, 1), (1, 2, 1), (2, 2, 1), (3, 2, 1), (4, 4, 1), (5, 2, 1)], size := 6, bytes := 48, zero := some [Go.Pm.AV.d (Go.Pm.D.i Go.IntKind.i64 (Int.ofNat 0)), Go.Pm.AV.d (Go.Pm.D.i Go.IntKind.i64 (Int.ofNat 0)), Go.Pm.AV.d (Go.Pm.D.i Go.IntKind.i64 (Int.ofNat 0)), Go.Pm.AV.d (Go.Pm.D.i Go.IntKind.i64 (Int.ofNat 0)), Go.Pm.AV.d (Go.Pm.D.b false), Go.Pm.AV.d (Go.Pm.D.i Go.IntKind.i64 (Int.ofNat 0))], eq := some [Go.Pm.FK.int Go.IntKind.i64, Go.Pm.FK.int Go.IntKind.i64, Go.Pm.FK.int Go.IntKind.i64, Go.Pm.FK.int Go.IntKind.i64, Go.Pm.FK.bool, Go.Pm.FK.int Go.IntKind.i64] },
  { kind := Go.Pm.TK.struct [(0, 55, 3), (3, 57, 6), (9, 2, 1), (10, 2, 1)], size := 11, bytes := 112, zero := some [Go.Pm.AV.d (Go.Pm.D.s []), Go.Pm.AV.snil, Go.Pm.AV.d (Go.Pm.D.i Go.IntKind.i64 (Int.ofNat 0)), Go.Pm.AV.d (Go.Pm.D.i Go.IntKind.i64 (Int.ofNat 0)), Go.Pm.AV.d (Go.Pm.D.i Go.IntKind.i64 (Int.ofNat 0)), Go.Pm.AV.d (Go.Pm.D.i Go.IntKind.i64 (Int.ofNat 0)), Go.Pm.AV.d (Go.Pm.D.i Go.IntKind.i64 (Int.ofNat 0)), Go.Pm.AV.d (Go.Pm.D.b false), Go.Pm.AV.d (Go.Pm.D.i Go.IntKind.i64 (Int.ofNat 0)), Go.Pm.AV.d (Go.Pm.D.i Go.IntKind.i64 (Int.ofNat 0)), Go.Pm.AV.d (Go.Pm.D.i Go.IntKind.i64 (Int.ofNat 0))], eq := none },
  { kind := Go.Pm.TK.struct [(0, 55, 3), (3, 57, 6), (9, 2, 1), (10, 2, 1)], size := 11, bytes := 112, zero := some [Go.Pm.AV.d (Go.Pm.D.s []), Go.Pm.AV.snil, Go.Pm.AV.d (Go.Pm.D.i Go.IntKind.i64 (Int.ofNat 0)), Go.Pm.AV.d (Go.Pm.D.i Go.IntKind.i64 (Int.ofNat 0)), Go.Pm.AV.d (Go.Pm.D.i Go.IntKind.i64 (Int.ofNat 0)), Go.Pm.AV.d (Go.Pm.D.i Go.IntKind.i64 (Int.ofNat 0)), Go.Pm.AV.d (Go.Pm.D.i Go.IntKind.i64 (Int.ofNat 0)), Go.Pm.AV.d (Go.Pm.D.b false), Go.Pm.AV.d (Go.Pm.D.i Go.IntKind.i64 (Int.ofNat 0)), Go.Pm.AV.d (Go.Pm.D.i Go.IntKind.i64 (Int.ofNat 0)), Go.Pm.AV.d (Go.Pm.D.i Go.IntKind.i64 (Int.ofNat 0))], eq := none },
  { kind := Go.Pm.TK.other, size := 1, bytes := 8, zero := some [Go.Pm.AV.c Go.Value.nilFunc], eq := none },
  { kind := Go.Pm.TK.other, size := 1, bytes := 8, zero := some [Go.Pm.AV.c Go.Value.nilFunc], eq := none },
  { kind := Go.Pm.TK.other, size := 1, bytes := 8, zero := some [Go.Pm.AV.c Go.Value.nilFunc], eq := none },
  { kind := Go.Pm.TK.other, size := 1, bytes := 8, zero := some [Go.Pm.AV.c Go.Value.nilFunc], eq := none },
  { kind := Go.Pm.TK.other, size := 1, bytes := 8, zero := some [Go.Pm.AV.c Go.Value.nilFunc], eq := none },
  { kind := Go.Pm.TK.other, size := 1, bytes := 8, zero := some [Go.Pm.AV.c Go.Value.nilFunc], eq := none },
  { kind := Go.Pm.TK.other, size := 1, bytes := 8, zero := some [Go.Pm.AV.c Go.Value.nilFunc], eq := none },
  { kind := Go.Pm.TK.other, size := 1, bytes := 8, zero := some [Go.Pm.AV.c Go.Value.nilFunc], eq := none },
  { kind := Go.Pm.TK.other, size := 1, bytes := 8, zero := some [Go.Pm.AV.c Go.Value.nilFunc], eq := none },
  { kind := Go.Pm.TK.ptr 88, size := 1, bytes := 8, zero := some [Go.Pm.AV.c (Go.Value.pointer none)], eq := none },
  { kind := Go.Pm.TK.other, size := 1, bytes := 0, zero := none, eq := none },
  { kind := Go.Pm.TK.other, size := 1, bytes := 8, zero := some [Go.Pm.AV.c Go.Value.nilFunc], eq := none },
  { kind := Go.Pm.TK.other, size := 1, bytes := 8, zero := some [Go.Pm.AV.c Go.Value.nilFunc], eq := none },
  { kind := Go.Pm.TK.other, size := 1, bytes := 8, zero := some [Go.Pm.AV.c Go.Value.nilFunc], eq := none },
  { kind := Go.Pm.TK.slice 171, size := 1, bytes := 24, zero := some [Go.Pm.AV.snil], eq := none },
  { kind := Go.Pm.TK.slice 166, size := 1, bytes := 24, zero := some [Go.Pm.AV.snil], eq := none },
  { kind := Go.Pm.TK.struct [(0, 9, 1), (1, 74, 1), (2, 44, 1), (3, 75, 1)], size := 4, bytes := 88, zero := some [Go.Pm.AV.d (Go.Pm.D.s []), Go.Pm.AV.snil, Go.Pm.AV.snil, Go.Pm.AV.snil], eq := none },
  { kind := Go.Pm.TK.struct [(0, 9, 1), (1, 74, 1), (2, 44, 1), (3, 75, 1)], size := 4, bytes := 88, zero := some [Go.Pm.AV.d (Go.Pm.D.s []), Go.Pm.AV.snil, Go.Pm.AV.snil, Go.Pm.AV.snil], eq := none },
  { kind := Go.Pm.TK.slice 83, size := 1, bytes := 24, zero := some [Go.Pm.AV.snil], eq := none },
  { kind := Go.Pm.TK.struct [(0, 77, 4), (4, 78, 1)], size := 5, bytes := 112, zero := some [Go.Pm.AV.d (Go.Pm.D.s []), Go.Pm.AV.snil, Go.Pm.AV.snil, Go.Pm.AV.snil, Go.Pm.AV.snil], eq := none },
  { kind := Go.Pm.TK.struct [(0, 77, 4), (4, 78, 1)], size := 5, bytes := 112, zero := some [Go.Pm.AV.d (Go.Pm.D.s []), Go.Pm.AV.snil, Go.Pm.AV.snil, Go.Pm.AV.snil, Go.Pm.AV.snil], eq := none },
  { kind := Go.Pm.TK.struct [(0, 2, 1), (1, 2, 1), (2, 9, 1)], size := 3, bytes := 32, zero := some [Go.Pm.AV.d (Go.Pm.D.i Go.IntKind.i64 (Int.ofNat 0)), Go.Pm.AV.d (Go.Pm.D.i Go.IntKind.i64 (Int.ofNat 0)), Go.Pm.AV.d (Go.Pm.D.s [])], eq := some [Go.Pm.FK.int Go.IntKind.i64, Go.Pm.FK.int Go.IntKind.i64, Go.Pm.FK.str] },
  { kind := Go.Pm.TK.struct [(0, 2, 1), (1, 2, 1), (2, 9, 1)], size := 3, bytes := 32, zero := some [Go.Pm.AV.d (Go.Pm.D.i Go.IntKind.i64 (Int.ofNat 0)), Go.Pm.AV.d (Go.Pm.D.i Go.IntKind.i64 (Int.ofNat 0)), Go.Pm.AV.d (Go.Pm.D.s [])], eq := some [Go.Pm.FK.int Go.IntKind.i64, Go.Pm.FK.int Go.IntKind.i64, Go.Pm.FK.str] },
  { kind := Go.Pm.TK.slice 82, size := 1, bytes := 24, zero := some [Go.Pm.AV.snil], eq := none },
  { kind := Go.Pm.TK.slice 55, size := 1, bytes := 24, zero := some [Go.Pm.AV.snil], eq := none },
  { kind := Go.Pm.TK.slice 90, size := 1, bytes := 24, zero := some [Go.Pm.AV.snil], eq := none },
  { kind := Go.Pm.TK.slice 104, size := 1, bytes := 24, zero := some [Go.Pm.AV.snil], eq := none },
  { kind := Go.Pm.TK.struct [(0, 84, 1), (1, 85, 1), (2, 86, 1)], size := 3, bytes := 72, zero := some [Go.Pm.AV.snil, Go.Pm.AV.snil, Go.Pm.AV.snil], eq := none },
  { kind := Go.Pm.TK.struct [(0, 84, 1), (1, 85, 1), (2, 86, 1)], size := 3, bytes := 72, zero := some [Go.Pm.AV.snil, Go.Pm.AV.snil, Go.Pm.AV.snil], eq := none },
  { kind := Go.Pm.TK.struct [(0, 2, 1), (1, 2, 1), (2, 9, 1), (3, 57, 6)], size := 9, bytes := 80, zero := some [Go.Pm.AV.d (Go.Pm.D.i Go.IntKind.i64 (Int.ofNat 0)), Go.Pm.AV.d (Go.Pm.D.i Go.IntKind.i64 (Int.ofNat 0)), Go.Pm.AV.d (Go.Pm.D.s []), Go.Pm.AV.d (Go.Pm.D.i Go.IntKind.i64 (Int.ofNat 0)), Go.Pm.AV.d (Go.Pm.D.i Go.IntKind.i64 (Int.ofNat 0)), Go.Pm.AV.d (Go.Pm.D.i Go.IntKind.i64 (Int.ofNat 0)), Go.Pm.AV.d (Go.Pm.D.i Go.IntKind.i64 (Int.ofNat 0)), Go.Pm.AV.d (Go.Pm.D.b false), Go.Pm.AV.d (Go.Pm.D.i Go.IntKind.i64 (Int.ofNat 0))], eq := some [Go.Pm.FK.int Go.IntKind.i64, Go.Pm.FK.int Go.IntKind.i64, Go.Pm.FK.str, Go.Pm.FK.int Go.IntKind.i64, Go.Pm.FK.int Go.IntKind.i64, Go.Pm.FK.int Go.IntKind.i64, Go.Pm.FK.int Go.IntKind.i64, Go.Pm.FK.bool, Go.Pm.FK.int Go.IntKind.i64] },
  { kind := Go.Pm.TK.struct [(0, 2, 1), (1, 2, 1), (2, 9, 1), (3, 57, 6)], size := 9, bytes := 80, zero := some [Go.Pm.AV.d (Go.Pm.D.i Go.IntKind.i64 (Int.ofNat 0)), Go.Pm.AV.d (Go.Pm.D.i Go.IntKind.i64 (Int.ofNat 0)), Go.Pm.AV.d (Go.Pm.D.s []), Go.Pm.AV.d (Go.Pm.D.i Go.IntKind.i64 (Int.ofNat 0)), Go.Pm.AV.d (Go.Pm.D.i Go.IntKind.i64 (Int.ofNat 0)), Go.Pm.AV.d (Go.Pm.D.i Go.IntKind.i64 (Int.ofNat 0)), Go.Pm.AV.d (Go.Pm.D.i Go.IntKind.i64 (Int.ofNat 0)), Go.Pm.AV.d (Go.Pm.D.b false), Go.Pm.AV.d (Go.Pm.D.i Go.IntKind.i64 (Int.ofNat 0))], eq := some [Go.Pm.FK.int Go.IntKind.i64, Go.Pm.FK.int Go.IntKind.i64, Go.Pm.FK.str, Go.Pm.FK.int Go.IntKind.i64, Go.Pm.FK.int Go.IntKind.i64, Go.Pm.FK.int Go.IntKind.i64, Go.Pm.FK.int Go.IntKind.i64, Go.Pm.FK.bool, Go.Pm.FK.int Go.IntKind.i64] },
  { kind := Go.Pm.TK.other, size := 1, bytes := 8, zero := some [Go.Pm.AV.c Go.Value.nilFunc], eq := none },
  { kind := Go.Pm.TK.other, size := 1, bytes := 8, zero := some [Go.Pm.AV.c Go.Value.nilFunc], eq := none },
  { kind := Go.Pm.TK.struct [(0, 2, 1), (1, 4, 1), (2, 2, 1)], size := 3, bytes := 24, zero := some [Go.Pm.AV.d (Go.Pm.D.i Go.IntKind.i64 (Int.ofNat 0)), Go.Pm.AV.d (Go.Pm.D.b false), Go.Pm.AV.d (Go.Pm.D.i Go.IntKind.i64 (Int.ofNat 0))], eq := some [Go.Pm.FK.int Go.IntKind.i64, Go.Pm.FK.bool, Go.Pm.FK.int Go.IntKind.i64] },
  { kind := Go.Pm.TK.struct [(0, 2, 1), (1, 4, 1), (2, 2, 1)], size := 3, bytes := 24, zero := some [Go.Pm.AV.d (Go.Pm.D.i Go.IntKind.i64 (Int.ofNat 0)), Go.Pm.AV.d (Go.Pm.D.b false), Go.Pm.AV.d (Go.Pm.D.i Go.IntKind.i64 (Int.ofNat 0))], eq := some [Go.Pm.FK.int Go.IntKind.i64, Go.Pm.FK.bool, Go.Pm.FK.int Go.IntKind.i64] },
  { kind := Go.Pm.TK.other, size := 1, bytes := 8, zero := some [Go.Pm.AV.c Go.Value.nilFunc], eq := none },
  { kind := Go.Pm.TK.other, size := 1, bytes := 0, zero := none, eq := none },
  { kind := Go.Pm.TK.other, size := 1, bytes := 8, zero := some [Go.Pm.AV.c Go.Value.nilFunc], eq := none },
  { kind := Go.Pm.TK.other, size := 1, bytes := 8, zero := some [Go.Pm.AV.c Go.Value.nilFunc], eq := none },
  { kind := Go.Pm.TK.struct [(0, 9, 1), (1, 9, 1), (2, 9, 1), (3, 2, 1), (4, 2, 1), (5, 2, 1)], size := 6, bytes := 72, zero := some [Go.Pm.AV.d (Go.Pm.D.s []), Go.Pm.AV.d (Go.Pm.D.s []), Go.Pm.AV.d (Go.Pm.D.s []), Go.Pm.AV.d (Go.Pm.D.i Go.IntKind.i64 (Int.ofNat 0)), Go.Pm.AV.d (Go.Pm.D.i Go.IntKind.i64 (Int.ofNat 0)), Go.Pm.AV.d (Go.Pm.D.i Go.IntKind.i64 (Int.ofNat 0))], eq := some [Go.Pm.FK.str, Go.Pm.FK.str, Go.Pm.FK.str, Go.Pm.FK.int Go.IntKind.i64, Go.Pm.FK.int Go.IntKind.i64, Go.Pm.FK.int Go.IntKind.i64] },
  { kind := Go.Pm.TK.struct [(0, 9, 1), (1, 9, 1), (2, 9, 1), (3, 2, 1), (4, 2, 1), (5, 2, 1)], size := 6, bytes := 72, zero := some [Go.Pm.AV.d (Go.Pm.D.s []), Go.Pm.AV.d (Go.Pm.D.s []), Go.Pm.AV.d (Go.Pm.D.s []), Go.Pm.AV.d (Go.Pm.D.i Go.IntKind.i64 (Int.ofNat 0)), Go.Pm.AV.d (Go.Pm.D.i Go.IntKind.i64 (Int.ofNat 0)), Go.Pm.AV.d (Go.Pm.D.i Go.IntKind.i64 (Int.ofNat 0))], eq := some [Go.Pm.FK.str, Go.Pm.FK.str, Go.Pm.FK.str, Go.Pm.FK.int Go.IntKind.i64, Go.Pm.FK.int Go.IntKind.i64, Go.Pm.FK.int Go.IntKind.i64] },
  { kind := Go.Pm.TK.struct [(0, 2, 1), (1, 2, 1), (2, 2, 1), (3, 4, 1), (4, 2, 1), (5, 9, 1), (6, 4, 1), (7, 2, 1), (8, 2, 1)], size := 9, bytes := 80, zero := some [Go.Pm.AV.d (Go.Pm.D.i Go.IntKind.i64 (Int.ofNat 0)), Go.Pm.AV.d (Go.Pm.D.i Go.IntKind.i64 (Int.ofNat 0)), Go.Pm.AV.d (Go.Pm.D.i Go.IntKind.i64 (Int.ofNat 0)), Go.Pm.AV.d (Go.Pm.D.b false), Go.Pm.AV.d (Go.Pm.D.i Go.IntKind.i64 (Int.ofNat 0)), Go.Pm.AV.d (Go.Pm.D.s []), Go.Pm.AV.d (Go.Pm.D.b false), Go.Pm.AV.d (Go.Pm.D.i Go.IntKind.i64 (Int.ofNat 0)), Go.Pm.AV.d (Go.Pm.D.i Go.IntKind.i64 (Int.ofNat 0))], eq := some [Go.Pm.FK.int Go.IntKind.i64, Go.Pm.FK.int Go.IntKind.i64, Go.Pm.FK.int Go.IntKind.i64, Go.Pm.FK.bool, Go.Pm.FK.int Go.IntKind.i64, Go.Pm.FK.str, Go.Pm.FK.bool, Go.Pm.FK.int Go.IntKind.i64, Go.Pm.FK.int Go.IntKind.i64] },
  { kind := Go.Pm.TK.struct [(0, 2, 1), (1, 2, 1), (2, 2, 1), (3, 4, 1), (4, 2, 1), (5, 9, 1), (6, 4, 1), (7, 2, 1), (8, 2, 1)], size := 9, bytes := 80, zero := some [Go.Pm.AV.d (Go.Pm.D.i Go.IntKind.i64 (Int.ofNat 0)), Go.Pm.AV.d (Go.Pm.D.i Go.IntKind.i64 (Int.ofNat 0)), Go.Pm.AV.d (Go.Pm.D.i Go.IntKind.i64 (Int.ofNat 0)), Go.Pm.AV.d (Go.Pm.D.b false), Go.Pm.AV.d (Go.Pm.D.i Go.IntKind.i64 (Int.ofNat 0)), Go.Pm.AV.d (Go.Pm.D.s []), Go.Pm.AV.d (Go.Pm.D.b false), Go.Pm.AV.d (Go.Pm.D.i Go.IntKind.i64 (Int.ofNat 0)), Go.Pm.AV.d (Go.Pm.D.i Go.IntKind.i64 (Int.ofNat 0))], eq := some [Go.Pm.FK.int Go.IntKind.i64, Go.Pm.FK.int Go.IntKind.i64, Go.Pm.FK.int Go.IntKind.i64, Go.Pm.FK.bool, Go.Pm.FK.int Go.IntKind.i64, Go.Pm.FK.str, Go.Pm.FK.bool, Go.Pm.FK.int Go.IntKind.i64, Go.Pm.FK.int Go.IntKind.i64] },
  { kind := Go.Pm.TK.struct [(0, 2, 1), (1, 2, 1), (2, 94, 3), (5, 4, 1), (6, 2, 1), (7, 2, 1)], size := 8, bytes := 64, zero := some [Go.Pm.AV.d (Go.Pm.D.i Go.IntKind.i64 (Int.ofNat 0)), Go.Pm.AV.d (Go.Pm.D.i Go.IntKind.i64 (Int.ofNat 0)), Go.Pm.AV.d (Go.Pm.D.i Go.IntKind.i64 (Int.ofNat 0)), Go.Pm.AV.d (Go.Pm.D.b false), Go.Pm.AV.d (Go.Pm.D.i Go.IntKind.i64 (Int.ofNat 0)), Go.Pm.AV.d (Go.Pm.D.b false), Go.Pm.AV.d (Go.Pm.D.i Go.IntKind.i64 (Int.ofNat 0)), Go.Pm.AV.d (Go.Pm.D.i Go.IntKind.i64 (Int.ofNat 0))], eq := some [Go.Pm.FK.int Go.IntKind.i64, Go.Pm.FK.int Go.IntKind.i64, Go.Pm.FK.int Go.IntKind.i64, Go.Pm.FK.bool, Go.Pm.FK.int Go.IntKind.i64, Go.Pm.FK.bool, Go.Pm.FK.int Go.IntKind.i64, Go.Pm.FK.int Go.IntKind.i64] },
  { kind := Go.Pm.TK.struct [(0, 2, 1), (1, 2, 1), (2, 94, 3), (5, 4, 1), (6, 2, 1), (7, 2, 1)], size := 8, bytes := 64, zero := some [Go.Pm.AV.d (Go.Pm.D.i Go.IntKind.i64 (Int.ofNat 0)), Go.Pm.AV.d (Go.Pm.D.i Go.IntKind.i64 (Int.ofNat 0)), Go.Pm.AV.d (Go.Pm.D.i Go.IntKind.i64 (Int.ofNat 0)), Go.Pm.AV.d (Go.Pm.D.b false), Go.Pm.AV.d (Go.Pm.D.i Go.IntKind.i64 (Int.ofNat 0)), Go.Pm.AV.d (Go.Pm.D.b false), Go.Pm.AV.d (Go.Pm.D.i Go.IntKind.i64 (Int.ofNat 0)), Go.Pm.AV.d (Go.Pm.D.i Go.IntKind.i64 (Int.ofNat 0))], eq := some [Go.Pm.FK.int Go.IntKind.i64, Go.Pm.FK.int Go.IntKind.i64, Go.Pm.FK.int Go.IntKind.i64, Go.Pm.FK.bool, Go.Pm.FK.int Go.IntKind.i64, Go.Pm.FK.bool, Go.Pm.FK.int Go.IntKind.i64, Go.Pm.FK.int Go.IntKind.i64] },
  { kind := Go.Pm.TK.other, size := 1, bytes := 0, zero := none, eq := none },
  { kind := Go.Pm.TK.other, size := 1, bytes := 8, zero := some [Go.Pm.AV.c Go.Value.nilFunc], eq := none },
  { kind := Go.Pm.TK.other, size := 1, bytes := 8, zero := some [Go.Pm.AV.c Go.Value.nilFunc], eq := none },
  { kind := Go.Pm.TK.other, size := 1, bytes := 8, zero := some [Go.Pm.AV.c Go.Value.nilFunc], eq := none },
  { kind := Go.Pm.TK.other, size := 1, bytes := 8, zero := some [Go.Pm.AV.c Go.Value.nilFunc], eq := none },
  { kind := Go.Pm.TK.other, size := 1, bytes := 8, zero := some [Go.Pm.AV.c Go.Value.nilFunc], eq := none },
  { kind := Go.Pm.TK.other, size := 1, bytes := 8, zero := some [Go.Pm.AV.c Go.Value.nilFunc], eq := none },
  { kind := Go.Pm.TK.other, size := 1, bytes := 8, zero := some [Go.Pm.AV.c Go.Value.nilFunc], eq := none },
  { kind := Go.Pm.TK.other, size := 1, bytes := 8, zero := some [Go.Pm.AV.c Go.Value.nilFunc], eq := none },
  { kind := Go.Pm.TK.other, size := 1, bytes := 8, zero := some [Go.Pm.AV.c Go.Value.nilFunc], eq := none },
  { kind := Go.Pm.TK.other, size := 1, bytes := 8, zero := some [Go.Pm.AV.c Go.Value.nilFunc], eq := none },
  { kind := Go.Pm.TK.other, size := 1, bytes := 8, zero := some [Go.Pm.AV.c Go.Value.nilFunc], eq := none },
  { kind := Go.Pm.TK.other, size := 1, bytes := 8, zero := some [Go.Pm.AV.c Go.Value.nilFunc], eq := none },
  { kind := Go.Pm.TK.other, size := 1, bytes := 8, zero := some [Go.Pm.AV.c Go.Value.nilFunc], eq := none },
  { kind := Go.Pm.TK.other, size := 1, bytes := 8, zero := some [Go.Pm.AV.c Go.Value.nilFunc], eq := none },
  { kind := Go.Pm.TK.slice 77, size := 1, bytes := 24, zero := some [Go.Pm.AV.snil], eq := none },
  { kind := Go.Pm.TK.other, size := 1, bytes := 8, zero := some [Go.Pm.AV.c Go.Value.nilFunc], eq := none },
  { kind := Go.Pm.TK.slice 3, size := 1, bytes := 24, zero := some [Go.Pm.AV.snil], eq := none },
  { kind := Go.Pm.TK.other, size := 1, bytes := 8, zero := some [Go.Pm.AV.c Go.Value.nilFunc], eq := none },
  { kind := Go.Pm.TK.other, size := 1, bytes := 8, zero := some [Go.Pm.AV.c Go.Value.nilFunc], eq := none },
  { kind := Go.Pm.TK.other, size := 1, bytes := 8, zero := some [Go.Pm.AV.c Go.Value.nilFunc], eq := none },
  { kind := Go.Pm.TK.other, size := 1, bytes := 8, zero := some [Go.Pm.AV.c Go.Value.nilFunc], eq := none },
  { kind := Go.Pm.TK.other, size := 1, bytes := 8, zero := some [Go.Pm.AV.c Go.Value.nilFunc], eq := none },
  { kind := Go.Pm.TK.other, size := 1, bytes := 8, zero := some [Go.Pm.AV.c Go.Value.nilFunc], eq := none },
  { kind := Go.Pm.TK.other, size := 1, bytes := 8, zero := some [Go.Pm.AV.c Go.Value.nilFunc], eq := none },
  { kind := Go.Pm.TK.other, size := 1, bytes := 8, zero := some [Go.Pm.AV.c Go.Value.nilFunc], eq := none },
  { kind := Go.Pm.TK.other, size := 1, bytes := 8, zero := some [Go.Pm.AV.c Go.Value.nilFunc], eq := none },
  { kind := Go.Pm.TK.map 9 78, size := 1, bytes := 8, zero := some [Go.Pm.AV.c (Go.Value.map none)], eq := none },
  { kind := Go.Pm.TK.other, size := 1, bytes := 8, zero := some [Go.Pm.AV.c Go.Value.nilFunc], eq := none },
  { kind := Go.Pm.TK.other, size := 1, bytes := 0, zero := none, eq := none },
  { kind := Go.Pm.TK.other, size := 1, bytes := 8, zero := some [Go.Pm.AV.c Go.Value.nilFunc], eq := none },
  { kind := Go.Pm.TK.other, size := 1, bytes := 8, zero := some [Go.Pm.AV.c Go.Value.nilFunc], eq := none },
  { kind := Go.Pm.TK.other, size := 1, bytes := 8, zero := some [Go.Pm.AV.c Go.Value.nilFunc], eq := none },
  { kind := Go.Pm.TK.other, size := 1, bytes := 8, zero := some [Go.Pm.AV.c Go.Value.nilFunc], eq := none },
  { kind := Go.Pm.TK.other, size := 1, bytes := 8, zero := some [Go.Pm.AV.c Go.Value.nilFunc], eq := none },
  { kind := Go.Pm.TK.other, size := 1, bytes := 8, zero := some [Go.Pm.AV.c Go.Value.nilFunc], eq := none },
  { kind := Go.Pm.TK.other, size := 1, bytes := 0, zero := none, eq := none },
  { kind := Go.Pm.TK.other, size := 1, bytes := 8, zero := some [Go.Pm.AV.c Go.Value.nilFunc], eq := none },
  { kind := Go.Pm.TK.other, size := 1, bytes := 8, zero := some [Go.Pm.AV.c Go.Value.nilFunc], eq := none },
  { kind := Go.Pm.TK.other, size := 1, bytes := 8, zero := some [Go.Pm.AV.c Go.Value.nilFunc], eq := none },
  { kind := Go.Pm.TK.other, size := 1, bytes := 8, zero := some [Go.Pm.AV.c Go.Value.nilFunc], eq := none },
  { kind := Go.Pm.TK.other, size := 1, bytes := 8, zero := some [Go.Pm.AV.c Go.Value.nilFunc], eq := none },
  { kind := Go.Pm.TK.other, size := 1, bytes := 8, zero := some [Go.Pm.AV.c Go.Value.nilFunc], eq := none },
  { kind := Go.Pm.TK.slice 5, size := 1, bytes := 24, zero := some [Go.Pm.AV.snil], eq := none },
  { kind := Go.Pm.TK.other, size := 1, bytes := 8, zero := some [Go.Pm.AV.c Go.Value.nilFunc], eq := none },
  { kind := Go.Pm.TK.other, size := 1, bytes := 8, zero := some [Go.Pm.AV.c Go.Value.nilFunc], eq := none },
  { kind := Go.Pm.TK.other, size := 1, bytes := 8, zero := some [Go.Pm.AV.c Go.Value.nilFunc], eq := none },
  { kind := Go.Pm.TK.struct [(0, 2, 1), (1, 9, 1)], size := 2, bytes := 24, zero := some [Go.Pm.AV.d (Go.Pm.D.i Go.IntKind.i64 (Int.ofNat 0)), Go.Pm.AV.d (Go.Pm.D.s [])], eq := some [Go.Pm.FK.int Go.IntKind.i64, Go.Pm.FK.str] },
  { kind := Go.Pm.TK.struct [(0, 2, 1), (1, 9, 1)], size := 2, bytes := 24, zero := some [Go.Pm.AV.d (Go.Pm.D.i Go.IntKind.i64 (Int.ofNat 0)), Go.Pm.AV.d (Go.Pm.D.s [])], eq := some [Go.Pm.FK.int Go.IntKind.i64, Go.Pm.FK.str] },
  { kind := Go.Pm.TK.other, size := 1, bytes := 8, zero := some [Go.Pm.AV.c Go.Value.nilFunc], eq := none },
  { kind := Go.Pm.TK.slice 250, size := 1, bytes := 24, zero := some [Go.Pm.AV.snil], eq := none },
  { kind := Go.Pm.TK.slice 252, size := 1, bytes := 24, zero := some [Go.Pm.AV.snil], eq := none },
  { kind := Go.Pm.TK.struct [(0, 9, 1), (1, 155, 1), (2, 44, 1), (3, 156, 1)], size := 4, bytes := 88, zero := some [Go.Pm.AV.d (Go.Pm.D.s []), Go.Pm.AV.snil, Go.Pm.AV.snil, Go.Pm.AV.snil], eq := none },
  { kind := Go.Pm.TK.struct [(0, 9, 1), (1, 155, 1), (2, 44, 1), (3, 156, 1)], size := 4, bytes := 88, zero := some [Go.Pm.AV.d (Go.Pm.D.s []), Go.Pm.AV.snil, Go.Pm.AV.snil, Go.Pm.AV.snil], eq := none },
  { kind := Go.Pm.TK.slice 225, size := 1, bytes := 24, zero := some [Go.Pm.AV.snil], eq := none },
  { kind := Go.Pm.TK.struct [(0, 158, 4), (4, 159, 1)], size := 5, bytes := 112, zero := some [Go.Pm.AV.d (Go.Pm.D.s []), Go.Pm.AV.snil, Go.Pm.AV.snil, Go.Pm.AV.snil, Go.Pm.AV.snil], eq := none },
  { kind := Go.Pm.TK.struct [(0, 158, 4), (4, 159, 1)], size := 5, bytes := 112, zero := some [Go.Pm.AV.d (Go.Pm.D.s []), Go.Pm.AV.snil, Go.Pm.AV.snil, Go.Pm.AV.snil, Go.Pm.AV.snil], eq := none },
  { kind := Go.Pm.TK.struct [(0, 2, 1), (1, 9, 1)], size := 2, bytes := 24, zero := some [Go.Pm.AV.d (Go.Pm.D.i Go.IntKind.i64 (Int.ofNat 0)), Go.Pm.AV.d (Go.Pm.D.s [])], eq := some [Go.Pm.FK.int Go.IntKind.i64, Go.Pm.FK.str] },
  { kind := Go.Pm.TK.other, size := 1, bytes := 8, zero := some [Go.Pm.AV.c Go.Value.nilFunc], eq := none },
  { kind := Go.Pm.TK.other, size := 1, bytes := 8, zero := some [Go.Pm.AV.c Go.Value.nilFunc], eq := none },
  { kind := Go.Pm.TK.struct [(0, 44, 1), (1, 4, 1)], size := 2, bytes := 32, zero := some [Go.Pm.AV.snil, Go.Pm.AV.d (Go.Pm.D.b false)], eq := none },
  { kind := Go.Pm.TK.struct [(0, 44, 1), (1, 4, 1)], size := 2, bytes := 32, zero := some [Go.Pm.AV.snil, Go.Pm.AV.d (Go.Pm.D.b false)], eq := none },
  { kind := Go.Pm.TK.other, size := 1, bytes := 8, zero := some [Go.Pm.AV.c Go.Value.nilFunc], eq := none },
  { kind := Go.Pm.TK.other, size := 1, bytes := 8, zero := some [Go.Pm.AV.c Go.Value.nilFunc], eq := none },
  { kind := Go.Pm.TK.other, size := 1, bytes := 8, zero := some [Go.Pm.AV.c Go.Value.nilFunc], eq := none },
  { kind := Go.Pm.TK.struct [(0, 9, 1), (1, 2, 1), (2, 4, 1)], size := 3, bytes := 32, zero := some [Go.Pm.AV.d (Go.Pm.D.s []), Go.Pm.AV.d (Go.Pm.D.i Go.IntKind.i64 (Int.ofNat 0)), Go.Pm.AV.d (Go.Pm.D.b false)], eq := some [Go.Pm.FK.str, Go.Pm.FK.int Go.IntKind.i64, Go.Pm.FK.bool] },
  { kind := Go.Pm.TK.struct [(0, 9, 1), (1, 2, 1), (2, 4, 1)], size := 3, bytes := 32, zero := some [Go.Pm.AV.d (Go.Pm.D.s []), Go.Pm.AV.d (Go.Pm.D.i Go.IntKind.i64 (Int.ofNat 0)), Go.Pm.AV.d (Go.Pm.D.b false)], eq := some [Go.Pm.FK.str, Go.Pm.FK.int Go.IntKind.i64, Go.Pm.FK.bool] },
  { kind := Go.Pm.TK.other, size := 1, bytes := 8, zero := some [Go.Pm.AV.c Go.Value.nilFunc], eq := none },
  { kind := Go.Pm.TK.other, size := 1, bytes := 8, zero := some [Go.Pm.AV.c Go.Value.nilFunc], eq := none },
  { kind := Go.Pm.TK.other, size := 1, bytes := 8, zero := some [Go.Pm.AV.c Go.Value.nilFunc], eq := none },
  { kind := Go.Pm.TK.other, size := 1, bytes := 8, zero := some [Go.Pm.AV.c Go.Value.nilFunc], eq := none },
  { kind := Go.Pm.TK.other, size := 1, bytes := 8, zero := some [Go.Pm.AV.c Go.Value.nilFunc], eq := none },
  { kind := Go.Pm.TK.other, size := 1, bytes := 8, zero := some [Go.Pm.AV.c Go.Value.nilFunc], eq := none },
  { kind := Go.Pm.TK.other, size := 1, bytes := 8, zero := some [Go.Pm.AV.c Go.Value.nilFunc], eq := none },
  { kind := Go.Pm.TK.other, size := 1, bytes := 8, zero := some [Go.Pm.AV.c Go.Value.nilFunc], eq := none },
  { kind := Go.Pm.TK.other, size := 1, bytes := 8, zero := some [Go.Pm.AV.c Go.Value.nilFunc], eq := none },
  { kind := Go.Pm.TK.ptr 38, size := 1, bytes := 8, zero := some [Go.Pm.AV.c (Go.Value.pointer none)], eq := none },
  { kind := Go.Pm.TK.other, size := 1, bytes := 8, zero := some [Go.Pm.AV.c Go.Value.nilFunc], eq := none },
  { kind := Go.Pm.TK.ptr 185, size := 1, bytes := 8, zero := some [Go.Pm.AV.c (Go.Value.pointer none)], eq := none },
  { kind := Go.Pm.TK.struct [(0, 183, 1), (1, 148, 1)], size := 2, bytes := 32, zero := some [Go.Pm.AV.c (Go.Value.pointer none), Go.Pm.AV.snil], eq := none },
  { kind := Go.Pm.TK.struct [(0, 183, 1), (1, 148, 1)], size := 2, bytes := 32, zero := some [Go.Pm.AV.c (Go.Value.pointer none), Go.Pm.AV.snil], eq := none },
  { kind := Go.Pm.TK.other, size := 1, bytes := 16, zero := some [Go.Pm.AV.c Go.Value.nilIface], eq := none },
  { kind := Go.Pm.TK.other, size := 1, bytes := 16, zero := some [Go.Pm.AV.c Go.Value.nilIface], eq := none },
  { kind := Go.Pm.TK.other, size := 1, bytes := 0, zero := none, eq := none },
  { kind := Go.Pm.TK.other, size := 1, bytes := 8, zero := some [Go.Pm.AV.c Go.Value.nilFunc], eq := none },
  { kind := Go.Pm.TK.other, size := 1, bytes := 8, zero := some [Go.Pm.AV.c Go.Value.nilFunc], eq := none },
  { kind := Go.Pm.TK.other, size := 1, bytes := 8, zero := some [Go.Pm.AV.c Go.Value.nilFunc], eq := none },
  { kind := Go.Pm.TK.other, size := 1, bytes := 8, zero := some [Go.Pm.AV.c Go.Value.nilFunc], eq := none },
  { kind := Go.Pm.TK.other, size := 1, bytes := 8, zero := some [Go.Pm.AV.c Go.Value.nilFunc], eq := none },
  { kind := Go.Pm.TK.other, size := 1, bytes := 8, zero := some [Go.Pm.AV.c Go.Value.nilFunc], eq := none },
  { kind := Go.Pm.TK.other, size := 1, bytes := 8, zero := some [Go.Pm.AV.c Go.Value.nilFunc], eq := none },
  { kind := Go.Pm.TK.other, size := 1, bytes := 8, zero := some [Go.Pm.AV.c Go.Value.nilFunc], eq := none },
  { kind := Go.Pm.TK.other, size := 1, bytes := 8, zero := some [Go.Pm.AV.c Go.Value.nilFunc], eq := none },
  { kind := Go.Pm.TK.other, size := 1, bytes := 8, zero := some [Go.Pm.AV.c Go.Value.nilFunc], eq := none },
  { kind := Go.Pm.TK.other, size := 1, bytes := 8, zero := some [Go.Pm.AV.c Go.Value.nilFunc], eq := none },
  { kind := Go.Pm.TK.other, size := 1, bytes := 8, zero := some [Go.Pm.AV.c Go.Value.nilFunc], eq := none },
  { kind := Go.Pm.TK.other, size := 1, bytes := 8, zero := some [Go.Pm.AV.c Go.Value.nilFunc], eq := none },
  { kind := Go.Pm.TK.other, size := 1, bytes := 8, zero := some [Go.Pm.AV.c Go.Value.nilFunc], eq := none },
  { kind := Go.Pm.TK.int Go.IntKind.u64, size := 1, bytes := 8, zero := some [Go.Pm.AV.d (Go.Pm.D.i Go.IntKind.u64 (Int.ofNat 0))], eq := some [Go.Pm.FK.int Go.IntKind.u64] },
  { kind := Go.Pm.TK.other, size := 1, bytes := 8, zero := some [Go.Pm.AV.c Go.Value.nilFunc], eq := none },
  { kind := Go.Pm.TK.other, size := 1, bytes := 8, zero := some [Go.Pm.AV.c Go.Value.nilFunc], eq := none },
  { kind := Go.Pm.TK.other, size := 1, bytes := 8, zero := some [Go.Pm.AV.c Go.Value.nilFunc], eq := none },
  { kind := Go.Pm.TK.other, size := 1, bytes := 8, zero := some [Go.Pm.AV.c Go.Value.nilFunc], eq := none },
  { kind := Go.Pm.TK.other, size := 1, bytes := 8, zero := some [Go.Pm.AV.c Go.Value.nilFunc], eq := none },
  { kind := Go.Pm.TK.other, size := 1, bytes := 8, zero := some [Go.Pm.AV.c Go.Value.nilFunc], eq := none },
  { kind := Go.Pm.TK.other, size := 1, bytes := 8, zero := some [Go.Pm.AV.c Go.Value.nilFunc], eq := none },
  { kind := Go.Pm.TK.other, size := 1, bytes := 8, zero := some [Go.Pm.AV.c Go.Value.nilFunc], eq := none },
  { kind := Go.Pm.TK.other, size := 1, bytes := 8, zero := some [Go.Pm.AV.c Go.Value.nilFunc], eq := none },
  { kind := Go.Pm.TK.other, size := 1, bytes := 8, zero := some [Go.Pm.AV.c Go.Value.nilFunc], eq := none },
  { kind := Go.Pm.TK.int Go.IntKind.u64, size := 1, bytes := 8, zero := some [Go.Pm.AV.d (Go.Pm.D.i Go.IntKind.u64 (Int.ofNat 0))], eq := some [Go.Pm.FK.int Go.IntKind.u64] },
  { kind := Go.Pm.TK.ptr 5, size := 1, bytes := 8, zero := some [Go.Pm.AV.c (Go.Value.pointer none)], eq := none },
  { kind := Go.Pm.TK.other, size := 1, bytes := 8, zero := some [Go.Pm.AV.c Go.Value.nilFunc], eq := none },
  { kind := Go.Pm.TK.other, size := 1, bytes := 8, zero := some [Go.Pm.AV.c Go.Value.nilFunc], eq := none },
  { kind := Go.Pm.TK.other, size := 1, bytes := 8, zero := some [Go.Pm.AV.c Go.Value.nilFunc], eq := none },
  { kind := Go.Pm.TK.other, size := 1, bytes := 8, zero := some [Go.Pm.AV.c Go.Value.nilFunc], eq := none },
  { kind := Go.Pm.TK.other, size := 1, bytes := 8, zero := some [Go.Pm.AV.c Go.Value.nilFunc], eq := none },
  { kind := Go.Pm.TK.other, size := 1, bytes := 8, zero := some [Go.Pm.AV.c Go.Value.nilFunc], eq := none },
  { kind := Go.Pm.TK.other, size := 1, bytes := 8, zero := some [Go.Pm.AV.c Go.Value.nilFunc], eq := none },
  { kind := Go.Pm.TK.other, size := 1, bytes := 8, zero := some [Go.Pm.AV.c Go.Value.nilFunc], eq := none },
  { kind := Go.Pm.TK.other, size := 1, bytes := 8, zero := some [Go.Pm.AV.c Go.Value.nilFunc], eq := none },
  { kind := Go.Pm.TK.slice 254, size := 1, bytes := 24, zero := some [Go.Pm.AV.snil], eq := none },
  { kind := Go.Pm.TK.other, size := 1, bytes := 8, zero := some [Go.Pm.AV.c Go.Value.nilFunc], eq := none },
  { kind := Go.Pm.TK.other, size := 1, bytes := 8, zero := some [Go.Pm.AV.c Go.Value.nilFunc], eq := none },
  { kind := Go.Pm.TK.other, size := 1, bytes := 8, zero := some [Go.Pm.AV.c Go.Value.nilFunc], eq := none },
  { kind := Go.Pm.TK.other, size := 1, bytes := 8, zero := some [Go.Pm.AV.c Go.Value.nilFunc], eq := none },
  { kind := Go.Pm.TK.other, size := 1, bytes := 8, zero := some [Go.Pm.AV.c Go.Value.nilFunc], eq := none },
  { kind := Go.Pm.TK.other, size := 1, bytes := 8, zero := some [Go.Pm.AV.c Go.Value.nilFunc], eq := none },
  { kind := Go.Pm.TK.other, size := 1, bytes := 8, zero := some [Go.Pm.AV.c Go.Value.nilFunc], eq := none },
  { kind := Go.Pm.TK.other, size := 1, bytes := 8, zero := some [Go.Pm.AV.c Go.Value.nilFunc], eq := none },
  { kind := Go.Pm.TK.other, size := 1, bytes := 0, zero := none, eq := none },
  { kind := Go.Pm.TK.other, size := 1, bytes := 8, zero := some [Go.Pm.AV.c Go.Value.nilFunc], eq := none },
  { kind := Go.Pm.TK.other, size := 1, bytes := 8, zero := some [Go.Pm.AV.c Go.Value.nilFunc], eq := none },
  { kind := Go.Pm.TK.other, size := 1, bytes := 8, zero := some [Go.Pm.AV.c Go.Value.nilFunc], eq := none },
  { kind := Go.Pm.TK.other, size := 1, bytes := 8, zero := some [Go.Pm.AV.c Go.Value.nilFunc], eq := none },
  { kind := Go.Pm.TK.other, size := 1, bytes := 8, zero := some [Go.Pm.AV.c Go.Value.nilFunc], eq := none },
  { kind := Go.Pm.TK.other, size := 1, bytes := 8, zero := some [Go.Pm.AV.c Go.Value.nilFunc], eq := none },
  { kind := Go.Pm.TK.other, size := 1, bytes := 8, zero := some [Go.Pm.AV.c Go.Value.nilFunc], eq := none },
  { kind := Go.Pm.TK.other, size := 1, bytes := 8, zero := some [Go.Pm.AV.c Go.Value.nilFunc], eq := none },
  { kind := Go.Pm.TK.other, size := 1, bytes := 8, zero := some [Go.Pm.AV.c (Go.Value.pointer none)], eq := none },
  { kind := Go.Pm.TK.other, size := 1, bytes := 8, zero := some [Go.Pm.AV.c Go.Value.nilFunc], eq := none },
  { kind := Go.Pm.TK.other, size := 1, bytes := 8, zero := some [Go.Pm.AV.c Go.Value.nilFunc], eq := none },
  { kind := Go.Pm.TK.other, size := 1, bytes := 8, zero := some [Go.Pm.AV.c Go.Value.nilFunc], eq := none },
  { kind := Go.Pm.TK.other, size := 1, bytes := 8, zero := some [Go.Pm.AV.c Go.Value.nilFunc], eq := none },
  { kind := Go.Pm.TK.other, size := 1, bytes := 8, zero := some [Go.Pm.AV.c Go.Value.nilFunc], eq := none },
  { kind := Go.Pm.TK.other, size := 1, bytes := 8, zero := some [Go.Pm.AV.c Go.Value.nilFunc], eq := none },
  { kind := Go.Pm.TK.struct [(0, 9, 1), (1, 2, 1), (2, 4, 1)], size := 3, bytes := 32, zero := some [Go.Pm.AV.d (Go.Pm.D.s []), Go.Pm.AV.d (Go.Pm.D.i Go.IntKind.i64 (Int.ofNat 0)), Go.Pm.AV.d (Go.Pm.D.b false)], eq := some [Go.Pm.FK.str, Go.Pm.FK.int Go.IntKind.i64, Go.Pm.FK.bool] },
  { kind := Go.Pm.TK.other, size := 1, bytes := 8, zero := some [Go.Pm.AV.c Go.Value.nilFunc], eq := none },
  { kind := Go.Pm.TK.struct [(0, 44, 1), (1, 4, 1)], size := 2, bytes := 32, zero := some [Go.Pm.AV.snil, Go.Pm.AV.d (Go.Pm.D.b false)], eq := none },
  { kind := Go.Pm.TK.other, size := 1, bytes := 8, zero := some [Go.Pm.AV.c Go.Value.nilFunc], eq := none },
  { kind := Go.Pm.TK.struct [(0, 2, 1), (1, 2, 1), (2, 9, 1)], size := 3, bytes := 32, zero := some [Go.Pm.AV.d (Go.Pm.D.i Go.IntKind.i64 (Int.ofNat 0)), Go.Pm.AV.d (Go.Pm.D.i Go.IntKind.i64 (Int.ofNat 0)), Go.Pm.AV.d (Go.Pm.D.s [])], eq := some [Go.Pm.FK.int Go.IntKind.i64, Go.Pm.FK.int Go.IntKind.i64, Go.Pm.FK.str] },
  { kind := Go.Pm.TK.other, size := 1, bytes := 8, zero := some [Go.Pm.AV.c Go.Value.nilFunc], eq := none },
  { kind := Go.Pm.TK.other, size := 1, bytes := 8, zero := some [Go.Pm.AV.c Go.Value.nilFunc], eq := none },
  { kind := Go.Pm.TK.other, size := 1, bytes := 8, zero := some [Go.Pm.AV.c Go.Value.nilFunc], eq := none },
  { kind := Go.Pm.TK.other, size := 1, bytes := 8, zero := some [Go.Pm.AV.c Go.Value.nilFunc], eq := none },
  { kind := Go.Pm.TK.other, size := 1, bytes := 8, zero := some [Go.Pm.AV.c Go.Value.nilFunc], eq := none },
  { kind := Go.Pm.TK.other, size := 1, bytes := 8, zero := some [Go.Pm.AV.c Go.Value.nilFunc], eq := none },
  { kind := Go.Pm.TK.other, size := 1, bytes := 8, zero := some [Go.Pm.AV.c Go.Value.nilFunc], eq := none },
  { kind := Go.Pm.TK.int Go.IntKind.u32, size := 1, bytes := 4, zero := some [Go.Pm.AV.d (Go.Pm.D.i Go.IntKind.u32 (Int.ofNat 0))], eq := some [Go.Pm.FK.int Go.IntKind.u32] },
  { kind := Go.Pm.TK.other, size := 1, bytes := 0, zero := none, eq := none },
  { kind := Go.Pm.TK.other, size := 1, bytes := 8, zero := some [Go.Pm.AV.c Go.Value.nilFunc], eq := none },
  { kind := Go.Pm.TK.other, size := 1, bytes := 0, zero := none, eq := none },
  { kind := Go.Pm.TK.other, size := 1, bytes := 8, zero := some [Go.Pm.AV.c Go.Value.nilFunc], eq := none },
  { kind := Go.Pm.TK.other, size := 1, bytes := 8, zero := some [Go.Pm.AV.c Go.Value.nilFunc], eq := none },
  { kind := Go.Pm.TK.other, size := 1, bytes := 8, zero := some [Go.Pm.AV.c Go.Value.nilFunc], eq := none },
  { kind := Go.Pm.TK.other, size := 1, bytes := 8, zero := some [Go.Pm.AV.c Go.Value.nilFunc], eq := none },
  { kind := Go.Pm.TK.other, size := 1, bytes := 8, zero := some [Go.Pm.AV.c Go.Value.nilFunc], eq := none },
  { kind := Go.Pm.TK.other, size := 1, bytes := 8, zero := some [Go.Pm.AV.c Go.Value.nilFunc], eq := none },
  { kind := Go.Pm.TK.other, size := 1, bytes := 8, zero := some [Go.Pm.AV.c Go.Value.nilFunc], eq := none },
  { kind := Go.Pm.TK.other, size := 1, bytes := 8, zero := some [Go.Pm.AV.c Go.Value.nilFunc], eq := none },
  { kind := Go.Pm.TK.other, size := 1, bytes := 8, zero := some [Go.Pm.AV.c Go.Value.nilFunc], eq := none },
  { kind := Go.Pm.TK.other, size := 1, bytes := 8, zero := some [Go.Pm.AV.c Go.Value.nilFunc], eq := none },
  { kind := Go.Pm.TK.struct [(0, 17, 1), (1, 17, 1), (2, 17, 1), (3, 9, 1)], size := 4, bytes := 40, zero := some [Go.Pm.AV.c (Go.Value.pointer none), Go.Pm.AV.c (Go.Value.pointer none), Go.Pm.AV.c (Go.Value.pointer none), Go.Pm.AV.d (Go.Pm.D.s [])], eq := none },
  { kind := Go.Pm.TK.struct [(0, 17, 1), (1, 17, 1), (2, 17, 1), (3, 9, 1)], size := 4, bytes := 40, zero := some [Go.Pm.AV.c (Go.Value.pointer none), Go.Pm.AV.c (Go.Value.pointer none), Go.Pm.AV.c (Go.Value.pointer none), Go.Pm.AV.d (Go.Pm.D.s [])], eq := none },
  { kind := Go.Pm.TK.other, size := 0, bytes := 0, zero := some [], eq := none },
  { kind := Go.Pm.TK.struct [(0, 278, 0)], size := 0, bytes := 0, zero := some [], eq := none },
  { kind := Go.Pm.TK.struct [(0, 278, 0)], size := 0, bytes := 0, zero := some [], eq := none },
  { kind := Go.Pm.TK.int Go.IntKind.u8, size := 1, bytes := 1, zero := some [Go.Pm.AV.d (Go.Pm.D.i Go.IntKind.u8 (Int.ofNat 0))], eq := some [Go.Pm.FK.int Go.IntKind.u8] },
  { kind := Go.Pm.TK.int Go.IntKind.u8, size := 1, bytes := 1, zero := some [Go.Pm.AV.d (Go.Pm.D.i Go.IntKind.u8 (Int.ofNat 0))], eq := some [Go.Pm.FK.int Go.IntKind.u8] },
  { kind := Go.Pm.TK.other, size := 1, bytes := 8, zero := some [Go.Pm.AV.c Go.Value.nilFunc], eq := none },
  { kind := Go.Pm.TK.int Go.IntKind.i32, size := 1, bytes := 4, zero := some [Go.Pm.AV.d (Go.Pm.D.i Go.IntKind.i32 (Int.ofNat 0))], eq := some [Go.Pm.FK.int Go.IntKind.i32] },
  { kind := Go.Pm.TK.int Go.IntKind.i32, size := 1, bytes := 4, zero := some [Go.Pm.AV.d (Go.Pm.D.i Go.IntKind.i32 (Int.ofNat 0))], eq := some [Go.Pm.FK.int Go.IntKind.i32] },
  { kind := Go.Pm.TK.struct [(0, 12, 1), (1, 12, 1), (2, 262, 1), (3, 281, 1), (4, 5, 1), (5, 5, 1), (6, 282, 1), (7, 283, 1), (8, 215, 1), (9, 284, 1), (10, 285, 1)], size := 11, bytes := 48, zero := some [Go.Pm.AV.d (Go.Pm.D.i Go.IntKind.u64 (Int.ofNat 0)), Go.Pm.AV.d (Go.Pm.D.i Go.IntKind.u64 (Int.ofNat 0)), Go.Pm.AV.d (Go.Pm.D.i Go.IntKind.u32 (Int.ofNat 0)), Go.Pm.AV.d (Go.Pm.D.i Go.IntKind.u8 (Int.ofNat 0)), Go.Pm.AV.d (Go.Pm.D.i Go.IntKind.u8 (Int.ofNat 0)), Go.Pm.AV.d (Go.Pm.D.i Go.IntKind.u8 (Int.ofNat 0)), Go.Pm.AV.d (Go.Pm.D.i Go.IntKind.u8 (Int.ofNat 0)), Go.Pm.AV.c Go.Value.nilFunc, Go.Pm.AV.c (Go.Value.pointer none), Go.Pm.AV.d (Go.Pm.D.i Go.IntKind.i32 (Int.ofNat 0)), Go.Pm.AV.d (Go.Pm.D.i Go.IntKind.i32 (Int.ofNat 0))], eq := none },
  { kind := Go.Pm.TK.struct [(0, 12, 1), (1, 12, 1), (2, 262, 1), (3, 281, 1), (4, 5, 1), (5, 5, 1), (6, 282, 1), (7, 283, 1), (8, 215, 1), (9, 284, 1), (10, 285, 1)], size := 11, bytes := 48, zero := some [Go.Pm.AV.d (Go.Pm.D.i Go.IntKind.u64 (Int.ofNat 0)), Go.Pm.AV.d (Go.Pm.D.i Go.IntKind.u64 (Int.ofNat 0)), Go.Pm.AV.d (Go.Pm.D.i Go.IntKind.u32 (Int.ofNat 0)), Go.Pm.AV.d (Go.Pm.D.i Go.IntKind.u8 (Int.ofNat 0)), Go.Pm.AV.d (Go.Pm.D.i Go.IntKind.u8 (Int.ofNat 0)), Go.Pm.AV.d (Go.Pm.D.i Go.IntKind.u8 (Int.ofNat 0)), Go.Pm.AV.d (Go.Pm.D.i Go.IntKind.u8 (Int.ofNat 0)), Go.Pm.AV.c Go.Value.nilFunc, Go.Pm.AV.c (Go.Value.pointer none), Go.Pm.AV.d (Go.Pm.D.i Go.IntKind.i32 (Int.ofNat 0)), Go.Pm.AV.d (Go.Pm.D.i Go.IntKind.i32 (Int.ofNat 0))], eq := none },
  { kind := Go.Pm.TK.other, size := 1, bytes := 8, zero := some [Go.Pm.AV.c Go.Value.nilFunc], eq := none }]
theorem tab_eq : tab = (List.range 289).map (tdOf Go.Proofs.Tryz.prog) := by kernel_rfl
def cx : Cx := ⟨tab, [], []⟩
theorem tok : TOk Go.Proofs.Tryz.prog cx.T := tok_of tab_eq
theorem mixed : Go.Proofs.Tryz.prog.follows .mixedOrders = true := by kernel_rfl
end Go.Pm.Tryz
namespace Go.Pm
open Go Go.ChangeShapes Go.WideShapes
set_option linter.unusedVariables false
inductive Sh where
  | bool | int (k : IntKind) | str
  | sl (e : Sh)
  | agg (fs : List Sh)
def Sh.cells : Sh → List Sh
  | .agg fs => fs
  | x => [x]
def Sh.one : Sh → Bool
  | .agg _ => false
  | _ => true
mutual
def Sh.of : Sh → D → Prop
  | .bool, x => ∃ t, x = .b t
  | .int k, x => ∃ n, x = .i k n ∧ k.min ≤ n ∧ n ≤ k.max
  | .str, x => ∃ l, x = .s l ∧ l.length ≤ maxLen
  | .sl e, x => ∃ xs, x = .sl false xs ∧ (∀ y, y ∈ xs → e.of y) ∧ xs.length ≤ maxLen
  | .agg fs, x => ∃ cs, x = .agg cs ∧ ofL fs cs
def ofL : List Sh → List D → Prop
  | [], l => l = []
  | f :: fs, l => ∃ x r, l = x :: r ∧ f.of x ∧ ofL fs r
end
def shFields (P : Program) (f : TypeId → Option Sh) : List Field → Nat → Option (List Sh)
  | [], _ => some []
  | x :: r, off => if x.offset = off then (f x.type).bind fun s => if s.cells.length = P.cellsOf x.type ∧ s.cells.all Sh.one = true then (shFields P f r (off + P.cellsOf x.type)).map fun l => s.cells ++ l else none else none
def shOf (P : Program) : Nat → TypeId → Option Sh
  | 0, _ => none
  | n + 1, t => match P.underlying t with
    | some .bool => some .bool
    | some (.int k) => some (.int k)
    | some .string => some .str
    | some (.slice e) => (shOf P n e).bind fun s => if s.cells.length = P.cellsOf e ∧ 0 < P.cellsOf e ∧ s.cells.all Sh.one = true then some (.sl s) else none
    | some (.struct fs) => (shFields P (shOf P n) fs.toList 0).bind fun l => if l.length = P.cellsOf t then some (.agg l) else none
    | _ => none
theorem ofL_append : ∀ {a b : List Sh} {x y : List D}, ofL a x → ofL b y → ofL (a ++ b) (x ++ y)
  | [], b, x, y, h1, h2 => by simp only [ofL] at h1; subst h1; exact h2
  | f :: a, b, x, y, h1, h2 => by
    simp only [ofL] at h1
    obtain ⟨u, r, rfl, h3, h4⟩ := h1
    simp only [List.cons_append, ofL]
    exact ⟨u, r ++ y, rfl, h3, ofL_append h4 h2⟩
theorem repL_app {w : World} {X : Nat → Prop} : ∀ {xs ys : List D} {us vs : List Value}, repL w X xs us [] → repL w X ys vs [] → repL w X (xs ++ ys) (us ++ vs) []
  | [], ys, us, vs, h1, h2 => by simp only [repL] at h1; rw [h1.1]; exact h2
  | x :: xs, ys, us, vs, h1, h2 => by
    simp only [repL] at h1
    obtain ⟨u, us', b1, b2, rfl, hb, h3, h4⟩ := h1
    obtain ⟨rfl, rfl⟩ := List.append_eq_nil_iff.1 hb.symm
    simp only [List.cons_append, repL]
    exact ⟨u, us' ++ vs, [], [], rfl, rfl, h3, repL_app h4 h2⟩
theorem ofL_len : ∀ {a : List Sh} {x : List D}, ofL a x → x.length = a.length
  | [], x, h => by simp only [ofL] at h; subst h; rfl
  | f :: a, x, h => by
    simp only [ofL] at h
    obtain ⟨u, r, rfl, _, h4⟩ := h
    simp [ofL_len h4]
theorem rows_of {w : World} {X : Nat → Prop} {b sz : Nat} {e : Sh} : ∀ {n off : Nat},
    (∀ i, i < n → ∃ x v, e.of x ∧ x.rep w X v [] ∧ v.cells.size = sz ∧ x.cells.length = sz ∧ (∀ u ∈ v.cells.toList, u.oneCell' = true) ∧ w.rangeAt b (off + i * sz) v.cells.toList) →
    ∃ xs : List D, xs.length = n ∧ (∀ y, y ∈ xs → e.of y) ∧ repRows w X b sz xs off []
  | 0, off, h => ⟨[], rfl, fun y hy => (by cases hy), by simp [repRows]⟩
  | n + 1, off, h => by
    obtain ⟨x, v, h1, h2, h3, h4, h5, h6⟩ := h 0 (Nat.succ_pos n)
    obtain ⟨xs, g1, g2, g3⟩ := rows_of (w := w) (X := X) (b := b) (sz := sz) (e := e) (n := n) (off := off + sz) (fun i hi => by
      obtain ⟨x, v, h1, h2, h3, h4, h5, h6⟩ := h (i + 1) (by omega)
      refine ⟨x, v, h1, h2, h3, h4, h5, ?_⟩
      rwa [show off + sz + i * sz = off + (i + 1) * sz by rw [Nat.add_mul, Nat.one_mul]; omega])
    refine ⟨x :: xs, by simp [g1], fun y hy => ?_, ?_⟩
    · rcases List.mem_cons.1 hy with rfl | hy
      · exact h1
      · exact g2 y hy
    · simp only [repRows]
      exact ⟨v, [], [], rfl, h2, h3, ⟨h4, h5⟩, by simpa using h6, g3⟩
section
variable {H : Type} {enc : TypeId × Value → H} {P : Program} {w : World} {base : Nat} {spare : Nat → Bool} {held : Bool} {X : Nat → Prop}
theorem one_value {s : Sh} {xs : List D} {cs : List Value} (h1 : s.one = true) (ho : ofL s.cells xs) (hr : repL w X xs cs []) : ∃ x u, xs = [x] ∧ cs = [u] ∧ s.of x ∧ x.rep w X u [] := by
  have hc : s.cells = [s] := by cases s <;> first | rfl | cases h1
  rw [hc] at ho
  simp only [ofL] at ho
  obtain ⟨x, r, rfl, h3, rfl⟩ := ho
  simp only [repL] at hr
  obtain ⟨u, us, b1, b2, rfl, hb, h4, rfl, rfl⟩ := hr
  obtain ⟨rfl, _⟩ := List.append_eq_nil_iff.1 hb.symm
  exact ⟨x, u, rfl, rfl, h3, h4⟩
theorem fields_rep (f : TypeId → Option Sh) (cs : List Value) (m : Nat)
    (hf : ∀ t s cs' d, f t = some s → DataW.trod enc P w base spare held m t cs' = some d → ∃ xs, ofL s.cells xs ∧ repL w X xs cs' [] ∧ ∀ u ∈ cs', u.oneCell' = true) :
    ∀ (fs : List Field) (off : Nat) (l : List Sh), shFields P f fs off = some l →
      (∀ (j : Nat) (x : Field), fs[j]? = some x → ∃ d, DataW.trod enc P w base spare held m x.type ((cs.drop x.offset).take (P.cellsOf x.type)) = some d) →
      off + l.length = cs.length → ∃ xs, ofL l xs ∧ repL w X xs (cs.drop off) [] ∧ ∀ u ∈ cs.drop off, u.oneCell' = true
  | [], off, l, h, _, hl => by
    cases h
    have : cs.drop off = [] := List.drop_eq_nil_of_le (by simp at hl; omega)
    rw [this]
    exact ⟨[], by simp [ofL], by simp [repL], by simp⟩
  | x :: fs, off, l, h, hd, hl => by
    simp only [shFields] at h
    split at h
    case isFalse => cases h
    rename_i ho
    cases hs : f x.type with
    | none => rw [hs] at h; cases h
    | some s =>
      rw [hs] at h
      simp only [Option.bind_some] at h
      split at h
      case isFalse => cases h
      rename_i hcl
      cases hr : shFields P f fs (off + P.cellsOf x.type) with
      | none => rw [hr] at h; cases h
      | some l' =>
        rw [hr] at h
        cases h
        obtain ⟨d, hdd⟩ := hd 0 x rfl
        rw [ho] at hdd
        obtain ⟨xs1, h1, h2, h3⟩ := hf _ _ _ _ hs hdd
        obtain ⟨xs2, g1, g2, g3⟩ := fields_rep f cs m hf fs _ l' hr (fun j y hj => hd (j + 1) y (by simpa using hj)) (by rw [← hcl.1]; simp only [List.length_append] at hl; omega)
        have hsplit : cs.drop off = (cs.drop off).take (P.cellsOf x.type) ++ cs.drop (off + P.cellsOf x.type) := by
          rw [← List.drop_drop]; exact (List.take_append_drop _ _).symm
        refine ⟨xs1 ++ xs2, ofL_append h1 g1, ?_, ?_⟩
        · rw [hsplit]; exact repL_app h2 g2
        · rw [hsplit]
          intro u hu
          rcases List.mem_append.1 hu with hu | hu
          · exact h3 u hu
          · exact g3 u hu
theorem typed_rep (hX : ∀ b, ¬ X b) : ∀ (n : Nat) (t : TypeId) (s : Sh) (fuel : Nat) (cs : List Value) (d : DataW H × List MemPlace), shOf P n t = some s → DataW.trod enc P w base spare held fuel t cs = some d →
    ∃ xs, ofL s.cells xs ∧ repL w X xs cs [] ∧ ∀ u ∈ cs, u.oneCell' = true
  | 0, t, s, fuel, cs, d, h, _ => by cases h
  | n + 1, t, s, fuel, cs, d, h, hd => by
    simp only [shOf] at h
    split at h
    · rename_i hu
      cases h
      obtain ⟨b, rfl, _⟩ := DataW.trod_bool hu hd
      refine ⟨[.b b], ?_, ?_, ?_⟩
      · simp only [Sh.cells, ofL, Sh.of]; exact ⟨_, [], rfl, ⟨b, rfl⟩, rfl⟩
      · simp only [repL, D.rep]; exact ⟨_, [], [], [], rfl, rfl, ⟨rfl, rfl⟩, rfl, rfl⟩
      · intro u hu; rw [List.mem_singleton.1 hu]; rfl
    · rename_i k hu
      cases h
      obtain ⟨b, rfl, _, hw⟩ := DataW.trod_int hu hd
      simp only [Lit.wf, Bool.and_eq_true, decide_eq_true_eq] at hw
      refine ⟨[.i k b], ?_, ?_, ?_⟩
      · simp only [Sh.cells, ofL, Sh.of]; exact ⟨_, [], rfl, ⟨b, rfl, hw.1, hw.2⟩, rfl⟩
      · simp only [repL, D.rep]; exact ⟨_, [], [], [], rfl, rfl, ⟨rfl, rfl⟩, rfl, rfl⟩
      · intro u hu; rw [List.mem_singleton.1 hu]; rfl
    · rename_i hu
      cases h
      obtain ⟨b, rfl, _, hw⟩ := DataW.trod_string hu hd
      refine ⟨[.s b.data.toList], ?_, ?_, ?_⟩
      · simp only [Sh.cells, ofL, Sh.of]; exact ⟨_, [], rfl, ⟨_, rfl, by rw [Array.length_toList]; exact hw⟩, rfl⟩
      · simp only [repL, D.rep]; exact ⟨_, [], [], [], rfl, rfl, ⟨rfl, rfl⟩, rfl, rfl⟩
      · intro u hu; rw [List.mem_singleton.1 hu]; rfl
    · rename_i e hu
      cases hs : shOf P n e with
      | none => rw [hs] at h; cases h
      | some s' =>
        rw [hs] at h
        simp only [Option.bind_some] at h
        split at h
        case isFalse => cases h
        rename_i hcl
        obtain ⟨hcl, hpos, hone⟩ := hcl
        cases h
        rcases Go.Deep.open_slice hu hd with ⟨rfl, _⟩ | ⟨a, len, cap, m, n', DD, Pl, rfl, hb, hl, hm, hmm, hx, hi⟩
        · refine ⟨[.sl false []], ?_, ?_, ?_⟩
          · simp only [Sh.cells, ofL, Sh.of]; exact ⟨_, [], rfl, ⟨[], rfl, fun y hy => (by cases hy), Nat.zero_le _⟩, rfl⟩
          · simp only [repL, D.rep]; exact ⟨_, [], [], [], rfl, rfl, ⟨trivial, rfl, none, 0, rfl, Nat.le_refl _, .inl trivial⟩, rfl, rfl⟩
          · intro u hu; rw [List.mem_singleton.1 hu]; rfl
        · have hmlen : len ≤ m := by rw [hmm]; split <;> omega
          have hspot : 0 < len → a.spot = none := by
            intro hl0
            obtain ⟨cs', hcs, htr⟩ := hi 0 (by omega)
            obtain ⟨_, hlen, hcell⟩ := World.cells?_some hcs
            have h0 := hcell 0 hpos
            simp only [Addr.add, Nat.zero_mul, if_true] at h0
            have hsome : cs'[0]? = some (cs'[0]'(by omega)) := List.getElem?_eq_getElem (by omega)
            rw [hsome] at h0
            unfold World.cell? at h0
            split at h0
            · split at h0
              · cases h0
              · rename_i hss
                cases hh : a.spot with
                | none => rfl
                | some _ => rw [hh] at hss; exact absurd rfl hss
            · cases h0
          have hrow : ∀ i, i < len → ∃ x v, s'.of x ∧ x.rep w X v [] ∧ v.cells.size = P.cellsOf e ∧ x.cells.length = P.cellsOf e ∧ (∀ u ∈ v.cells.toList, u.oneCell' = true) ∧ w.rangeAt a.block (a.off + i * P.cellsOf e) v.cells.toList := by
            intro i hil
            obtain ⟨cs', hcs, htr⟩ := hi i (by omega)
            obtain ⟨_, hlen, hcell⟩ := World.cells?_some hcs
            obtain ⟨xs, h1, h2, h3⟩ := typed_rep hX n e s' n' cs' _ hs htr
            have hrange : w.rangeAt a.block (a.off + i * P.cellsOf e) cs' := by
              intro j v hj
              have hjl : j < P.cellsOf e := by rw [← hlen]; exact (List.getElem?_eq_some_iff.1 hj).1
              have := hcell j hjl
              rw [hj] at this
              have hadd : ∀ (x : Addr) (k : Nat), x.spot = none → x.add k = ⟨x.block, x.off + k, none⟩ := by
                intro x k hx
                obtain ⟨xb, xo, xs⟩ := x
                simp only at hx
                subst hx
                unfold Addr.add
                split
                · rename_i hk; subst hk; rfl
                · rfl
              have hsp : w.cell? ⟨a.block, a.off + i * P.cellsOf e + j, none⟩ = w.cell? ((a.add (i * P.cellsOf e)).add j) := by
                rw [hadd a _ (hspot (by omega))]
                rw [hadd _ _ rfl]
              rw [hsp]; exact this
            cases hso : s'.one with
            | true =>
              obtain ⟨x, u, rfl, rfl, hx1, hx2⟩ := one_value hso h1 h2
              have hu1 : u.oneCell' = true := h3 u (List.mem_cons_self ..)
              have huc : u.cells = #[u] := by cases u <;> first | rfl | cases hu1
              have hxc : x.cells = [x] := by
                cases s' with
                | agg _ => cases hso
                | bool => simp only [Sh.of] at hx1; obtain ⟨_, rfl⟩ := hx1; rfl
                | int k => simp only [Sh.of] at hx1; obtain ⟨_, rfl, _⟩ := hx1; rfl
                | str => simp only [Sh.of] at hx1; obtain ⟨_, rfl, _⟩ := hx1; rfl
                | sl _ => simp only [Sh.of] at hx1; obtain ⟨_, rfl, _⟩ := hx1; rfl
              refine ⟨x, u, hx1, hx2, ?_, ?_, ?_, ?_⟩
              · rw [huc]; simpa using hlen
              · rw [hxc]; simpa using hlen
              · rw [huc]; simpa using hu1
              · rw [huc]; exact hrange
            | false =>
              cases s' with
              | agg fs =>
                refine ⟨.agg xs, .agg cs'.toArray, ?_, ?_, ?_, ?_, ?_, ?_⟩
                · simp only [Sh.of]; exact ⟨xs, rfl, h1⟩
                · simp only [D.rep]; exact ⟨_, rfl, by simpa using h2⟩
                · simpa [Value.cells] using hlen
                · simp only [D.cells]; rw [ofL_len h1]; exact hcl
                · simpa [Value.cells] using h3
                · simpa [Value.cells] using hrange
              | _ => cases hso
          obtain ⟨xs, g1, g2, g3⟩ := rows_of hrow
          refine ⟨[.sl false xs], ?_, ?_, ?_⟩
          · simp only [Sh.cells, ofL, Sh.of]; exact ⟨_, [], rfl, ⟨xs, rfl, g2, by omega⟩, rfl⟩
          · simp only [repL, D.rep]
            refine ⟨_, [], [], [], rfl, rfl, ⟨trivial, rfl, some a, cap, by rw [g1], by omega, ?_⟩, rfl, rfl⟩
            by_cases hne : xs = []
            · exact .inl hne
            · refine .inr ⟨a.block, a.off, P.cellsOf e, hne, ?_, hpos, g3, hX _⟩
              have hl0 : 0 < len := by rw [← g1]; exact List.length_pos_iff.2 hne
              rw [← hspot hl0]
          · intro u hu; rw [List.mem_singleton.1 hu]; rfl
    · rename_i fs hu
      cases hs : shFields P (shOf P n) fs.toList 0 with
      | none => rw [hs] at h; cases h
      | some l =>
        rw [hs] at h
        simp only [Option.bind_some] at h
        split at h
        case isFalse => cases h
        rename_i hcl
        cases h
        obtain ⟨xs, n', _, _, hl, hlen, hf⟩ := DataW.trod_struct hu hd
        have := fields_rep (X := X) (shOf P n) cs n' (fun t s cs' d h1 h2 => typed_rep hX n t s n' cs' d h1 h2) fs.toList 0 l hs (fun j x hj => by
          have hj' : fs[j]? = some x := by simpa using hj
          have hjl : j < xs.length := by rw [hlen]; exact (Array.getElem?_eq_some_iff.1 hj').1
          exact ⟨_, (hf j x hj').trans (List.getElem?_eq_getElem hjl)⟩) (by rw [hl, hcl]; omega)
        simp only [List.drop_zero] at this
        exact this
    · cases h
theorem arg_rep (hX : ∀ b, ¬ X b) {n : Nat} {t : TypeId} {s : Sh} {v : Value} {d : DataW H} {p : List MemPlace} {r : Reach} {b0 : Nat} (hs : shOf P n t = some s) (hv : Value.okWide P w r b0 t v) (h : DataW.Trod enc P w base spare held t v d p) :
    ∃ x, s.of x ∧ x.rep w X v [] := by
  obtain ⟨fuel, hf⟩ := h
  obtain ⟨xs, h1, h2, h3⟩ := typed_rep hX n t s fuel _ _ hs hf
  cases n with
  | zero => cases hs
  | succ n =>
    have single : s.one = true → v.cells.toList = [v] → ∃ x, s.of x ∧ x.rep w X v [] := by
      intro hso hc
      rw [hc] at h2
      obtain ⟨x, u, rfl, hu, hx1, hx2⟩ := one_value hso h1 h2
      cases hu
      exact ⟨x, hx1, hx2⟩
    simp only [shOf] at hs
    split at hs
    · rename_i hu; cases hs; obtain ⟨b, rfl⟩ := okWide_bool hu hv; exact single rfl rfl
    · rename_i hu; cases hs; obtain ⟨b, rfl⟩ := okWide_int hu hv; exact single rfl rfl
    · rename_i hu; cases hs; obtain ⟨b, rfl⟩ := okWide_string hu hv; exact single rfl rfl
    · rename_i hu
      obtain ⟨a, len, cap, rfl⟩ := okWide_slice hu hv
      refine single ?_ rfl
      cases hs' : shOf P n _ with
      | none => rw [hs'] at hs; cases hs
      | some s' =>
        rw [hs'] at hs
        simp only [Option.bind_some] at hs
        split at hs
        · cases hs; rfl
        · cases hs
    · rename_i hu
      obtain ⟨cs, rfl, _⟩ := okWide_struct hu hv
      cases hs' : shFields P (shOf P n) _ 0 with
      | none => rw [hs'] at hs; cases hs
      | some l =>
        rw [hs'] at hs
        simp only [Option.bind_some] at hs
        split at hs
        · cases hs
          refine ⟨.agg xs, ?_, ?_⟩
          · simp only [Sh.of]; exact ⟨xs, rfl, h1⟩
          · simp only [D.rep]; exact ⟨cs, rfl, h2⟩
        · cases hs
    · cases hs
end
end Go.Pm
namespace Go.Pm
open Go Go.ChangeShapes Go.WideShapes Go.RowKit
set_option linter.unusedVariables false
section
variable {P : Program} {H : Type} {enc : TypeId × Value → H}
theorem args_again {T : TypeId → Prop} (K : Kids P T) (hz : ∀ t e, T t → P.underlying t = some (.slice e) → 0 < P.cellsOf e) {W W' : World} (bel : Below W.heap.size W W') :
    ∀ {ts : List TypeId} {vs : List Value} {ds : List (DataW H)} {ps : List MemPlace}, (∀ t ∈ ts, T t) → DataW.TrodAll enc P W 0 (fun _ => true) true ts vs ds ps →
      DataW.TrodAll enc P W' 0 (fun b => decide (b < W.heap.size)) true ts vs ds ps
  | [], [], [], _, _, h => h
  | t :: ts, v :: vs, d :: ds, ps, hT, ⟨p, q, ⟨n, h1⟩, h2, e⟩ => by
    refine ⟨p, q, ⟨n, ?_⟩, args_again K hz bel (fun t ht => hT t (List.mem_cons_of_mem _ ht)) h2, e⟩
    have hlt := DataW.trod_lt n _ _ _ h1
    have h3 := DataW.trod_respare (spare' := fun b => decide (b < W.heap.size)) K hz n _ _ _ (hT t (List.mem_cons_self ..)) h1 (fun p hp => decide_eq_true (hlt p hp))
    exact DataW.trod_carry n _ _ _ h3 (fun p hp => bel.same (hlt p hp))
theorem args_same (K : Kids P (· < P.types.size)) (hz : ∀ t e, t < P.types.size → P.underlying t = some (.slice e) → 0 < P.cellsOf e) {W W' : World} (bel : Below W.heap.size W W')
    {ts : List TypeId} {vs : List Value} {ds : List (DataW H)} {ps : List MemPlace} (hA : DataW.TrodAll enc P W 0 (fun _ => true) true ts vs ds ps) (hT : (ts.all fun t => Nat.blt t P.types.size) = true) :
    DataW.TrodAll enc P W' 0 (fun b => decide (b < W.heap.size)) true ts vs ds ps :=
  args_again K hz bel (fun t ht => Nat.le_of_ble_eq_true (List.all_eq_true.1 hT t ht)) hA
def noX (b : Nat) : Prop := False
theorem xof_none : Xof noX (fun _ => none) = noX := by
  funext b
  refine propext ⟨?_, fun h => h.elim⟩
  rintro (h | ⟨k, p, hp, _⟩)
  · exact h
  · cases hp
theorem mem_none {w : World} : Mem noX (fun _ => none) (fun i => ([] : List Ob)[i]?) w := by
  refine ⟨?_, ?_, ?_, ?_, ?_⟩
  · intro k o h; simp at h
  · intro k p h; cases h
  · intro k k' p p' h; cases h
  · intro k p h; cases h
  · intro b h; exact h.elim
theorem law_calls {f : FuncId} {xs : List AV} (h : Ent P f xs [] (.d (.b true)) []) {W : World} {args : Array Value} (hr : AV.repL W noX (fun _ => none) xs args.toList) :
    Calls P f args W fun e W' => e = .returned (.bool true) ∧ Below W.heap.size W W' := by
  refine Calls.mono (h.2 noX (fun _ => none) W args (by rw [xof_none]; exact hr) mem_none) ?_
  rintro e W' ⟨R, O, v, J', ⟨rfl, rfl⟩, rfl, hv, _, hk, _, _⟩
  simp only [AV.rep, D.rep] at hv
  refine ⟨by rw [hv.1], hk.os, hk.tape, hk.output, hk.size, fun k hlt => hk.block k hlt ?_⟩
  rintro ⟨k, p, hp, _⟩
  cases hp
end
end Go.Pm
namespace Go.Pm
open Go
set_option linter.unusedVariables false
variable {P : Program}
theorem entQ_of_calls {f : FuncId} {args : List AV} {Q : AV → List Ob → Prop} (hE : Enters P f)
    (h : ∀ (X : Nat → Prop) (J : Nat → Option Place) (w : World) (vs : Array Value), AV.repL w X J args vs.toList → Calls P f vs w fun e w' => w' = w ∧ ∃ R v, Q R [] ∧ e = .returned v ∧ R.rep w X J v) : EntQ P f args [] Q :=
  ⟨hE, fun X0 J w vs hr hm => (h _ J w vs hr).mono fun e w' ⟨hw, R, v, hq, he, hv⟩ => by
    subst hw
    exact ⟨R, [], v, J, hq, he, hv, hm, Kept.refl _ _, fun k p b hp hb => .inl ⟨k, p, hp, hb⟩, fun k p hp => ⟨p, hp, p.like_refl⟩⟩⟩
theorem ent_of_calls {f : FuncId} {args : List AV} {R : AV} (hE : Enters P f)
    (h : ∀ (X : Nat → Prop) (J : Nat → Option Place) (w : World) (vs : Array Value), AV.repL w X J args vs.toList → Calls P f vs w fun e w' => w' = w ∧ ∃ v, e = .returned v ∧ R.rep w X J v) : Ent P f args [] R [] :=
  entQ_of_calls hE fun X J w vs hr => (h X J w vs hr).mono fun e w' ⟨hw, v, he, hv⟩ => ⟨hw, R, v, ⟨rfl, rfl⟩, he, hv⟩
theorem compare_less : ∀ (a b : List UInt8), Lib.compareBytes a b = if Op.bytesLess a b then -1 else if a = b then 0 else 1
  | [], [] => by simp [Lib.compareBytes, Op.bytesLess]
  | [], _ :: _ => by simp [Lib.compareBytes, Op.bytesLess]
  | _ :: _, [] => by simp [Lib.compareBytes, Op.bytesLess]
  | x :: a, y :: b => by
    simp only [Lib.compareBytes, Op.bytesLess, compare_less a b]
    by_cases h1 : x < y
    · simp [h1]
    · by_cases h2 : y < x
      · have hne : ¬ x = y := fun e => by subst e; exact h1 h2
        simp [h1, h2, hne]
      · have e : x = y := UInt8.le_antisymm (UInt8.not_lt.1 h2) (UInt8.not_lt.1 h1)
        subst e
        simp [h1]
theorem less_irrefl : ∀ (a : List UInt8), Op.bytesLess a a = false
  | [] => by simp [Op.bytesLess]
  | x :: a => by simp [Op.bytesLess, less_irrefl a]
end Go.Pm
namespace Go.Pm
open Go
set_option maxRecDepth 100000
theorem ofInt_nat (n : Nat) {w : Nat} : BitVec.ofInt w (n : Int) = BitVec.ofNat w n := by
  apply BitVec.eq_of_toNat_eq
  simp [BitVec.toNat_ofNat]
theorem wrap_u64_nat {n : Nat} (h : n < 18446744073709551616) : IntKind.u64.wrap (n : Int) = n := by
  simp only [IntKind.wrap, IntKind.signed, IntKind.bits, Bool.false_and, Bool.false_eq_true, if_false]
  omega
theorem wrap_u8_nat {n : Nat} (h : n < 256) : IntKind.u8.wrap (n : Int) = n := by
  simp only [IntKind.wrap, IntKind.signed, IntKind.bits, Bool.false_and, Bool.false_eq_true, if_false]
  omega
theorem bit_or {u s : Nat} (hu : u < 18446744073709551616) (hs : s < 18446744073709551616) : bitD .u64 (· ||| ·) (u : Int) (s : Int) = .i .u64 ((u ||| s : Nat) : Int) := by
  have h : (BitVec.ofInt 64 (u : Int) ||| BitVec.ofInt 64 (s : Int)).toNat = u ||| s := by
    rw [ofInt_nat, ofInt_nat, BitVec.toNat_or, BitVec.toNat_ofNat, BitVec.toNat_ofNat, Nat.mod_eq_of_lt hu, Nat.mod_eq_of_lt hs]
  show D.i .u64 (IntKind.u64.wrap ((BitVec.ofInt 64 (u : Int) ||| BitVec.ofInt 64 (s : Int)).toNat : Int)) = _
  rw [h, wrap_u64_nat (Nat.or_lt_two_pow (n := 64) hu hs)]
theorem bit_and7 {c : Nat} (hc : c < 256) : bitD .u8 (· &&& ·) (c : Int) 127 = .i .u8 ((c % 128 : Nat) : Int) := by
  have h : (BitVec.ofInt 8 (c : Int) &&& BitVec.ofInt 8 127).toNat = c % 128 := by
    rw [ofInt_nat, show BitVec.ofInt 8 127 = BitVec.ofNat 8 127 from rfl, BitVec.toNat_and, BitVec.toNat_ofNat, BitVec.toNat_ofNat, Nat.mod_eq_of_lt hc]
    exact Nat.and_two_pow_sub_one_eq_mod c 7
  show D.i .u8 (IntKind.u8.wrap ((BitVec.ofInt 8 (c : Int) &&& BitVec.ofInt 8 127).toNat : Int)) = _
  rw [h, wrap_u8_nat (by omega)]
theorem bit_and1 {u : Nat} (hu : u < 18446744073709551616) : bitD .u64 (· &&& ·) (u : Int) 1 = .i .u64 ((u % 2 : Nat) : Int) := by
  have h : (BitVec.ofInt 64 (u : Int) &&& BitVec.ofInt 64 1).toNat = u % 2 := by
    rw [ofInt_nat, show BitVec.ofInt 64 1 = BitVec.ofNat 64 1 from rfl, BitVec.toNat_and, BitVec.toNat_ofNat, BitVec.toNat_ofNat, Nat.mod_eq_of_lt hu]
    exact Nat.and_two_pow_sub_one_eq_mod u 1
  show D.i .u64 (IntKind.u64.wrap ((BitVec.ofInt 64 (u : Int) &&& BitVec.ofInt 64 1).toNat : Int)) = _
  rw [h, wrap_u64_nat (by omega)]
theorem bit_xor0 {x : Nat} (hx : x < 9223372036854775808) : bitD .i64 (· ^^^ ·) (x : Int) 0 = .i .i64 (x : Int) := by
  have h : (BitVec.ofInt 64 (x : Int) ^^^ BitVec.ofInt 64 0).toNat = x := by
    rw [ofInt_nat, show BitVec.ofInt 64 0 = BitVec.ofNat 64 0 from rfl, BitVec.toNat_xor, BitVec.toNat_ofNat, BitVec.toNat_ofNat, Nat.mod_eq_of_lt (by omega)]
    simp
  show D.i .i64 (IntKind.i64.wrap ((BitVec.ofInt 64 (x : Int) ^^^ BitVec.ofInt 64 0).toNat : Int)) = _
  rw [h, IntKind.wrap_i64]
  exact congrArg (D.i .i64) (by omega)
theorem bit_xor1 {x : Nat} (hx : x < 9223372036854775808) : bitD .i64 (· ^^^ ·) (x : Int) (-1) = .i .i64 (-(x : Int) - 1) := by
  have h : (BitVec.ofInt 64 (x : Int) ^^^ BitVec.ofInt 64 (-1)).toNat = 18446744073709551615 - x := by
    rw [ofInt_nat, show BitVec.ofInt 64 (-1) = BitVec.allOnes 64 from by decide, BitVec.xor_allOnes, BitVec.toNat_not, BitVec.toNat_ofNat, Nat.mod_eq_of_lt (by omega)]
  show D.i .i64 (IntKind.i64.wrap ((BitVec.ofInt 64 (x : Int) ^^^ BitVec.ofInt 64 (-1)).toNat : Int)) = _
  rw [h, IntKind.wrap_i64]
  exact congrArg (D.i .i64) (by omega)
theorem or_shift {u c n : Nat} (hu : u < 2 ^ n) : u ||| (c * 2 ^ n) = u + c * 2 ^ n := by
  rw [Nat.or_comm, Nat.mul_comm, ← Nat.two_pow_add_eq_or_of_lt hu, Nat.add_comm]
end Go.Pm
namespace Go.Pm.Tryz
open Go Go.Proofs
set_option linter.unusedVariables false
set_option linter.unusedSimpArgs false
set_option maxRecDepth 100000
def inside (x lo hi : Int) : Bool := decide (lo ≤ x) && decide (x ≤ hi)
theorem inside_iff (x lo hi : Int) : inside x lo hi = true ↔ lo ≤ x ∧ x ≤ hi := by simp [inside]
theorem wrap_i64_id (x : Int) (h1 : -9223372036854775808 ≤ x) (h2 : x ≤ 9223372036854775807) : IntKind.i64.wrap x = x := by rw [IntKind.wrap_i64]; omega
theorem wrap_u64_id (x : Int) (h1 : 0 ≤ x) (h2 : x ≤ 9223372036854775807) : IntKind.u64.wrap x = x := by
  simp only [IntKind.wrap, IntKind.signed, IntKind.bits, Bool.false_and, Bool.false_eq_true, if_false]
  omega
theorem get_map {α : Type} {f : α → D} {ss : List α} {k : Nat} (h : k < ss.length) : (ss.map f)[k]? = some (f (ss[k]'h)) := by simp [h]
theorem step_up {k n : Nat} (h : k < n) (hn : n ≤ maxLen) : IntKind.i64.wrap ((k : Int) + 1) = ((k + 1 : Nat) : Int) := by
  have : maxLen = 9223372036854775807 := rfl
  rw [wrap_i64_id _ (by omega) (by omega)]; rfl
theorem lt_of_dec {α : Type} {f : α → D} {ss : List α} {k : Nat} (h : decide ((k : Int) < ((ss.map f).length : Int)) = true) : k < ss.length := by
  have := of_decide_eq_true h
  rw [List.length_map] at this
  omega
theorem mu_up {k n : Nat} (h : k < n) (hn : n ≤ maxLen) : n - (IntKind.i64.wrap ((k : Int) + 1)).toNat < n - ((k : Int)).toNat := by
  rw [step_up h hn]; omega
theorem lt_of_dec' {n k : Nat} (h : decide ((k : Int) < (n : Int)) = true) : k < n := by
  have := of_decide_eq_true h; omega
theorem any_up {α : Type} {p : α → Bool} {ss : List α} {k : Nat} (h : k < ss.length) (h1 : (ss.take k).any p = false) (h2 : p (ss[k]'h) = false) : (ss.take (k + 1)).any p = false := by
  rw [List.take_succ_eq_append_getElem h, List.any_append, h1]
  simp [h2]
theorem get_ex {α : Type} {ss : List α} {k : Nat} (h : k < ss.length) : ∃ t, ss[k]? = some t := ⟨_, List.getElem?_eq_getElem h⟩
theorem get_map' {α : Type} {f : α → D} {ss : List α} {k : Nat} {t : α} (h : ss[k]? = some t) : (ss.map f)[k]? = some (f t) := by simp [h]
theorem get_lt {α : Type} {ss : List α} {k : Nat} {t : α} (h : ss[k]? = some t) : k < ss.length := (List.getElem?_eq_some_iff.1 h).1
theorem get_mem {α : Type} {ss : List α} {k : Nat} {t : α} (h : ss[k]? = some t) : t ∈ ss := List.mem_of_getElem? h
theorem any_up' {α : Type} {p : α → Bool} {ss : List α} {k : Nat} {t : α} (h : ss[k]? = some t) (h1 : (ss.take k).any p = false) (h2 : p t = false) : (ss.take (k + 1)).any p = false := by
  obtain ⟨hk, rfl⟩ := List.getElem?_eq_some_iff.1 h
  exact any_up hk h1 h2
theorem not_ok {b : Bool} (h : (!b) = false) : b = true := by simpa using h
theorem not_ok' {b : Bool} (h : (!b) = true) : b = false := by simpa using h
theorem ex_map {α : Type} {f : α → D} {q : α → Prop} : ∀ {xs : List D}, (∀ y, y ∈ xs → ∃ s, y = f s ∧ q s) → ∃ ss : List α, xs = ss.map f ∧ ∀ s, s ∈ ss → q s
  | [], _ => ⟨[], rfl, fun s h => by cases h⟩
  | x :: xs, h => by
    obtain ⟨s, rfl, hs⟩ := h x (List.mem_cons_self ..)
    obtain ⟨ss, rfl, hss⟩ := ex_map (xs := xs) fun y hy => h y (List.mem_cons_of_mem _ hy)
    refine ⟨s :: ss, rfl, fun t ht => ?_⟩
    rcases List.mem_cons.1 ht with rfl | ht
    · exact hs
    · exact hss t ht
def sel {α : Type} (u : Bool) (a b : α) : α := match u with | true => a | false => b
def byteOf (x : Int) : UInt8 := UInt8.ofNat (IntKind.u8.wrap x).toNat
theorem wrap_u8 (x : Int) : 0 ≤ IntKind.u8.wrap x ∧ IntKind.u8.wrap x < 256 := by
  simp only [IntKind.wrap, IntKind.signed, IntKind.bits, Bool.false_and, Bool.false_eq_true, if_false]
  omega
theorem u8s_byte (x : Int) : [D.i .u8 (IntKind.u8.wrap x)] = u8s [byteOf x] := by
  have h := wrap_u8 x
  simp only [u8s, List.map_cons, List.map_nil, byteOf]
  congr 2
  rw [UInt8.toNat_ofNat']
  omega
theorem lt_of_dec0 {xs : List D} {k : Nat} (h : decide ((k : Int) < (xs.length : Int)) = true) : k < xs.length := by
  have := of_decide_eq_true h; omega
theorem set_get {xs : List D} {k n : Nat} {y : D} (hl : xs.length = n) (hk : k < n) : (xs.set k y)[k]? = some y := List.getElem?_set_self (by omega)
def up (m : Int) : Int := IntKind.i64.wrap (m + 1)
end Go.Pm.Tryz
namespace Go.Pm.Tryz
open Go Go.Proofs
set_option linter.unusedVariables false
set_option linter.unusedSimpArgs false
set_option maxRecDepth 100000
theorem within (x lo hi : Int) : Ent Tryz.prog 76 [.d (.i .i64 x), .d (.i .i64 lo), .d (.i .i64 hi)] [] (.d (.b (inside x lo hi))) [] := by
  refine ent_of tok mixed (f := 76) Tryz.func76 (by kernel_rfl) (keep := false) ?_
  repeat' ((conv => whnf) <;> (first
    | refine ⟨⟨none⟩, ?_⟩
    | refine Both.mk ?_ ?_
    | refine ⟨rfl, ?_⟩
    | (split <;> (rename_i h; try rw [h]))))
  all_goals (conv => whnf)
  all_goals (refine ⟨congrArg (fun b => AV.d (D.b b)) ?_, rfl⟩; simp [inside, *])
def chOk (i : Nat) (c : Int) : Bool := (decide (97 ≤ c) && decide (c ≤ 122)) || (decide (0 < i) && ((decide (48 ≤ c) && decide (c ≤ 57)) || decide (c = 95)))
def chAt (l : List UInt8) (k : Nat) : Int := ((l.getD k 0).toNat : Int)
def upToOk (l : List UInt8) : Nat → Bool
  | 0 => true
  | k + 1 => upToOk l k && chOk k (chAt l k)
def nameOk (l : List UInt8) : Bool := (decide (1 ≤ l.length) && decide (l.length ≤ 20)) && upToOk l l.length
theorem upToOk_false {l : List UInt8} {k : Nat} (h : chOk k (chAt l k) = false) : ∀ {n : Nat}, k < n → upToOk l n = false
  | 0, hk => by omega
  | n + 1, hk => by
    simp only [upToOk]
    by_cases e : k = n
    · subst e; rw [h, Bool.and_false]
    · rw [upToOk_false h (by omega), Bool.false_and]
set_option maxHeartbeats 4000000 in
theorem specNameRight (l : List UInt8) (hs : l.length ≤ maxLen) : Ent Tryz.prog 104 [.d (.s l)] [] (.d (.b (nameOk l))) [] := by
  refine ent_of tok mixed (f := 104) Tryz.func104 (by kernel_rfl) (keep := false) ?_
  repeat' ((conv => whnf) <;> (first
    | (refine ⟨[3, 0], [], fun s => ∃ (k : Nat) (n : Int), n = k ∧ k ≤ l.length ∧ upToOk l k = true ∧ s = ⟨[(3, .d (.i .i64 n)), (0, .d (.s l))], []⟩,
        fun s => match look 3 s.env with | some (.d (.i _ n)) => l.length - n.toNat | _ => 0, rfl, ⟨0, _, rfl, Nat.zero_le _, rfl, rfl⟩, ?_⟩; rintro s ⟨k, n, rfl, hk, hu, rfl⟩)
    | refine ⟨⟨none⟩, ?_⟩
    | refine Both.mk ?_ ?_
    | refine ⟨rfl, ?_⟩
    | refine ⟨⟨Int.natCast_nonneg _, of_decide_eq_true (by assumption)⟩, ?_⟩
    | (split <;> (rename_i h; try rw [h]))))
  all_goals (conv => whnf)
  all_goals first
    | (refine ⟨congrArg (fun b => AV.d (D.b b)) ?_, rfl⟩
       first
       | (have hf : chOk k (chAt l k) = false := by
            simp only [chOk, chAt, Int.toNat_natCast] at *
            simp_all
            try omega
          simp only [nameOk, upToOk_false hf (lt_of_dec' (by assumption)), Bool.and_false]; done)
       | (simp only [nameOk]; simp_all; done)
       | (simp only [nameOk]; simp_all; omega)
       | (simp only [nameOk]; simp_all
          have e : k = l.length := by omega
          subst e
          exact ⟨⟨by omega, by omega⟩, hu⟩))
    | (exact ⟨⟨k + 1, _, step_up (lt_of_dec' (by assumption)) hs, lt_of_dec' (by assumption), by
          have hf : chOk k (chAt l k) = true := by
            simp only [chOk, chAt, Int.toNat_natCast] at *
            simp_all
            try omega
          simp only [upToOk, hu, hf, Bool.and_true], rfl⟩, mu_up (lt_of_dec' (by assumption)) hs⟩)
set_option maxHeartbeats 4000000 in
theorem implNameRight (l : List UInt8) (hs : l.length ≤ maxLen) : Ent Tryz.prog 148 [.d (.s l)] [] (.d (.b (nameOk l))) [] := by
  refine ent_of tok mixed (f := 148) Tryz.func148 (by kernel_rfl) (keep := false) ?_
  repeat' ((conv => whnf) <;> (first
    | (refine ⟨[7, 6, 0], [], fun s => ∃ (k : Nat) (n : Int), n = k ∧ k ≤ l.length ∧ upToOk l k = true ∧ s = ⟨[(7, .d (.i .i64 n)), (6, .d (.i .i64 l.length)), (0, .d (.s l))], []⟩,
        fun s => match look 7 s.env with | some (.d (.i _ n)) => l.length - n.toNat | _ => 0, rfl, ⟨0, _, rfl, Nat.zero_le _, rfl, rfl⟩, ?_⟩; rintro s ⟨k, n, rfl, hk, hu, rfl⟩)
    | refine ⟨⟨none⟩, ?_⟩
    | refine Both.mk ?_ ?_
    | refine ⟨rfl, ?_⟩
    | refine ⟨⟨Int.natCast_nonneg _, of_decide_eq_true (by assumption)⟩, ?_⟩
    | (refine ⟨_, within _ _ _, ?_⟩; rintro _ _ ⟨rfl, rfl⟩)
    | (split <;> (rename_i h; try rw [h]))))
  all_goals (conv => whnf)
  all_goals first
    | (refine ⟨congrArg (fun b => AV.d (D.b b)) ?_, rfl⟩
       first
       | (have hf : chOk k (chAt l k) = false := by
            simp only [chOk, chAt, Int.toNat_natCast] at *
            simp_all
            try omega
          simp only [nameOk, upToOk_false hf (lt_of_dec' (by assumption)), Bool.and_false]; done)
       | (have e : k = l.length := by simp at *; omega
          subst e
          simp only [nameOk, hu, Bool.and_true, inside]
          rw [Bool.eq_iff_iff]; simp; omega))
    | (exact ⟨⟨k + 1, _, step_up (lt_of_dec' (by assumption)) hs, lt_of_dec' (by assumption), by
          have hf : chOk k (chAt l k) = true := by
            simp only [chOk, chAt, Int.toNat_natCast] at *
            simp_all
            try omega
          simp only [upToOk, hu, hf, Bool.and_true], rfl⟩, mu_up (lt_of_dec' (by assumption)) hs⟩)
  all_goals trace_state
def strD (l : List UInt8) : D := .s l
theorem take_up {α : Type} {xs : List α} {k : Nat} {x : α} (h : xs[k]? = some x) : xs.take (k + 1) = xs.take k ++ [x] := by
  obtain ⟨hk, rfl⟩ := List.getElem?_eq_some_iff.1 h
  exact List.take_succ_eq_append_getElem hk
theorem le_max {n : Nat} (h : n ≤ 1000000) : n ≤ maxLen := Nat.le_trans h (Nat.le_of_ble_eq_true rfl)
def i64D (n : Int) : D := .i .i64 n
theorem room_small {n m b : Nat} (h : n ≤ 1000000) (hm : m ≤ 1000000) (hb : b ≤ 10000) : room (n + m) b := by
  have : maxLen = 9223372036854775807 := rfl
  simp only [room]
  constructor
  · omega
  · have : (n + m) * b ≤ 2000000 * 10000 := Nat.mul_le_mul (by omega) hb
    omega
theorem room_add {n b : Nat} {x : D} (h : n ≤ 1000000) (hb : b ≤ 10000) : room (n + [x].length) b := room_small h (Nat.le_of_ble_eq_true rfl) hb
structure AllOf (p : D → Prop) (xs : List D) : Prop where
  len : xs.length ≤ maxLen
  all : ∀ x, x ∈ xs → p x
theorem eraseL_map : ∀ xs : List D, eraseL xs = xs.map D.erase
  | [] => rfl
  | x :: xs => by simp only [eraseL, List.map_cons, eraseL_map xs]
theorem AllOf.erase {p q : D → Prop} {xs : List D} (h : AllOf p xs) (hpq : ∀ x, p x → q x.erase) : AllOf q (eraseL xs) := by
  rw [eraseL_map]
  refine ⟨by rw [List.length_map]; exact h.len, fun x hx => ?_⟩
  obtain ⟨y, hy, rfl⟩ := List.mem_map.1 hx
  exact hpq y (h.all y hy)
theorem AllOf.nil (p : D → Prop) : AllOf p [] := ⟨Nat.zero_le _, fun x hx => by cases hx⟩
end Go.Pm.Tryz
