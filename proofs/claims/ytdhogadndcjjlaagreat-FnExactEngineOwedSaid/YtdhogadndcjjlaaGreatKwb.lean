/-
A part of the proof (packed).
-/
import Derived.ArgAppend
import Derived.Laws.Slices
import Derived.Laws.MakeOwn
import Derived.Great.BuildSlice
import Derived.DeepKeys
import Derived.Test.YtdhogadndcjjlaaGreatKwa
namespace Go.Pm
open Go
set_option linter.unusedVariables false
variable {P : Program}
theorem rep_const {w : World} {X : Nat → Prop} {J : Nat → Option Place} {v : Value} {x : AV} (h : ofConst v = some x) : x.rep w X J v := by
  unfold ofConst at h
  split at h <;> first | (cases h; simp [AV.rep, D.rep, Value.oneCell']; done) | cases h
theorem Rel.ev {X0 : Nat → Prop} {J : Nat → Option Place} {st : St} {a : Act} {w : World} (r : Rel X0 J st a w) {x : Operand} {v : AV} (h : st.ev x = some v) : v.rep w (Xof X0 J) J (a.eval x) := by
  cases x with
  | tmp t =>
    obtain ⟨u, hu, hr⟩ := r.env t v h
    show v.rep _ _ _ (a.tmps.getD t undef)
    rw [Array.getD_eq_getD_getElem?, hu]; exact hr
  | const c => exact rep_const h
  | func f => cases h; simp only [AV.rep, Act.eval]; exact ⟨#[], rfl, by simp [AV.repL]⟩
  | global g => cases h
theorem Rel.evs {X0 : Nat → Prop} {J : Nat → Option Place} {st : St} {a : Act} {w : World} (r : Rel X0 J st a w) : ∀ {xs : List Operand} {vs : List AV}, st.evs xs = some vs → AV.repL w (Xof X0 J) J vs (xs.map a.eval)
  | [], vs, h => by cases h; simp [AV.repL]
  | x :: xs, vs, h => by
    simp only [St.evs] at h
    split at h
    · rename_i v hv
      split at h
      · rename_i l hl
        cases h
        simp only [AV.repL, List.map_cons]
        exact ⟨_, _, rfl, r.ev hv, r.evs hl⟩
      · cases h
    · cases h
theorem St.put_look {st : St} {d : Nat} {v : AV} (t : Nat) : look t (st.put (some d) v).env = if d = t then some v else look t st.env := look_cons ..
theorem St.set_look {st : St} {k0 : Nat} {o : Ob} (k : Nat) : look k (st.set k0 o).obj = if k0 = k then some o else look k st.obj := look_cons ..
theorem Act.put_get {a : Act} {d t : Nat} {u : Value} (hd : d < a.tmps.size) : (a.put (some d) u).tmps[t]? = if d = t then some u else a.tmps[t]? := by
  simp only [Act.put, Array.getElem?_setIfInBounds]
  by_cases h : d = t
  · subst h; simp [hd]
  · simp [h]
theorem Act.put_size {a : Act} {dst : Option Nat} {u : Value} : (a.put dst u).tmps.size = a.tmps.size := by
  cases dst <;> simp [Act.put]
theorem Act.put_defers {a : Act} {dst : Option Nat} {u : Value} : (a.put dst u).defers = a.defers := by
  cases dst <;> simp [Act.put]
theorem Rel.put {X0 : Nat → Prop} {J : Nat → Option Place} {st : St} {a : Act} {w : World} (r : Rel X0 J st a w) {dst : Option Nat} (hd : ∀ d, dst = some d → d < a.tmps.size) {v : AV} {u : Value} (hv : v.rep w (Xof X0 J) J u) :
    Rel X0 J (st.put dst v) (a.put dst u) w := by
  cases dst with
  | none => exact r
  | some d =>
    refine ⟨fun t v' h => ?_, r.mem, by rw [Act.put_defers]; exact r.defers⟩
    rw [St.put_look] at h
    rw [Act.put_get (hd d rfl)]
    by_cases e : d = t
    · rw [if_pos e] at h ⊢; cases h; exact ⟨u, rfl, hv⟩
    · rw [if_neg e] at h ⊢; exact r.env t v' h
theorem Rel.same {X0 : Nat → Prop} {J : Nat → Option Place} {st : St} {a : Act} {w w' : World} (r : Rel X0 J st a w) (h : Same w w') : Rel X0 J st a w' :=
  ⟨fun t v ht => let ⟨u, hu, hr⟩ := r.env t v ht; ⟨u, hu, AV.rep_same h hr⟩, r.mem.same h, r.defers⟩
def Leads (P : Program) (X0 : Nat → Prop) (J : Nat → Option Place) (a : Act) (w : World) (K : St → Prop) (next : Act → World → Prop) : Prop :=
  ∀ st' J' a' w', K st' → Rel X0 J' st' a' w' → a'.tmps.size = a.tmps.size → Step J w J' w' → next a' w'
section
variable {cx : Cx} {X0 : Nat → Prop} {J : Nat → Option Place} {st : St} {a : Act} {w : World} {o : Oper} {K : St → Prop} {next : Act → World → Prop} {Q : Exit → Act → World → Prop}
theorem wp_val (r : Rel X0 J st a w) (hd : ∀ d, o.dst = some d → d < a.tmps.size) (hn : Leads P X0 J a w K next) {v : AV} (hK : K (st.put o.dst v))
    {u : Value} {w' : World} (hrun : (execOp a.eval o).run P w = .ok (.value u) w') (hs : Same w w') (hv : v.rep w' (Xof X0 J) J u) : o.wp P a w next Q := by
  unfold Oper.wp
  rw [hrun]
  exact hn _ J _ w' hK ((r.same hs).put hd hv) Act.put_size (hs.step J)
theorem op_move (r : Rel X0 J st a w) (hd : ∀ d, o.dst = some d → d < a.tmps.size) (hn : Leads P X0 J a w K next) {x : Operand} (hop : o.op = .move x ∨ o.op = .assign x)
    (hc : evCmd P cx o.dst (opCmd cx.T o st) st K) : o.wp P a w next Q := by
  have : evCmd P cx o.dst (match st.ev x with | some v => .val v | none => .stuck) st K := by
    rcases hop with h | h <;> (simp only [opCmd, h] at hc; exact hc)
  cases hx : st.ev x with
  | none => rw [hx] at this; exact this.elim
  | some v =>
    rw [hx] at this
    refine wp_val r hd hn this (u := a.eval x) (w' := w) ?_ (Same.refl w) (r.ev hx)
    rcases hop with h | h <;> simp [execOp, h]
theorem op_pick (r : Rel X0 J st a w) (hd : ∀ d, o.dst = some d → d < a.tmps.size) (hn : Leads P X0 J a w K next) {c x y : Operand} (hop : o.op = .pick c x y)
    (hc : evCmd P cx o.dst (opCmd cx.T o st) st K) : o.wp P a w next Q := by
  simp only [opCmd, hop] at hc
  split at hc
  · rename_i t ht
    have hb : a.eval c = .bool t := by have := r.ev ht; simp only [AV.rep, D.rep] at this; exact this.1
    cases t
    · simp only at hc
      cases hx : st.ev y with
      | none => rw [hx] at hc; exact hc.elim
      | some v =>
        rw [hx] at hc
        exact wp_val r hd hn hc (u := a.eval y) (w' := w) (by simp [execOp, hop, hb, asBool]) (Same.refl w) (r.ev hx)
    · simp only at hc
      cases hx : st.ev x with
      | none => rw [hx] at hc; exact hc.elim
      | some v =>
        rw [hx] at hc
        exact wp_val r hd hn hc (u := a.eval x) (w' := w) (by simp [execOp, hop, hb, asBool]) (Same.refl w) (r.ev hx)
  · exact hc.elim
theorem op_nilCheck (r : Rel X0 J st a w) (hd : ∀ d, o.dst = some d → d < a.tmps.size) (hn : Leads P X0 J a w K next) {x : Operand} (hop : o.op = .nilCheck x)
    (hc : evCmd P cx o.dst (opCmd cx.T o st) st K) : o.wp P a w next Q := by
  simp only [opCmd, hop] at hc
  split at hc
  · rename_i k off hx
    have hv := r.ev hx
    have hv' := hv
    simp only [AV.rep] at hv; obtain ⟨p, _, hv⟩ := hv
    exact wp_val r hd hn hc (u := a.eval x) (w' := w) (by simp [execOp, hop, hv]) (Same.refl w) hv'
  · rename_i k s j off hx
    have hv := r.ev hx
    have hv' := hv
    simp only [AV.rep] at hv; obtain ⟨p, _, hv⟩ := hv
    exact wp_val r hd hn hc (u := a.eval x) (w' := w) (by simp [execOp, hop, hv]) (Same.refl w) hv'
  · rename_i cs hx
    have hv := r.ev hx
    have hv' := hv
    simp only [AV.rep] at hv; obtain ⟨b, off, vs, hv, _⟩ := hv
    exact wp_val r hd hn hc (u := a.eval x) (w' := w) (by simp [execOp, hop, hv]) (Same.refl w) hv'
  · rename_i g caps hx
    have hv := r.ev hx
    have hv' := hv
    simp only [AV.rep] at hv; obtain ⟨cs, hv, _⟩ := hv
    exact wp_val r hd hn hc (u := a.eval x) (w' := w) (by simp [execOp, hop, hv]) (Same.refl w) hv'
  · exact hc.elim
theorem op_extract (r : Rel X0 J st a w) (hd : ∀ d, o.dst = some d → d < a.tmps.size) (hn : Leads P X0 J a w K next) {x : Operand} {ix : Nat} (hop : o.op = .extract x ix)
    (hc : evCmd P cx o.dst (opCmd cx.T o st) st K) : o.wp P a w next Q := by
  simp only [opCmd, hop] at hc
  split at hc
  · rename_i vs hx
    split at hc
    · rename_i v hv
      have hr := r.ev hx
      simp only [AV.rep] at hr
      obtain ⟨us, hu, hr⟩ := hr
      have key : ∀ (l : List AV) (us : List Value) (i : Nat), AV.repL w (Xof X0 J) J l us → l[i]? = some v → ∃ u, us[i]? = some u ∧ v.rep w (Xof X0 J) J u := by
        intro l
        induction l with
        | nil => intro us i _ hi; simp at hi
        | cons y l ih =>
          intro us i hl hi
          simp only [AV.repL] at hl
          obtain ⟨u, us', rfl, h1, h2⟩ := hl
          cases i with
          | zero => simp at hi; subst hi; exact ⟨u, rfl, h1⟩
          | succ i => exact ih us' i h2 (by simpa using hi)
      obtain ⟨u, hui, hvu⟩ := key vs us.toList ix hr hv
      refine wp_val r hd hn hc (u := u) (w' := w) ?_ (Same.refl w) hvu
      have : us[ix]? = some u := by simpa using hui
      simp [execOp, hop, hu, Instr.extract, this]
    · exact hc.elim
  · exact hc.elim
theorem op_makeFunc (r : Rel X0 J st a w) (hd : ∀ d, o.dst = some d → d < a.tmps.size) (hn : Leads P X0 J a w K next) {fn : Fn} {fi ca : Array Operand} (hop : o.op = .makeFunc fn fi ca)
    (hc : evCmd P cx o.dst (opCmd cx.T o st) st K) : o.wp P a w next Q := by
  simp only [opCmd, hop] at hc
  split at hc
  · rename_i g
    split at hc
    · rename_i hf
      split at hc
      · rename_i vs hvs
        have hr := r.evs hvs
        refine wp_val r hd hn hc (u := .func (.func g) #[] (ca.map a.eval)) (w' := w) ?_ (Same.refl w) ?_
        · have : fi = #[] := by simpa using hf
          subst this
          simp [execOp, hop, Instr.makeFunc]
        · simp only [AV.rep]; exact ⟨_, rfl, by simpa using hr⟩
      · exact hc.elim
    · exact hc.elim
  · exact hc.elim
theorem op_unOp (r : Rel X0 J st a w) (hd : ∀ d, o.dst = some d → d < a.tmps.size) (hn : Leads P X0 J a w K next) {op : UnOp} {t : TypeId} {x : Operand} (hop : o.op = .unOp op t x)
    (hc : evCmd P cx o.dst (opCmd cx.T o st) st K) : o.wp P a w next Q := by
  simp only [opCmd, hop] at hc
  split at hc
  · split at hc
    · rename_i t hx
      have hv := r.ev hx
      simp only [AV.rep, D.rep] at hv
      exact wp_val r hd hn hc (u := .bool (!t)) (w' := w) (by simp [execOp, hop, hv.1, Op.unary]) (Same.refl w) (by simp [AV.rep, D.rep])
    · exact hc.elim
  · split at hc
    · rename_i k n hx
      have hv := r.ev hx
      simp only [AV.rep, D.rep] at hv
      exact wp_val r hd hn hc (u := .int k (k.wrap (0 - n))) (w' := w) (by simp [execOp, hop, hv.1, Op.unary, Op.intArith]) (Same.refl w) (by simp [AV.rep, D.rep])
    · exact hc.elim
  · split at hc
    · rename_i k n hx
      have hv := r.ev hx
      simp only [AV.rep, D.rep] at hv
      refine wp_val r hd hn hc (u := .int k (k.wrap (BitVec.ofInt k.bits (if k.signed then -1 else k.max) ^^^ BitVec.ofInt k.bits n).toNat)) (w' := w) ?_ (Same.refl w) (by simp [AV.rep, D.rep, bitD])
      simp [execOp, hop, hv.1, Op.unary, Op.intBits]
    · exact hc.elim
  · exact hc.elim
theorem kind_slice {t e : TypeId} (h : kindOf P t = .slice e) : P.underlying t = some (.slice e) := by
  unfold kindOf at h; split at h <;> (try split at h) <;> simp_all
theorem kind_str {t : TypeId} (h : kindOf P t = .str) : P.underlying t = some .string := by
  unfold kindOf at h; split at h <;> (try split at h) <;> simp_all
theorem kind_bool {t : TypeId} (h : kindOf P t = .bool) : P.underlying t = some .bool := by
  unfold kindOf at h; split at h <;> (try split at h) <;> simp_all
theorem kind_int {t : TypeId} {k : IntKind} (h : kindOf P t = .int k) : P.underlying t = some (.int k) := by
  unfold kindOf at h; split at h <;> (try split at h) <;> simp_all
theorem kind_ptr {t e : TypeId} (h : kindOf P t = .ptr e) : P.underlying t = some (.pointer e) := by
  unfold kindOf at h; split at h <;> (try split at h) <;> simp_all
theorem kind_map {t k e : TypeId} (h : kindOf P t = .map k e) : P.underlying t = some (.map k e) := by
  unfold kindOf at h; split at h <;> (try split at h) <;> simp_all
theorem kind_struct' {t : TypeId} {l : List (Nat × Nat × Nat)} (h : kindOf P t = .struct l) : ∃ fs, P.underlying t = some (.struct fs) ∧ (l = fs.toList.map fun f => (f.offset, f.type, P.cellsOf f.type)) ∧ ∀ f ∈ fs.toList, (P.info? f.type).isSome = true := by
  unfold kindOf at h
  split at h <;> try (cases h; done)
  rename_i fs hu
  split at h
  · rename_i ha
    cases h
    exact ⟨fs, hu, rfl, fun f hf => List.all_eq_true.1 ha f hf⟩
  · cases h
theorem kind_struct {t : TypeId} {l : List (Nat × Nat × Nat)} (h : kindOf P t = .struct l) : ∃ fs, P.underlying t = some (.struct fs) ∧ l = fs.toList.map fun f => (f.offset, f.type, P.cellsOf f.type) := by
  obtain ⟨fs, h1, h2, _⟩ := kind_struct' h
  exact ⟨fs, h1, h2⟩
theorem und_info {t : TypeId} {d : TypeDesc} (h : P.underlying t = some d) : ∃ i, P.info? t = some i := by
  unfold Program.underlying at h
  cases hi : P.info? t with
  | none => rw [hi] at h; cases h
  | some i => exact ⟨i, rfl⟩
theorem und_size {t : TypeId} {d : TypeDesc} (h : P.underlying t = some d) : (P.info? t).map (·.size) = some (P.cellsOf t) := by
  obtain ⟨i, hi⟩ := und_info h
  simp [Program.cellsOf, hi]
theorem run_size {t : TypeId} {d : TypeDesc} (h : P.underlying t = some d) (w : World) : (sizeOf t).run P w = .ok (P.cellsOf t) w := by
  obtain ⟨i, hi⟩ := und_info h
  exact run_sizeOf w hi
theorem cells_one {v : Value} (h : v.oneCell' = true) : v.cells = #[v] := by cases v <;> first | rfl | simp [Value.oneCell'] at h
theorem cells_rep {w : World} {X : Nat → Prop} {J : Nat → Option Place} {x : AV} {v : Value} (h : x.rep w X J v) : AV.repL w X J x.cells v.cells.toList := by
  have key : ∀ (cs : List D) (vs : List Value), repL w X cs vs [] → AV.repL w X J (cs.map .d) vs := by
    intro cs
    induction cs with
    | nil => intro vs h; simp only [repL] at h; simp [AV.repL, h.1]
    | cons c cs ih =>
      intro vs h
      simp only [repL] at h
      obtain ⟨v, vs', b1, b2, rfl, hb, h1, h2⟩ := h
      have := List.append_eq_nil_iff.1 hb.symm
      rw [this.1] at h1; rw [this.2] at h2
      simp only [List.map_cons, AV.repL, AV.rep]
      exact ⟨v, vs', rfl, h1, ih _ h2⟩
  have one : ∀ x : AV, x.rep w X J v → v.cells = #[v] → AV.repL w X J [x] v.cells.toList := by
    intro x hx hv
    rw [hv]
    simp only [AV.repL]
    exact ⟨v, [], rfl, hx, rfl⟩
  cases x with
  | d x =>
    cases x with
    | agg cs => simp only [AV.rep, D.rep] at h; obtain ⟨vs, rfl, hr⟩ := h; exact key cs _ hr
    | b x => exact one _ h (by simp only [AV.rep, D.rep] at h; rw [h.1]; rfl)
    | i k n => exact one _ h (by simp only [AV.rep, D.rep] at h; rw [h.1]; rfl)
    | s l => exact one _ h (by simp only [AV.rep, D.rep] at h; rw [h.1]; rfl)
    | sl u xs => exact one _ h (by simp only [AV.rep, D.rep] at h; obtain ⟨_, _, a, c, hv, _⟩ := h; rw [hv]; rfl)
    | os sz dp xs => exact one _ h (by simp only [AV.rep, D.rep] at h; obtain ⟨_, a, c, hv, _⟩ := h; rw [hv]; rfl)
    | junk => exact one _ h (by simp only [AV.rep, D.rep] at h; cases v <;> first | rfl | simp [Value.oneCell'] at h)
  | c u => exact one _ h (by simp only [AV.rep] at h; obtain ⟨rfl, h1⟩ := h; cases v <;> first | rfl | simp [Value.oneCell'] at h1)
  | snil => exact one _ h (by simp only [AV.rep] at h; rw [h]; rfl)
  | agg cs => simp only [AV.rep] at h; obtain ⟨vs, rfl, hr⟩ := h; exact hr
  | tup cs => exact one _ h (by simp only [AV.rep] at h; obtain ⟨vs, rfl, _⟩ := h; rfl)
  | ptr k off => exact one _ h (by simp only [AV.rep] at h; obtain ⟨p, _, hv⟩ := h; rw [hv]; rfl)
  | eptr k sz i off => exact one _ h (by simp only [AV.rep] at h; obtain ⟨p, _, hv⟩ := h; rw [hv]; rfl)
  | own k => exact one _ h (by simp only [AV.rep] at h; obtain ⟨p, _, hv, h1⟩ := h; rw [← hv] at h1; exact cells_one h1)
  | win k sz lo hi => exact one _ h (by simp only [AV.rep] at h; obtain ⟨p, a0, n0, c0, a, c, _, _, _, _, _, hv, _⟩ := h; rw [hv]; rfl)
  | rd cs => exact one _ h (by simp only [AV.rep] at h; obtain ⟨b, off, vs, hv, _⟩ := h; rw [hv]; rfl)
  | fn g caps => exact one _ h (by simp only [AV.rep] at h; obtain ⟨cs, hv, _⟩ := h; rw [hv]; rfl)
  | bot => exact one _ h (by simp only [AV.rep] at h; cases v <;> first | rfl | simp [Value.oneCell'] at h)
theorem D.cells_rep {w : World} {X : Nat → Prop} {x : D} {v : Value} {bs : List Nat} (h : x.rep w X v bs) : repL w X x.cells v.cells.toList bs := by
  cases x with
  | agg cs => simp only [D.rep] at h; obtain ⟨vs, rfl, hr⟩ := h; exact hr
  | b x => simp only [D.rep] at h; obtain ⟨rfl, rfl⟩ := h; simp only [D.cells, repL, Value.cells]; exact ⟨_, [], [], [], rfl, rfl, by simp [D.rep], rfl, rfl⟩
  | i k n => simp only [D.rep] at h; obtain ⟨rfl, rfl⟩ := h; simp only [D.cells, repL, Value.cells]; exact ⟨_, [], [], [], rfl, rfl, by simp [D.rep], rfl, rfl⟩
  | s l => simp only [D.rep] at h; obtain ⟨rfl, rfl⟩ := h; simp only [D.cells, repL, Value.cells]; exact ⟨_, [], [], [], rfl, rfl, by simp [D.rep], rfl, rfl⟩
  | sl u xs =>
    have h' := h
    simp only [D.rep] at h
    obtain ⟨_, _, a, c, hv, _⟩ := h
    subst hv
    simp only [D.cells, repL, Value.cells]
    exact ⟨_, [], bs, [], rfl, by simp, h', rfl, rfl⟩
  | os sz dp xs =>
    have h' := h
    simp only [D.rep] at h
    obtain ⟨_, a, c, hv, _⟩ := h
    subst hv
    simp only [D.cells, repL, Value.cells]
    exact ⟨_, [], bs, [], rfl, by simp, h', rfl, rfl⟩
  | junk =>
    have h' := h
    simp only [D.rep] at h
    rw [cells_one h.1]
    simp only [D.cells, repL]
    exact ⟨_, [], bs, [], rfl, by simp, h', rfl, rfl⟩
theorem AV.repL_length {w : World} {X : Nat → Prop} {J : Nat → Option Place} : ∀ {xs : List AV} {vs : List Value}, AV.repL w X J xs vs → xs.length = vs.length
  | [], vs, h => by simp only [AV.repL] at h; rw [h]; rfl
  | x :: xs, vs, h => by
    simp only [AV.repL] at h
    obtain ⟨v, vs', rfl, _, h2⟩ := h
    simp [AV.repL_length h2]
theorem repL_length {w : World} {X : Nat → Prop} : ∀ {xs : List D} {vs : List Value} {bs : List Nat}, repL w X xs vs bs → xs.length = vs.length
  | [], vs, bs, h => by simp only [repL] at h; rw [h.1]; rfl
  | x :: xs, vs, bs, h => by
    simp only [repL] at h
    obtain ⟨v, vs', b1, b2, rfl, _, _, h2⟩ := h
    simp [repL_length h2]
theorem drop_some {α : Type} : ∀ {n : Nat} {l r : List α}, drop n l = some r → l.drop n = r ∧ n ≤ l.length
  | 0, l, r, h => by simp only [drop] at h; cases h; simp
  | n + 1, x :: l, r, h => by simp only [drop] at h; have := drop_some h; simp [this]
  | n + 1, [], r, h => by cases h
theorem take_some {α : Type} : ∀ {n : Nat} {l r : List α}, take n l = some r → l.take n = r ∧ n ≤ l.length
  | 0, l, r, h => by simp only [take] at h; cases h; simp
  | n + 1, x :: l, r, h => by
    simp only [take] at h
    split at h
    · rename_i r' hr; cases h; have := take_some hr; simp [this]
    · cases h
  | n + 1, [], r, h => by cases h
theorem AV.repL_drop {w : World} {X : Nat → Prop} {J : Nat → Option Place} : ∀ {n : Nat} {xs : List AV} {vs : List Value}, AV.repL w X J xs vs → AV.repL w X J (xs.drop n) (vs.drop n)
  | 0, xs, vs, h => by simpa using h
  | n + 1, [], vs, h => by simp only [AV.repL] at h; rw [h]; simp [AV.repL]
  | n + 1, x :: xs, vs, h => by
    simp only [AV.repL] at h
    obtain ⟨v, vs', rfl, _, h2⟩ := h
    simpa using AV.repL_drop (n := n) h2
theorem AV.repL_take {w : World} {X : Nat → Prop} {J : Nat → Option Place} : ∀ {n : Nat} {xs : List AV} {vs : List Value}, AV.repL w X J xs vs → AV.repL w X J (xs.take n) (vs.take n)
  | 0, xs, vs, h => by simp [AV.repL]
  | n + 1, [], vs, h => by simp only [AV.repL] at h; rw [h]; simp [AV.repL]
  | n + 1, x :: xs, vs, h => by
    simp only [AV.repL] at h
    obtain ⟨v, vs', rfl, h1, h2⟩ := h
    simp only [List.take_succ_cons, AV.repL]
    exact ⟨v, _, rfl, h1, AV.repL_take h2⟩
theorem repL_drop {w : World} {X : Nat → Prop} : ∀ {n : Nat} {xs : List D} {vs : List Value}, repL w X xs vs [] → repL w X (xs.drop n) (vs.drop n) []
  | 0, xs, vs, h => by simpa using h
  | n + 1, [], vs, h => by simp only [repL] at h; rw [h.1]; simp [repL]
  | n + 1, x :: xs, vs, h => by
    simp only [repL] at h
    obtain ⟨v, vs', b1, b2, rfl, hb, _, h2⟩ := h
    rw [(List.append_eq_nil_iff.1 hb.symm).2] at h2
    simpa using repL_drop (n := n) h2
theorem repL_take {w : World} {X : Nat → Prop} : ∀ {n : Nat} {xs : List D} {vs : List Value}, repL w X xs vs [] → repL w X (xs.take n) (vs.take n) []
  | 0, xs, vs, h => by simp [repL]
  | n + 1, [], vs, h => by simp only [repL] at h; rw [h.1]; simp [repL]
  | n + 1, x :: xs, vs, h => by
    simp only [repL] at h
    obtain ⟨v, vs', b1, b2, rfl, hb, h1, h2⟩ := h
    obtain ⟨rfl, rfl⟩ := List.append_eq_nil_iff.1 hb.symm
    simp only [List.take_succ_cons, repL]
    exact ⟨v, _, [], [], rfl, rfl, h1, repL_take h2⟩
theorem mkAgg_rep {w : World} {X : Nat → Prop} {J : Nat → Option Place} {cs : List AV} {vs : Array Value} (h : AV.repL w X J cs vs.toList) : (mkAgg cs).rep w X J (.agg vs) := by
  have key : ∀ (cs : List AV) (l : List D) (vs : List Value), allD cs = some l → AV.repL w X J cs vs → repL w X l vs [] := by
    intro cs
    induction cs with
    | nil => intro l vs h hr; simp only [allD] at h; cases h; simp only [AV.repL] at hr; simp [repL, hr]
    | cons c cs ih =>
      intro l vs h hr
      cases c with
      | d x =>
        simp only [allD] at h
        split at h
        · rename_i l' hl; cases h
          simp only [AV.repL, AV.rep] at hr
          obtain ⟨v, vs', rfl, h1, h2⟩ := hr
          simp only [repL]
          exact ⟨v, vs', [], [], rfl, rfl, h1, ih _ _ hl h2⟩
        · cases h
      | _ => simp [allD] at h
  unfold mkAgg
  split
  · rename_i l hl
    simp only [AV.rep, D.rep]
    exact ⟨vs, rfl, key _ _ _ hl h⟩
  · simp only [AV.rep]; exact ⟨vs, rfl, h⟩
theorem loadAs_ok {w : World} {X : Nat → Prop} {J : Nat → Option Place} {t : TypeId} {cells : List AV} {vs : List Value} (hr : AV.repL w X J cells vs) {dst : Option Nat}
    (hc : evCmd P cx dst (loadAs (tdOf P t) cells) st K) : ∃ v u, K (st.put dst v) ∧ v.rep w X J u ∧
      ((∃ fs, P.underlying t = some (.struct fs) ∧ u = .agg (vs.take (P.cellsOf t)).toArray ∧ P.cellsOf t ≤ vs.length) ∨ (∃ d, P.underlying t = some d ∧ d.isRow = false ∧ vs[0]? = some u)) := by
  have one : ∀ {d}, P.underlying t = some d → d.isRow = false → evCmd P cx dst (headC cells) st K →
      ∃ v u, K (st.put dst v) ∧ v.rep w X J u ∧ ((∃ fs, P.underlying t = some (.struct fs) ∧ u = .agg (vs.take (P.cellsOf t)).toArray ∧ P.cellsOf t ≤ vs.length) ∨ (∃ d, P.underlying t = some d ∧ d.isRow = false ∧ vs[0]? = some u)) := by
    intro d hu hd hc
    cases cells with
    | nil => exact hc.elim
    | cons v l =>
      simp only [AV.repL] at hr
      obtain ⟨u, vs', rfl, h1, _⟩ := hr
      exact ⟨v, u, hc, h1, .inr ⟨d, hu, hd, rfl⟩⟩
  unfold loadAs at hc
  split at hc
  · rename_i l hk
    obtain ⟨fs, hu, _⟩ := kind_struct (P := P) (t := t) hk
    split at hc
    · rename_i l' hl
      obtain ⟨rfl, hle⟩ := take_some hl
      refine ⟨_, .agg (vs.take (P.cellsOf t)).toArray, hc, mkAgg_rep (by simpa [tdOf] using AV.repL_take (n := P.cellsOf t) hr), .inl ⟨fs, hu, rfl, ?_⟩⟩
      rw [← AV.repL_length hr]; exact hle
    · exact hc.elim
  · exact hc.elim
  · rename_i h1 h2
    cases hk : kindOf P t with
    | bool => exact one (kind_bool hk) rfl hc
    | int k => exact one (kind_int hk) rfl hc
    | str => exact one (kind_str hk) rfl hc
    | slice e => exact one (kind_slice hk) rfl hc
    | struct l => exact absurd hk (h1 l)
    | ptr e => exact one (kind_ptr hk) rfl hc
    | map k e => exact one (kind_map hk) rfl hc
    | other => exact absurd hk h2
theorem loadD_ok {w : World} {X : Nat → Prop} {J : Nat → Option Place} {t : TypeId} {cells : List D} {vs : List Value} (hr : repL w X cells vs []) {dst : Option Nat}
    (hc : evCmd P cx dst (loadD (tdOf P t) cells) st K) : ∃ v u, K (st.put dst v) ∧ v.rep w X J u ∧
      ((∃ fs, P.underlying t = some (.struct fs) ∧ u = .agg (vs.take (P.cellsOf t)).toArray ∧ P.cellsOf t ≤ vs.length) ∨ (∃ d, P.underlying t = some d ∧ d.isRow = false ∧ vs[0]? = some u)) := by
  have one : ∀ {d}, P.underlying t = some d → d.isRow = false → evCmd P cx dst (headD cells) st K →
      ∃ v u, K (st.put dst v) ∧ v.rep w X J u ∧ ((∃ fs, P.underlying t = some (.struct fs) ∧ u = .agg (vs.take (P.cellsOf t)).toArray ∧ P.cellsOf t ≤ vs.length) ∨ (∃ d, P.underlying t = some d ∧ d.isRow = false ∧ vs[0]? = some u)) := by
    intro d hu hd hc
    cases cells with
    | nil => exact hc.elim
    | cons v l =>
      simp only [repL] at hr
      obtain ⟨u, vs', b1, b2, rfl, hb, h1, _⟩ := hr
      rw [(List.append_eq_nil_iff.1 hb.symm).1] at h1
      exact ⟨.d v, u, hc, h1, .inr ⟨d, hu, hd, rfl⟩⟩
  unfold loadD at hc
  split at hc
  · rename_i l hk
    obtain ⟨fs, hu, _⟩ := kind_struct (P := P) (t := t) hk
    split at hc
    · rename_i l' hl
      obtain ⟨rfl, hle⟩ := take_some hl
      refine ⟨_, .agg (vs.take (P.cellsOf t)).toArray, hc, ?_, .inl ⟨fs, hu, rfl, ?_⟩⟩
      · simp only [AV.rep, D.rep]; exact ⟨_, rfl, by simpa [tdOf] using repL_take (n := P.cellsOf t) hr⟩
      · rw [← repL_length hr]; exact hle
    · exact hc.elim
  · exact hc.elim
  · rename_i h1 h2
    cases hk : kindOf P t with
    | bool => exact one (kind_bool hk) rfl hc
    | int k => exact one (kind_int hk) rfl hc
    | str => exact one (kind_str hk) rfl hc
    | slice e => exact one (kind_slice hk) rfl hc
    | struct l => exact absurd hk (h1 l)
    | ptr e => exact one (kind_ptr hk) rfl hc
    | map k e => exact one (kind_map hk) rfl hc
    | other => exact absurd hk h2
theorem rangeAt_drop {b off n : Nat} {vs : List Value} (h : w.rangeAt b off vs) : w.rangeAt b (off + n) (vs.drop n) := by
  intro j v hv
  rw [List.getElem?_drop] at hv
  rw [Nat.add_assoc]; exact h _ _ hv
theorem rangeAt_take {b off n : Nat} {vs : List Value} (h : w.rangeAt b off vs) : w.rangeAt b off (vs.take n) := by
  intro j v hv
  rw [List.getElem?_take] at hv
  split at hv
  · exact h _ _ hv
  · cases hv
theorem run_loadAt_of {t : TypeId} {b off : Nat} {vs : List Value} (hc : w.rangeAt b off vs) {u : Value}
    (h : (∃ fs, P.underlying t = some (.struct fs) ∧ u = .agg (vs.take (P.cellsOf t)).toArray ∧ P.cellsOf t ≤ vs.length) ∨ (∃ d, P.underlying t = some d ∧ d.isRow = false ∧ vs[0]? = some u)) :
    (Instr.loadAt t (.pointer (some ⟨b, off, none⟩))).run P w = .ok u w := by
  rcases h with ⟨fs, hu, rfl, hle⟩ | ⟨d, hu, hd, hv⟩
  · refine run_loadAt_mid w b off t (vs.take (P.cellsOf t)) (.struct fs) (rangeAt_take hc) hu rfl ?_
    rw [und_size hu, List.length_take, Nat.min_eq_left hle]
  · have hagg : (isAgg t).run P w = .ok false w := by
      unfold isAgg
      rw [Sem.run_bind, run_underlying hu w]
      cases d <;> simp_all
    have := hc 0 u hv
    simp only [Nat.add_zero] at this
    simp [Instr.loadAt, Instr.sureAddr, loadVar, hagg, run_load, this]
end
end Go.Pm
namespace Go.Pm
open Go
set_option linter.unusedVariables false
variable {P : Program}
theorem repL_split {w : World} {X : Nat → Prop} : ∀ {xs ys : List D} {us : List Value} {bs : List Nat}, repL w X (xs ++ ys) us bs →
    ∃ u1 u2 b1 b2, us = u1 ++ u2 ∧ bs = b1 ++ b2 ∧ repL w X xs u1 b1 ∧ repL w X ys u2 b2
  | [], ys, us, bs, h => ⟨[], us, [], bs, rfl, rfl, by simp [repL], h⟩
  | x :: xs, ys, us, bs, h => by
    simp only [List.cons_append, repL] at h
    obtain ⟨v, vs', c1, c2, rfl, rfl, h1, h2⟩ := h
    obtain ⟨u1, u2, b1, b2, rfl, rfl, h3, h4⟩ := repL_split h2
    refine ⟨v :: u1, u2, c1 ++ b1, b2, rfl, by simp, ?_, h4⟩
    simp only [repL]
    exact ⟨v, u1, c1, b1, rfl, rfl, h1, h3⟩
theorem repL_cat {w : World} {X : Nat → Prop} : ∀ {xs ys : List D} {u1 u2 : List Value} {b1 b2 : List Nat}, repL w X xs u1 b1 → repL w X ys u2 b2 → repL w X (xs ++ ys) (u1 ++ u2) (b1 ++ b2)
  | [], ys, u1, u2, b1, b2, h1, h2 => by simp only [repL] at h1; obtain ⟨rfl, rfl⟩ := h1; simpa using h2
  | x :: xs, ys, u1, u2, b1, b2, h1, h2 => by
    simp only [repL] at h1
    obtain ⟨v, vs', c1, c2, rfl, rfl, g1, g2⟩ := h1
    simp only [List.cons_append, repL, List.append_assoc]
    exact ⟨v, _, c1, _, rfl, rfl, g1, repL_cat g2 h2⟩
def D.withCells (x : D) (cs : List D) : D := match x.isAgg with | true => .agg cs | false => match cs with | [y] => y | _ => .junk
theorem withCells_cells {x : D} {cs : List D} (h : x.isAgg = true ∨ ∃ y, cs = [y] ∧ y.cells = [y]) : (x.withCells cs).cells = cs := by
  unfold D.withCells
  rcases h with h | ⟨y, rfl, hy⟩
  · rw [h]; rfl
  · cases x.isAgg with
    | true => rfl
    | false => exact hy
theorem allOneD_cells : ∀ {l : List D}, allOneD l = true → ∀ y ∈ l, y.isAgg = false
  | [], _, y, h => by cases h
  | x :: l, h, y, hy => by
    have key : x.isAgg = false ∧ allOneD l = true := by
      cases x <;> simp only [allOneD] at h <;> first | (cases h; done) | exact ⟨rfl, h⟩
    rcases List.mem_cons.1 hy with rfl | hy
    · exact key.1
    · exact allOneD_cells key.2 y hy
theorem allOneD_of : ∀ {l : List D}, (∀ y ∈ l, y.isAgg = false) → allOneD l = true
  | [], _ => rfl
  | x :: l, h => by
    have h1 := h x (List.mem_cons_self ..)
    have h2 := allOneD_of (l := l) fun y hy => h y (List.mem_cons_of_mem _ hy)
    cases x <;> first | (cases h1; done) | exact h2
theorem allOneD_rep {w : World} {X : Nat → Prop} : ∀ {xs : List D} {us : List Value} {bs : List Nat}, repL w X xs us bs → (∀ u ∈ us, u.oneCell' = true) → allOneD xs = true
  | [], us, bs, _, _ => rfl
  | x :: xs, us, bs, h, h1 => by
    simp only [repL] at h
    obtain ⟨v, vs', b1, b2, rfl, rfl, g1, g2⟩ := h
    have h2 := allOneD_rep g2 fun u hu => h1 u (List.mem_cons_of_mem _ hu)
    have h3 := h1 v (List.mem_cons_self ..)
    cases x with
    | agg cs => simp only [D.rep] at g1; obtain ⟨vs, rfl, _⟩ := g1; cases h3
    | _ => exact h2
theorem notAgg_cells {x : D} (h : x.isAgg = false) : x.cells = [x] := by cases x <;> first | rfl | cases h
theorem cell_range {w : World} {b o : Nat} {us : List Value} : w.rangeAt b o us ↔ ∀ j v, us[j]? = some v → w.cell? ⟨b, o + j, none⟩ = some v := Iff.rfl
theorem rangeAt_app {w : World} {b o : Nat} {xs ys : List Value} : w.rangeAt b o (xs ++ ys) ↔ w.rangeAt b o xs ∧ w.rangeAt b (o + xs.length) ys := by
  constructor
  · intro h
    refine ⟨fun j v hv => h j v ?_, fun j v hv => ?_⟩
    · rw [List.getElem?_append_left (List.getElem?_eq_some_iff.1 hv).1]; exact hv
    · have := h (xs.length + j) v (by rw [List.getElem?_append_right (by omega)]; simpa using hv)
      rwa [← Nat.add_assoc] at this
  · rintro ⟨h1, h2⟩ j v hv
    by_cases hj : j < xs.length
    · rw [List.getElem?_append_left hj] at hv; exact h1 j v hv
    · rw [List.getElem?_append_right (by omega)] at hv
      have := h2 _ v hv
      rwa [show o + xs.length + (j - xs.length) = o + j by omega] at this
theorem rangeAt_cells {w w' : World} {b o : Nat} {us : List Value} (h : w.rangeAt b o us) (hc : ∀ i, o ≤ i → i < o + us.length → w'.cell? ⟨b, i, none⟩ = w.cell? ⟨b, i, none⟩) : w'.rangeAt b o us := by
  intro j v hv
  have := (List.getElem?_eq_some_iff.1 hv).1
  rw [hc (o + j) (by omega) (by omega)]
  exact h j v hv
theorem repRows_cells {w w' : World} {X X' : Nat → Prop} (hX : ∀ b, b < w.heap.size → ¬ X b → ¬ X' b) {b sz : Nat} : ∀ {xs : List D} {off : Nat} {bs : List Nat}, Agree w w' X bs →
    (∀ i, off ≤ i → w'.cell? ⟨b, i, none⟩ = w.cell? ⟨b, i, none⟩) → repRows w X b sz xs off bs → repRows w' X' b sz xs off bs
  | [], off, bs, _, _, h => by simp only [repRows] at h ⊢; exact h
  | x :: xs, off, bs, hA, hb, h => by
    simp only [repRows] at h ⊢
    obtain ⟨v, b1, b2, hbs, h1, h2, h3, h4, h5⟩ := h
    subst hbs
    exact ⟨v, b1, b2, rfl, D.rep_mono hX x v b1 hA.left h1, h2, h3, rangeAt_cells h4 fun i hi _ => hb i hi, repRows_cells hX hA.right (fun i hi => hb i (by omega)) h5⟩
theorem repRows_at {w : World} {X : Nat → Prop} {b sz : Nat} {pre mid post : List D} : ∀ {xs : List D} {off j : Nat} {bs : List Nat} {x : D}, repRows w X b sz xs off bs → xs[j]? = some x → x.cells = pre ++ mid ++ post →
    ∃ b1 bm b2 um, bs = b1 ++ bm ++ b2 ∧ repL w X mid um bm ∧ (∀ u ∈ um, u.oneCell' = true) ∧ w.rangeAt b (off + j * sz + pre.length) um ∧ x.cells.length = sz ∧ um.length = mid.length ∧
      ∀ {w' : World} {X' : Nat → Prop} {mid' : List D} {um' : List Value} {bm' : List Nat}, mid'.length = mid.length → allOneD mid' = true → repL w' X' mid' um' bm' → (∀ u ∈ um', u.oneCell' = true) →
        (∀ c, c < w.heap.size → ¬ X c → ¬ X' c) → Agree w w' X (b1 ++ b2) → (∀ i, (i < off + j * sz + pre.length ∨ off + j * sz + pre.length + mid.length ≤ i) → w'.cell? ⟨b, i, none⟩ = w.cell? ⟨b, i, none⟩) →
        w'.rangeAt b (off + j * sz + pre.length) um' → repRows w' X' b sz (xs.set j (x.withCells (pre ++ mid' ++ post))) off (b1 ++ bm' ++ b2)
  | [], off, j, bs, x, _, h, _ => by simp at h
  | y :: xs, off, j, bs, x, h, hj, hx => by
    simp only [repRows] at h
    obtain ⟨v, c1, c2, rfl, h1, h2, h3, h4, h5⟩ := h
    cases j with
    | succ j =>
      obtain ⟨b1, bm, b2, um, rfl, g1, g2, g3, g4, g5, g6⟩ := repRows_at (j := j) h5 (by simpa using hj) hx
      have e : off + (j + 1) * sz = off + sz + j * sz := by rw [Nat.add_mul, Nat.one_mul]; omega
      refine ⟨c1 ++ b1, bm, b2, um, by simp, g1, g2, by rw [e]; exact g3, g4, g5, ?_⟩
      intro w' X' mid' um' bm' k1 k2 k3 k4 k5 k6 k7 k8
      rw [e] at k7 k8
      simp only [List.set_cons_succ, repRows]
      rw [List.append_assoc] at k6
      have hvl : v.cells.toList.length = sz := by rw [Array.length_toList, h2]
      refine ⟨v, c1, b1 ++ bm' ++ b2, by simp, D.rep_mono k5 y v c1 k6.left h1, h2, h3, rangeAt_cells h4 fun i _ hi => k7 i (.inl (by omega)), g6 k1 k2 k3 k4 k5 k6.right k7 k8⟩
    | zero =>
      simp only [List.getElem?_cons_zero, Option.some.injEq] at hj
      subst hj
      have hcr := D.cells_rep h1
      rw [hx] at hcr
      obtain ⟨u12, u3, d12, d3, hu, hd, g1, g2⟩ := repL_split hcr
      obtain ⟨u1, u2, d1, d2, rfl, rfl, g3, g4⟩ := repL_split g1
      rw [hu] at h4
      have l1 := repL_length g3
      have l2 := repL_length g4
      obtain ⟨h4a, h4c⟩ := rangeAt_app.1 h4
      obtain ⟨h4a, h4b⟩ := rangeAt_app.1 h4a
      have hvl : (u1 ++ u2 ++ u3).length = sz := by rw [← hu, Array.length_toList, h2]
      simp only [List.length_append] at hvl h4c
      have hone : ∀ u ∈ u1 ++ u2 ++ u3, u.oneCell' = true := by rw [← hu]; exact h3.2
      refine ⟨d1, d2, d3 ++ c2, u2, by rw [hd]; simp, g4, fun u hm => hone u (by simp [hm]), by rw [Nat.zero_mul, Nat.add_zero, l1]; exact h4b, h3.1, l2.symm, ?_⟩
      intro w' X' mid' um' bm' k1 k2 k3 k4 k5 k6 k7 k8
      rw [Nat.zero_mul, Nat.add_zero] at k7 k8
      have l3 := repL_length k3
      rw [l1] at k7 k8
      have k6' : Agree w w' X d1 ∧ Agree w w' X d3 ∧ Agree w w' X c2 := ⟨k6.left, k6.right.left, k6.right.right⟩
      have hnew := repL_cat (repL_cat (repL_mono k5 _ _ _ k6'.1 g3) k3) (repL_mono k5 _ _ _ k6'.2.1 g2)
      have hr1 : w'.rangeAt b off (u1 ++ um' ++ u3) := by
        refine rangeAt_app.2 ⟨rangeAt_app.2 ⟨rangeAt_cells h4a fun i _ hi => k7 i (.inl hi), k8⟩, ?_⟩
        have : off + (u1 ++ um').length = off + (u1 ++ u2).length := by simp only [List.length_append]; omega
        rw [this]
        refine rangeAt_cells (by simpa using h4c) fun i hi _ => k7 i (.inr ?_)
        simp only [List.length_append] at hi; omega
      have hnl : (u1 ++ um' ++ u3).length = sz := by simp only [List.length_append]; omega
      have hnone : ∀ u ∈ u1 ++ um' ++ u3, u.oneCell' = true := by
        intro u hm
        rcases List.mem_append.1 hm with hm | hm
        · rcases List.mem_append.1 hm with hm | hm
          · exact hone u (by simp [hm])
          · exact k4 u hm
        · exact hone u (by simp [hm])
      simp only [List.set_cons_zero, repRows]
      have tail : repRows w' X' b sz xs (off + sz) c2 := repRows_cells k5 k6'.2.2 (fun i hi => k7 i (.inr (by omega))) h5
      have hxl : (pre ++ mid ++ post).length = sz := by rw [← hx]; exact h3.1
      cases hag : y.isAgg with
      | true =>
        obtain ⟨cs, rfl⟩ : ∃ cs, y = .agg cs := by cases y <;> first | exact ⟨_, rfl⟩ | cases hag
        simp only [D.withCells, D.isAgg]
        refine ⟨.agg (u1 ++ um' ++ u3).toArray, d1 ++ bm' ++ d3, c2, by simp, ?_, ?_, ⟨?_, ?_⟩, ?_, tail⟩
        · simp only [D.rep]; exact ⟨_, rfl, by simpa using hnew⟩
        · show (u1 ++ um' ++ u3).toArray.size = sz; rw [List.size_toArray]; exact hnl
        · show (pre ++ mid' ++ post).length = sz
          simp only [List.length_append] at hxl ⊢; omega
        · show ∀ u ∈ ((u1 ++ um' ++ u3).toArray).toList, _; simpa using hnone
        · show w'.rangeAt b off ((u1 ++ um' ++ u3).toArray).toList; simpa using hr1
      | false =>
        have hyc := notAgg_cells hag
        rw [hyc] at hx
        have hsz1 : sz = 1 := by rw [← h3.1, hyc]; rfl
        have hl := congrArg List.length hx
        simp only [List.length_cons, List.length_nil, List.length_append] at hl
        have hx' : D.withCells y (pre ++ mid' ++ post) = match pre ++ mid' ++ post with | [z] => z | _ => .junk := by unfold D.withCells; rw [hag]
        rw [hx']
        obtain ⟨z, hz⟩ : ∃ z, pre ++ mid' ++ post = [z] := by
          refine List.length_eq_one_iff.1 ?_
          simp only [List.length_append]; omega
        rw [hz] at hnew ⊢
        obtain ⟨u, hu1⟩ := List.length_eq_one_iff.1 (hnl.trans hsz1)
        rw [hu1] at hnew hr1 hnone
        simp only [repL] at hnew
        obtain ⟨v1, vs1, e1, e2, e3, e4, r1, r2⟩ := hnew
        obtain ⟨rfl, rfl⟩ := r2
        simp only [List.cons.injEq, and_true] at e3
        subst e3
        have hu2 := hnone u (by simp)
        have huc := cells_one hu2
        have hz2 : z.cells = [z] := by
          cases z with
          | agg cs => simp only [D.rep] at r1; obtain ⟨vs, rfl, _⟩ := r1; cases hu2
          | _ => rfl
        refine ⟨u, d1 ++ bm' ++ d3, c2, by simp, by rw [e4]; simpa using r1, by rw [huc]; exact hsz1.symm, ⟨by rw [hz2]; exact hsz1.symm, by rw [huc]; simpa using hu2⟩, by rw [huc]; exact hr1, tail⟩
theorem ocD_ocs : ∀ cs : List D, ocD (ocsOf cs) = cs
  | [] => rfl
  | x :: r => by simp only [ocsOf, ocD, OC.D, ocD_ocs r]
theorem ocs_length : ∀ cs : List D, (ocsOf cs).length = cs.length
  | [] => rfl
  | x :: r => by simp only [ocsOf, List.length_cons, ocs_length r]
theorem ocD_length : ∀ cs : List OC, (ocD cs).length = cs.length
  | [] => rfl
  | x :: r => by simp only [ocD, List.length_cons, ocD_length r]
theorem ocD_app : ∀ xs ys : List OC, ocD (xs ++ ys) = ocD xs ++ ocD ys
  | [], ys => rfl
  | x :: xs, ys => by simp only [List.cons_append, ocD, ocD_app xs ys]
theorem ocs_app : ∀ xs ys : List D, ocsOf (xs ++ ys) = ocsOf xs ++ ocsOf ys
  | [], ys => rfl
  | x :: xs, ys => by simp only [List.cons_append, ocsOf, ocs_app xs ys]
theorem ocs_noKey : ∀ {cs : List D} {c key : Nat}, (ocsOf cs)[c]? = some (.k key) → False
  | [], c, key, h => by simp [ocsOf] at h
  | x :: r, c, key, h => by
    cases c with
    | zero => simp [ocsOf] at h
    | succ c => exact ocs_noKey (cs := r) (c := c) (key := key) (by simpa [ocsOf] using h)
theorem OE.D_new (j : Nat) (x : Pm.D) : (⟨j, x.isAgg, ocsOf x.cells⟩ : OE).D = x := by
  unfold OE.D
  simp only [ocD_ocs]
  cases x <;> rfl
theorem OE.D_with {i : Nat} {ag : Bool} {cs cs' : List OC} (h : ag = false → cs.length = 1) (h1 : allOneD (ocD cs) = true) : (⟨i, ag, cs'⟩ : OE).D = (⟨i, ag, cs⟩ : OE).D.withCells (ocD cs') := by
  cases ag with
  | true => rfl
  | false =>
    obtain ⟨c, rfl⟩ := List.length_eq_one_iff.1 (h rfl)
    have hc : (c.D).isAgg = false := allOneD_cells h1 c.D (by simp [ocD])
    simp only [OE.D, ocD, Pm.D.withCells, hc]
    rfl
theorem OE.D_cells {e : OE} (h : e.ag = false → e.cells.length = 1) (h1 : allOneD (ocD e.cells) = true) : e.D.cells = ocD e.cells := by
  obtain ⟨i, ag, cs⟩ := e
  cases ag with
  | true => rfl
  | false =>
    obtain ⟨c, rfl⟩ := List.length_eq_one_iff.1 (h rfl)
    have hc : (c.D).isAgg = false := allOneD_cells h1 c.D (by simp [ocD])
    simp only [OE.D, ocD]
    exact notAgg_cells hc
theorem baseXs_len (xs : List D) : ∀ els : List OE, (baseXs xs els).length = xs.length
  | [] => rfl
  | e :: r => by simp only [baseXs, List.length_set, baseXs_len xs r]
theorem baseXs_get {xs : List D} : ∀ {els : List OE} {j : Nat}, j ∉ els.map (·.i) → (baseXs xs els)[j]? = xs[j]?
  | [], j, _ => rfl
  | e :: r, j, h => by
    simp only [List.map_cons, List.mem_cons, not_or] at h
    simp only [baseXs]
    rw [List.getElem?_set_ne (Ne.symm h.1), baseXs_get h.2]
theorem baseXs_comm {xs : List D} : ∀ {p r : List OE} {e : OE}, e.i ∉ p.map (·.i) → baseXs xs (p ++ e :: r) = baseXs xs (e :: (p ++ r))
  | [], r, e, _ => rfl
  | y :: p, r, e, h => by
    simp only [List.map_cons, List.mem_cons, not_or] at h
    have ih := baseXs_comm (xs := xs) (r := r) h.2
    simp only [List.cons_append, baseXs] at ih ⊢
    rw [ih, List.set_comm _ _ h.1]
theorem set_same {α : Type} {xs : List α} {j : Nat} {x : α} (h : xs[j]? = some x) : xs.set j x = xs := by
  obtain ⟨h1, rfl⟩ := List.getElem?_eq_some_iff.1 h
  exact List.set_getElem_self h1
section
variable {cx : Cx} {X0 : Nat → Prop} {J : Nat → Option Place} {st : St} {a : Act} {w : World} {o : Oper} {K : St → Prop} {next : Act → World → Prop} {Q : Exit → Act → World → Prop}
theorem opn_of {X : Nat → Prop} {p : Place} {ob : Ob} {sz : Nat} {xs : List D} {els : List OE} (ho : openAny ob = some (sz, xs, els)) (hr : ob.rep w X J p) (hne : xs ≠ []) : (Ob.opn sz xs els).rep w X J p := by
  unfold openAny at ho
  split at ho
  · cases ho
    obtain ⟨h0, a, cap, h1, h2, h3⟩ := hr
    rcases h3 with ⟨_, h3, _⟩ | ⟨hh, ha, h3, h4, h5⟩
    · exact absurd h3 hne
    · subst ha
      exact ⟨h0, cap, h1, h2, hh, h3, h4, by simp, by simp⟩
  · cases ho; exact hr
  · cases ho
theorem openEls_any {ob : Ob} {sz : Nat} {xs : List D} {els : List OE} (ho : openEls ob = some (sz, xs, els)) : openAny ob = some (sz, xs, els) := by
  unfold openEls at ho
  split at ho
  · cases ho; rfl
  · cases ho; rfl
  · cases ho
theorem pick_ok {X : Nat → Prop} {p : Place} {sz : Nat} {xs : List D} {j : Nat} {f : OE → List OE → Cmd} {dst : Option Nat} : ∀ {els passed : List OE}, (Ob.opn sz xs (passed ++ els)).rep w X J p → evCmd P cx dst (pickEl xs j f els passed) st K → j ∉ passed.map (·.i) →
    ∃ e others, e.i = j ∧ (Ob.opn sz xs (e :: others)).rep w X J p ∧ evCmd P cx dst (f e others) st K
  | [], passed, hr, hc, hp => by
    simp only [pickEl, evCmd] at hc
    obtain ⟨x, hx, hc⟩ := hc
    refine ⟨_, passed, rfl, ?_, hc⟩
    rw [List.append_nil] at hr
    obtain ⟨h0, cap, h1, h2, hh, h3, h4, h5, h6⟩ := hr
    have hb : (baseXs xs passed)[j]? = some x := by rw [baseXs_get hp]; exact hx
    refine ⟨h0, cap, h1, h2, hh, h3, ?_, ?_, ?_⟩
    · simp only [baseXs, OE.D_new]
      rw [set_same hb]; exact h4
    · simp only [List.map_cons, List.nodup_cons]; exact ⟨hp, h5⟩
    · intro e he
      rcases List.mem_cons.1 he with rfl | he
      · obtain ⟨_, _, _, um, _, g1, g2, _, g, _⟩ := repRows_at (pre := []) (mid := x.cells) (post := []) h4 hb (by simp)
        refine ⟨⟨(List.getElem?_eq_some_iff.1 hx).1, ?_, fun hag => ?_, ?_⟩, fun c key hk => (ocs_noKey hk).elim⟩
        · show (ocsOf x.cells).length = sz
          rw [ocs_length]; exact g
        · rw [notAgg_cells hag] at g; exact g.symm
        · show allOneD (ocD (ocsOf x.cells)) = true
          rw [ocD_ocs]; exact allOneD_rep g1 g2
      · exact h6 e he
  | e :: r, passed, hr, hc, hp => by
    simp only [pickEl, evCmd] at hc
    rcases hc with ⟨hj, hc⟩ | ⟨hj, hc⟩
    · refine ⟨e, passed ++ r, hj.symm, ?_, hc⟩
      obtain ⟨h0, cap, h1, h2, hh, h3, h4, h5, h6⟩ := hr
      rw [hj] at hp
      refine ⟨h0, cap, h1, h2, hh, h3, by rw [← baseXs_comm hp]; exact h4, ?_, fun e' he' => h6 e' ?_⟩
      · have : (List.map (·.i) (passed ++ e :: r)).Perm (List.map (·.i) (e :: (passed ++ r))) := List.perm_middle.map _
        exact this.nodup_iff.1 h5
      · rcases List.mem_cons.1 he' with rfl | he'
        · simp
        · rcases List.mem_append.1 he' with h | h <;> simp [h]
    · have : passed ++ e :: r = (passed ++ [e]) ++ r := by simp
      rw [this] at hr
      refine pick_ok hr hc ?_
      simp only [List.map_append, List.map_cons, List.map_nil, List.mem_append, List.mem_singleton, not_or]
      exact ⟨hp, hj⟩
theorem os_place {X : Nat → Prop} {sz : Nat} {dp : Bool} {ys : List D} {u : Value} {bs : List Nat} (h : (D.os sz dp ys).rep w X u bs) : ∃ q : Place, q.v = u ∧ q.fp = bs ∧ (Ob.arr sz dp ys).rep w X J q := by
  simp only [D.rep] at h
  obtain ⟨hsz, a, cap, hv, hc, hr⟩ := h
  rcases hr with ⟨h1, h2, h3⟩ | ⟨b, bs', ha, hp, hrows, hbs, hd⟩
  · exact ⟨⟨0, [], u, false⟩, rfl, by rw [h3]; rfl, hsz, a, cap, hv, hc, .inl ⟨rfl, h1, h2⟩⟩
  · exact ⟨⟨b, bs', u, true⟩, rfl, by rw [hbs]; rfl, hsz, a, cap, hv, hc, .inr ⟨rfl, ha, hp, hrows, hd⟩⟩
theorem arr_place {X : Nat → Prop} {sz : Nat} {dp : Bool} {ys : List D} {q : Place} (h : (Ob.arr sz dp ys).rep w X J q) : (D.os sz dp ys).rep w X q.v q.fp := by
  obtain ⟨hsz, a, cap, hv, hc, hr⟩ := h
  simp only [D.rep]
  refine ⟨hsz, a, cap, hv, hc, ?_⟩
  rcases hr with ⟨h1, h2, h3⟩ | ⟨hh, ha, hp, hrows, hd⟩
  · exact .inl ⟨h2, h3, q.fp_no h1⟩
  · exact .inr ⟨q.blk, q.nest, ha, hp, hrows, q.fp_hd hh, hd⟩
theorem renEls_some' (els : List OE) : renEls some els = els := renEls_some els
theorem opn_at {X : Nat → Prop} {p : Place} {sz : Nat} {xs : List D} {e : OE} {others : List OE} {pre mid post : List OC} (hr : (Ob.opn sz xs (e :: others)).rep w X J p) (he : e.cells = pre ++ mid ++ post) :
    ∃ b1 bm b2 um, p.nest = b1 ++ bm ++ b2 ∧ repL w X (ocD mid) um bm ∧ (∀ u ∈ um, u.oneCell' = true) ∧ w.rangeAt p.blk (e.i * sz + pre.length) um ∧ um.length = mid.length ∧
      ∀ {w' : World} {X' : Nat → Prop} {mid' : List OC} {um' : List Value} {bm' : List Nat}, mid'.length = mid.length → allOneD (ocD mid') = true → repL w' X' (ocD mid') um' bm' → (∀ u ∈ um', u.oneCell' = true) →
        (∀ c, c < w.heap.size → ¬ X c → ¬ X' c) → Agree w w' X (b1 ++ b2) → (∀ i, (i < e.i * sz + pre.length ∨ e.i * sz + pre.length + mid.length ≤ i) → w'.cell? ⟨p.blk, i, none⟩ = w.cell? ⟨p.blk, i, none⟩) →
        w'.rangeAt p.blk (e.i * sz + pre.length) um' → repRows w' X' p.blk sz (baseXs xs (⟨e.i, e.ag, pre ++ mid' ++ post⟩ :: others)) 0 (b1 ++ bm' ++ b2) := by
  obtain ⟨h0, cap, h1, h2, hh, h3, h4, h5, h6⟩ := hr
  obtain ⟨⟨g1, g2, g3, g4⟩, _⟩ := h6 e (List.mem_cons_self ..)
  have hget : (baseXs xs (e :: others))[e.i]? = some e.D := by
    simp only [baseXs]
    exact List.getElem?_set_self (by rw [baseXs_len]; exact g1)
  have hl1 : e.ag = false → e.cells.length = 1 := fun h => g2.trans (g3 h)
  have hDc := OE.D_cells hl1 g4
  rw [he, ocD_app, ocD_app] at hDc
  obtain ⟨b1, bm, b2, um, k1, k2, k3, k4, k5, k6, k7⟩ := repRows_at h4 hget hDc
  rw [Nat.zero_add, ocD_length] at k4
  refine ⟨b1, bm, b2, um, k1, k2, k3, k4, by rw [k6, ocD_length], ?_⟩
  intro w' X' mid' um' bm' q1 q2 q3 q4 q5 q6 q7 q8
  have := k7 (w' := w') (X' := X') (mid' := ocD mid') (um' := um') (bm' := bm') (by rw [ocD_length, ocD_length]; exact q1) q2 q3 q4 q5 q6 (by rw [Nat.zero_add, ocD_length, ocD_length]; exact q7) (by rw [Nat.zero_add, ocD_length]; exact q8)
  have hset : (baseXs xs (e :: others)).set e.i (e.D.withCells (ocD pre ++ ocD mid' ++ ocD post)) = baseXs xs (⟨e.i, e.ag, pre ++ mid' ++ post⟩ :: others) := by
    simp only [baseXs, List.set_set]
    congr 1
    rw [← ocD_app, ← ocD_app]
    exact (OE.D_with (i := e.i) hl1 g4).symm
  rw [hset] at this
  exact this
end
end Go.Pm
namespace Go.Pm
open Go
set_option linter.unusedVariables false
variable {P : Program}
section
variable {cx : Cx} {X0 : Nat → Prop} {J : Nat → Option Place} {st : St} {a : Act} {w : World} {o : Oper} {K : St → Prop} {next : Act → World → Prop} {Q : Exit → Act → World → Prop}
theorem ren_some_map (o : Option Ob) : o.map (Ob.ren some) = o := by cases o <;> simp [Ob.ren_some]
theorem open_one {obj obj' : Nat → Option Ob} (m : Mem X0 J obj w) {k : Nat} {p : Place} {sz : Nat} {xs : List D} {e : OE} {others : List OE} {pre post : List OC} {sz' : Nat} {dp : Bool} {ys : List D} {key : Nat}
    (hp : J k = some p) (hr : (Ob.opn sz xs (e :: others)).rep w (Xof X0 J) J p) (he : e.cells = pre ++ .d (.os sz' dp ys) :: post) (hfree : obj key = none)
    (ho : ∀ j, obj' j = if j = k then some (.opn sz xs (⟨e.i, e.ag, pre ++ .k key :: post⟩ :: others)) else if j = key then some (.arr sz' dp ys) else obj j) :
    ∃ J' p', Mem X0 J' obj' w ∧ (∀ x v, AV.rep w (Xof X0 J) J x v → x.rep w (Xof X0 J') J' v) ∧ Step J w J' w ∧ J' k = some p' ∧ p.like p' ∧ (∀ j, J j = none → j ≠ key → J' j = none) := by
  have hkey : J key = none := by
    cases hj : J key with
    | none => rfl
    | some q => obtain ⟨o, ho⟩ := m.dom key q hj; rw [hfree] at ho; cases ho
  have hne : key ≠ k := by rintro rfl; rw [hkey] at hp; cases hp
  have hat := opn_at (pre := pre) (mid := [.d (.os sz' dp ys)]) (post := post) hr (by rw [he]; simp)
  obtain ⟨h0, cap, h1, h2, hh, h3, h4, h5, h6⟩ := hr
  obtain ⟨b1, bm, b2, um, hnest, hum, hone, hrange, hlen, hput⟩ := hat
  simp only [ocD, OC.D, repL] at hum
  obtain ⟨u, vs', c1, c2, rfl, rfl, hu, rfl, rfl⟩ := hum
  rw [List.append_nil] at hnest
  have hnd := m.nd k p hp
  rw [p.fp_hd hh, hnest] at hnd
  obtain ⟨q, hqv, hqf, hqr⟩ := os_place (J := J) hu
  have hcell : w.cell? ⟨p.blk, e.i * sz + pre.length, none⟩ = some u := hrange 0 u rfl
  have hu1 : u.oneCell' = true := hone u (by simp)
  obtain ⟨J', hJ'⟩ : ∃ J' : Nat → Option Place, J' = fun j => if j = k then some ⟨p.blk, b1 ++ b2, p.v, true⟩ else if j = key then some q else J j := ⟨_, rfl⟩
  have Jk : J' k = some ⟨p.blk, b1 ++ b2, p.v, true⟩ := by rw [hJ']; simp
  have Jkey : J' key = some q := by rw [hJ']; simp [hne]
  have Jo : ∀ j, j ≠ k → j ≠ key → J' j = J j := fun j h1 h2 => by rw [hJ']; simp [h1, h2]
  have hpl : ∀ j pl, J j = some pl → ∃ pl', J' j = some pl' ∧ pl.like pl' := by
    intro j pl hj
    by_cases e1 : j = k
    · subst e1; rw [hp] at hj; cases hj; exact ⟨_, Jk, rfl, rfl⟩
    · by_cases e2 : j = key
      · subst e2; rw [hkey] at hj; cases hj
      · exact ⟨pl, by rw [Jo j e1 e2]; exact hj, pl.like_refl⟩
  have sub : ∀ b, b ∈ p.blk :: (b1 ++ b2) → b ∈ p.fp := by
    intro b hb
    rw [p.fp_hd hh, hnest]
    rcases List.mem_cons.1 hb with rfl | hb
    · exact List.mem_cons_self ..
    · refine List.mem_cons_of_mem _ ?_
      rcases List.mem_append.1 hb with hb | hb <;> simp [hb]
  have sub2 : ∀ b, b ∈ c1 → b ∈ p.fp := by
    intro b hb
    rw [p.fp_hd hh, hnest]
    exact List.mem_cons_of_mem _ (by simp [hb])
  have hX : ∀ b, b < w.heap.size → ¬ Xof X0 J b → ¬ Xof X0 J' b := by
    rintro b hb hx (h0 | ⟨j, pl, hj, hb'⟩)
    · exact hx (.inl h0)
    · by_cases e1 : j = k
      · subst e1; rw [Jk] at hj; cases hj; exact hx (.inr ⟨_, p, hp, sub b hb'⟩)
      · by_cases e2 : j = key
        · subst e2; rw [Jkey] at hj; cases hj
          rw [hqf] at hb'
          exact hx (.inr ⟨k, p, hp, sub2 b hb'⟩)
        · rw [Jo j e1 e2] at hj; exact hx (.inr ⟨j, pl, hj, hb'⟩)
  have hA : ∀ bs, Agree w w (Xof X0 J) bs := fun _ _ _ _ => rfl
  have hgen := m.gen (J' := J') (obj' := obj') (w' := w) (f := some) (F := fun _ => False) (C := [k, key]) (fun k j h => (Option.some.inj h).symm) (fun _ _ => rfl)
    (fun j _ pl hj => .inr (hpl j pl hj))
    (fun j hj => by simp only [List.mem_cons, List.not_mem_nil, or_false, not_or] at hj; rw [Jo j hj.1 hj.2])
    (fun j hj => by simp only [List.mem_cons, List.not_mem_nil, or_false, not_or] at hj; rw [ho, if_neg hj.1, if_neg hj.2]; simp only; rw [ren_some_map])
    (fun j hj pl _ => by
      rcases List.mem_cons.1 hj with rfl | hj
      · rw [ho, if_pos rfl]; exact ⟨_, rfl⟩
      · rw [List.mem_singleton.1 hj, ho, if_neg hne, if_pos rfl]; exact ⟨_, rfl⟩)
    (fun j hj ob hob => by
      rcases List.mem_cons.1 hj with rfl | hj
      · rw [ho, if_pos rfl] at hob
        cases hob
        refine ⟨_, Jk, h0, cap, h1, h2, rfl, h3, ?_, ?_, ?_⟩
        · have := hput (w' := w) (X' := Xof X0 J') (mid' := [.k key]) (um' := [u]) (bm' := []) rfl rfl (by simp only [ocD, OC.D, repL, D.rep]; exact ⟨u, [], [], [], rfl, rfl, ⟨hu1, rfl⟩, rfl, rfl⟩) (by simpa using hu1) hX (hA _) (fun _ _ => rfl) (by simpa using hrange)
          simpa using this
        · simpa using h5
        · intro e' he'
          rcases List.mem_cons.1 he' with rfl | he'
          · obtain ⟨⟨g1, g2, g3, g4⟩, g5⟩ := h6 e (List.mem_cons_self ..)
            refine ⟨⟨g1, ?_, g3, ?_⟩, ?_⟩
            · rw [he] at g2; simpa using g2
            · rw [he, ocD_app] at g4
              show allOneD (ocD (pre ++ .k key :: post)) = true
              refine allOneD_of fun y hy => ?_
              rw [ocD_app] at hy
              have g4 := allOneD_cells g4
              rcases List.mem_append.1 hy with hy | hy
              · exact g4 y (List.mem_append_left _ hy)
              · simp only [ocD, OC.D] at hy
                rcases List.mem_cons.1 hy with rfl | hy
                · rfl
                · exact g4 y (List.mem_append_right _ (by simp only [ocD]; exact List.mem_cons_of_mem _ hy))
            · intro c key' hc
              have hc : (pre ++ .k key :: post)[c]? = some (.k key') := hc
              by_cases hcl : c < pre.length
              · rw [List.getElem?_append_left hcl] at hc
                obtain ⟨q', hq', r1, r2⟩ := g5 c key' (by rw [he, List.getElem?_append_left hcl]; exact hc)
                obtain ⟨q2, hq2, hl⟩ := hpl key' q' hq'
                exact ⟨q2, hq2, by rw [hl.2]; exact r1, by rw [hl.2]; exact r2⟩
              · rw [List.getElem?_append_right (by omega)] at hc
                by_cases hc0 : c = pre.length
                · subst hc0
                  rw [Nat.sub_self] at hc
                  simp only [List.getElem?_cons_zero, Option.some.injEq, OC.k.injEq] at hc
                  subst hc
                  exact ⟨q, Jkey, by rw [hqv]; exact hcell, by rw [hqv]; exact hu1⟩
                · obtain ⟨n, hn⟩ : ∃ n, c - pre.length = n + 1 := ⟨c - pre.length - 1, by omega⟩
                  rw [hn, List.getElem?_cons_succ] at hc
                  obtain ⟨q', hq', r1, r2⟩ := g5 c key' (by rw [he, List.getElem?_append_right (by omega), hn, List.getElem?_cons_succ]; exact hc)
                  obtain ⟨q2, hq2, hl⟩ := hpl key' q' hq'
                  exact ⟨q2, hq2, by rw [hl.2]; exact r1, by rw [hl.2]; exact r2⟩
          · obtain ⟨g1, g5⟩ := h6 e' (List.mem_cons_of_mem _ he')
            refine ⟨g1, fun c key' hc => ?_⟩
            obtain ⟨q', hq', r1, r2⟩ := g5 c key' hc
            obtain ⟨q2, hq2, hl⟩ := hpl key' q' hq'
            exact ⟨q2, hq2, by rw [hl.2]; exact r1, by rw [hl.2]; exact r2⟩
      · rw [List.mem_singleton.1 hj, ho, if_neg hne, if_pos rfl] at hob
        cases hob
        rw [List.mem_singleton.1 hj]
        refine ⟨q, Jkey, ?_⟩
        have := Ob.rep_ren (f := some) (J' := J') hX (hA q.fp) (fun k p j hp hj => by cases hj; exact hpl k p hp) hqr
        rwa [Ob.ren_some] at this)
    (Kept.refl _ w) (fun b h => h.elim)
    (fun j hj pl hpl' => by
      rcases List.mem_cons.1 hj with rfl | hj
      · rw [Jk] at hpl'; cases hpl'
        show (p.blk :: (b1 ++ b2)).Nodup
        have : (p.blk :: (b1 ++ b2)).Sublist (p.blk :: (b1 ++ c1 ++ b2)) := by
          refine List.Sublist.cons_cons _ ?_
          rw [List.append_assoc]
          exact List.Sublist.append_left (List.sublist_append_right ..) _
        exact this.nodup hnd
      · rw [List.mem_singleton.1 hj, Jkey] at hpl'; cases hpl'
        rw [hqf]
        have : c1.Sublist (p.blk :: (b1 ++ c1 ++ b2)) := ((List.sublist_append_right b1 c1).trans (List.sublist_append_left _ b2)).trans (List.sublist_cons_self ..)
        exact this.nodup hnd)
    (fun j hj pl hpl' b hb => by
      refine .inl ⟨k, p, hp, .inr (List.mem_cons_self ..), ?_⟩
      rcases List.mem_cons.1 hj with rfl | hj
      · rw [Jk] at hpl'; cases hpl'; exact sub b hb
      · rw [List.mem_singleton.1 hj, Jkey] at hpl'; cases hpl'
        rw [hqf] at hb; exact sub2 b hb)
    (fun j j' pl pl' hj hj' hpl1 hpl2 hjj b hb hb' => by
      have dis : b ∈ p.blk :: (b1 ++ b2) → b ∈ c1 → False := by
        intro h1 h2
        obtain ⟨n1, n2⟩ := List.nodup_cons.1 hnd
        rcases List.mem_cons.1 h1 with rfl | h1
        · exact n1 (by simp [h2])
        · rw [List.nodup_append] at n2
          obtain ⟨n3, n4, n5⟩ := n2
          rw [List.nodup_append] at n3
          rcases List.mem_append.1 h1 with h1 | h1
          · exact n3.2.2 b h1 b h2 rfl
          · exact n5 b (List.mem_append_right _ h2) b h1 rfl
      rcases List.mem_cons.1 hj with e1 | e1
      · rcases List.mem_cons.1 hj' with e2 | e2
        · exact hjj (e1.trans e2.symm)
        · rw [e1, Jk] at hpl1; cases hpl1
          rw [List.mem_singleton.1 e2, Jkey] at hpl2; cases hpl2
          rw [hqf] at hb'
          exact dis hb hb'
      · rcases List.mem_cons.1 hj' with e2 | e2
        · rw [e2, Jk] at hpl2; cases hpl2
          rw [List.mem_singleton.1 e1, Jkey] at hpl1; cases hpl1
          rw [hqf] at hb
          exact dis hb' hb
        · exact hjj ((List.mem_singleton.1 e1).trans (List.mem_singleton.1 e2).symm))
  obtain ⟨m', tr, stp⟩ := hgen
  refine ⟨J', ⟨p.blk, b1 ++ b2, p.v, true⟩, m', fun x v h => by have := tr x v h; rwa [AV.ren_some] at this, stp, Jk, ⟨rfl, rfl⟩, fun j h1 h2 => ?_⟩
  by_cases e1 : j = k
  · subst e1; rw [hp] at h1; cases h1
  · rw [Jo j e1 h2]; exact h1
theorem openCells_length {d : Nat} : ∀ {cs : List OC} {n : Nat}, (openCells d n cs).1.length = cs.length
  | [], n => rfl
  | .k key :: r, n => by simp only [openCells, List.length_cons, openCells_length (cs := r)]
  | .d x :: r, n => by cases x <;> simp only [openCells, List.length_cons, openCells_length (cs := r)]
theorem openCells_keys {d : Nat} : ∀ {cs : List OC} {n : Nat} {key : Nat} {ob : Ob}, (key, ob) ∈ (openCells d n cs).2 → ∃ m, n ≤ m ∧ key = 10000 * (m + 1) + d
  | [], n, key, ob, h => by simp [openCells] at h
  | .k q :: r, n, key, ob, h => by simp only [openCells] at h; exact openCells_keys h
  | .d x :: r, n, key, ob, h => by
    cases x with
    | os sz dp ys =>
      simp only [openCells] at h
      rcases List.mem_cons.1 h with h | h
      · cases h; exact ⟨n, Nat.le_refl _, rfl⟩
      · obtain ⟨m, h1, h2⟩ := openCells_keys h; exact ⟨m, by omega, h2⟩
    | _ => simp only [openCells] at h; exact openCells_keys h
def newsOf (news : List (Nat × Ob)) (obj : Nat → Option Ob) (k : Nat) : Option Ob := match look k news with | some o => some o | none => obj k
theorem news_look (st : St) : ∀ (news : List (Nat × Ob)) (k : Nat), look k (st.news news).obj = newsOf news (look · st.obj) k
  | [], k => rfl
  | (j, ob) :: r, k => by
    simp only [St.news, St.set_look, newsOf, look_cons]
    by_cases e : j = k
    · simp [e]
    · simp only [if_neg e]; exact news_look st r k
theorem freshAll_ok {obj : List (Nat × Ob)} : ∀ {news : List (Nat × Ob)}, freshAll obj news = true → ∀ k ob, (k, ob) ∈ news → look k obj = none
  | [], _, k, ob, h => by cases h
  | (j, o) :: r, hf, k, ob, h => by
    simp only [freshAll] at hf
    split at hf
    · rename_i hj
      rcases List.mem_cons.1 h with h | h
      · cases h; exact hj
      · exact freshAll_ok hf k ob h
    · cases hf
theorem open_all {d k : Nat} {sz : Nat} {xs : List D} {i : Nat} {ag : Bool} {others : List OE} : ∀ {mid : List OC} {n : Nat} {J : Nat → Option Place} {obj : Nat → Option Ob} {p : Place} {pre post : List OC} {obj' : Nat → Option Ob}, Mem X0 J obj w → J k = some p →
    (Ob.opn sz xs (⟨i, ag, pre ++ mid ++ post⟩ :: others)).rep w (Xof X0 J) J p → (∀ key ob, (key, ob) ∈ (openCells d n mid).2 → obj key = none) →
    (∀ j, obj' j = if j = k then some (.opn sz xs (⟨i, ag, pre ++ (openCells d n mid).1 ++ post⟩ :: others)) else newsOf (openCells d n mid).2 obj j) → (obj k = some (.opn sz xs (⟨i, ag, pre ++ mid ++ post⟩ :: others)) ∨ mid ≠ [] ∧ noOs mid = false) →
    ∃ J' p', Mem X0 J' obj' w ∧ (∀ x v, AV.rep w (Xof X0 J) J x v → x.rep w (Xof X0 J') J' v) ∧ Step J w J' w ∧ J' k = some p' ∧ p.like p'
  | [], n, J, obj, p, pre, post, obj', m, hp, hr, hfree, ho, hk => by
    rcases hk with hk | hk
    · have e : obj' = obj := by
        funext j
        rw [ho]
        by_cases e : j = k
        · rw [if_pos e, e, hk]; rfl
        · rw [if_neg e]; rfl
      subst e
      exact ⟨J, p, m, fun _ _ h => h, Step.refl J w, hp, p.like_refl⟩
    · exact absurd rfl hk.1
  | .k key :: r, n, J, obj, p, pre, post, obj', m, hp, hr, hfree, ho, hk => by
    simp only [openCells] at hfree ho
    refine open_all (mid := r) (n := n) (pre := pre ++ [.k key]) (post := post) m hp (by simpa using hr) hfree (fun j => by rw [ho]; simp) ?_
    rcases hk with hk | ⟨_, hk⟩
    · left; simpa using hk
    · right
      simp only [noOs] at hk
      refine ⟨?_, hk⟩
      rintro rfl; simp [noOs] at hk
  | .d x :: r, n, J, obj, p, pre, post, obj', m, hp, hr, hfree, ho, hk => by
    cases x with
    | os sz' dp ys =>
      simp only [openCells] at hfree ho
      obtain ⟨obj1, hobj1⟩ : ∃ obj1 : Nat → Option Ob, obj1 = fun j => if j = k then some (.opn sz xs (⟨i, ag, pre ++ .k (10000 * (n + 1) + d) :: (r ++ post)⟩ :: others)) else if j = 10000 * (n + 1) + d then some (.arr sz' dp ys) else obj j := ⟨_, rfl⟩
      obtain ⟨J1, p1, m1, tr1, s1, hp1, hl1, hn1⟩ := open_one (obj' := obj1) (e := ⟨i, ag, pre ++ .d (.os sz' dp ys) :: (r ++ post)⟩) (pre := pre) (post := r ++ post) m hp (by simpa using hr) rfl (hfree _ _ (List.mem_cons_self ..)) (fun j => by rw [hobj1])
      have hr1 : (Ob.opn sz xs (⟨i, ag, (pre ++ [.k (10000 * (n + 1) + d)]) ++ r ++ post⟩ :: others)).rep w (Xof X0 J1) J1 p1 := by
        obtain ⟨p2, hp2, h⟩ := m1.ob k (.opn sz xs (⟨i, ag, pre ++ .k (10000 * (n + 1) + d) :: (r ++ post)⟩ :: others)) (by rw [hobj1]; simp)
        rw [hp1] at hp2; cases hp2
        simpa using h
      obtain ⟨J2, p2, m2, tr2, s2, hp2, hl2⟩ := open_all (mid := r) (n := n + 1) (pre := pre ++ [.k (10000 * (n + 1) + d)]) (post := post) (obj' := obj') m1 hp1 hr1 (fun key ob h => by
          obtain ⟨q, h1, h2⟩ := openCells_keys h
          rw [hobj1]
          have hne : key ≠ k := by
            rintro rfl
            have := hfree _ _ (List.mem_cons_of_mem _ h)
            obtain ⟨o, ho'⟩ := m.dom key p hp
            rw [this] at ho'; cases ho'
          have hne2 : key ≠ 10000 * (n + 1) + d := by omega
          simp only [if_neg hne, if_neg hne2]
          exact hfree _ _ (List.mem_cons_of_mem _ h)) (fun j => by
          rw [ho]
          by_cases e : j = k
          · simp [e]
          · simp only [if_neg e, newsOf, look_cons]
            by_cases e2 : 10000 * (n + 1) + d = j
            · have hno : look j (openCells d (n + 1) r).2 = none := by
                cases hl : look j (openCells d (n + 1) r).2 with
                | none => rfl
                | some o =>
                  exfalso
                  have key : ∀ {l : List (Nat × Ob)} {j : Nat} {o : Ob}, look j l = some o → (j, o) ∈ l := by
                    intro l
                    induction l with
                    | nil => intro j o h; cases h
                    | cons y l ih =>
                      intro j o h
                      obtain ⟨y1, y2⟩ := y
                      rw [look_cons] at h
                      split at h
                      · rename_i e; cases h; rw [e]; exact List.mem_cons_self ..
                      · exact List.mem_cons_of_mem _ (ih h)
                  obtain ⟨q, h1, h2⟩ := openCells_keys (key hl)
                  omega
              rw [if_pos e2, hno]
              simp only [hobj1, if_neg e, if_pos e2.symm]
            · rw [if_neg e2]
              cases hl : look j (openCells d (n + 1) r).2 with
              | some o => rfl
              | none => simp only [hobj1, if_neg e, if_neg (Ne.symm e2)]) (by left; rw [hobj1]; simp)
      exact ⟨J2, p2, m2, fun x v h => tr2 x v (tr1 x v h), s1.trans s2, hp2, Place.like_trans hl1 hl2⟩
    | _ =>
      simp only [openCells] at hfree ho
      refine open_all (mid := r) (n := n) (pre := pre ++ [.d _]) (post := post) m hp (by simpa using hr) hfree (fun j => by rw [ho]; simp) ?_
      rcases hk with hk | ⟨_, hk⟩
      · left; simpa using hk
      · right
        simp only [noOs] at hk
        refine ⟨?_, hk⟩
        rintro rfl; simp [noOs] at hk
theorem os_free {X : Nat → Prop} {x : D} {u : Value} {bs : List Nat} (h : x.rep w X u bs) (h1 : u.oneCell' = true) (h2 : ∀ sz dp ys, x ≠ .os sz dp ys) : bs = [] := by
  cases x with
  | agg cs => simp only [D.rep] at h; obtain ⟨vs, rfl, _⟩ := h; cases h1
  | os sz dp ys => exact absurd rfl (h2 sz dp ys)
  | b x => simp only [D.rep] at h; exact h.2
  | i k n => simp only [D.rep] at h; exact h.2
  | s l => simp only [D.rep] at h; exact h.2
  | sl u xs => simp only [D.rep] at h; exact h.2.1
  | junk => simp only [D.rep] at h; exact h.2
theorem avs_rep {X : Nat → Prop} {b i0 : Nat} : ∀ {mid : List OC} {c : Nat} {um : List Value} {bm : List Nat}, noOs mid = true → repL w X (ocD mid) um bm → (∀ u ∈ um, u.oneCell' = true) → w.rangeAt b (i0 + c) um →
    (∀ (n key : Nat), mid[n]? = some (.k key) → ∃ q, J key = some q ∧ w.cell? ⟨b, i0 + (c + n), none⟩ = some q.v ∧ q.v.oneCell' = true) → AV.repL w X J (avsOf mid) um
  | [], c, um, bm, _, h, _, _, _ => by simp only [ocD, repL] at h; simp only [avsOf, AV.repL]; exact h.1
  | y :: mid, c, um, bm, hno, h, h1, hrg, hk => by
    simp only [ocD, repL] at h
    obtain ⟨u, us, b1, b2, rfl, rfl, g1, g2⟩ := h
    have hu := h1 u (List.mem_cons_self ..)
    have hrest : w.rangeAt b (i0 + (c + 1)) us := by
      intro j v hv
      have := hrg (j + 1) v (by simpa using hv)
      rwa [show i0 + c + (j + 1) = i0 + (c + 1) + j by omega] at this
    have hcell : w.cell? ⟨b, i0 + c, none⟩ = some u := hrg 0 u rfl
    have ih : noOs mid = true → AV.repL w X J (avsOf mid) us := fun hn => avs_rep (c := c + 1) hn g2 (fun v hv => h1 v (List.mem_cons_of_mem _ hv)) hrest (fun n key hn' => by
      have := hk (n + 1) key (by simpa using hn')
      rwa [show i0 + (c + (n + 1)) = i0 + (c + 1 + n) by omega] at this)
    simp only [avsOf, AV.repL]
    cases y with
    | k key =>
      simp only [noOs] at hno
      refine ⟨u, us, rfl, ?_, ih hno⟩
      obtain ⟨q, hq, hqc, hq1⟩ := hk 0 key rfl
      rw [Nat.add_zero, hcell] at hqc
      simp only [OC.av, AV.rep]
      exact ⟨q, hq, Option.some.inj hqc, hq1⟩
    | d x =>
      have hx : ∀ sz dp ys, x ≠ .os sz dp ys := by rintro sz dp ys rfl; simp [noOs] at hno
      have hno' : noOs mid = true := by cases x <;> first | exact hno | (simp [noOs] at hno)
      refine ⟨u, us, rfl, ?_, ih hno'⟩
      simp only [OC.av, AV.rep]
      have := os_free g1 hu hx
      subst this
      exact g1
theorem noOs_open {d : Nat} : ∀ {cs : List OC} {n : Nat}, noOs (openCells d n cs).1 = true
  | [], n => rfl
  | .k key :: r, n => by simp only [openCells, noOs]; exact noOs_open
  | .d x :: r, n => by cases x <;> simp only [openCells, noOs] <;> exact noOs_open
theorem run_loadCells {t : TypeId} {x : Operand} (hop : o.op = .load t x) {b off : Nat} {vs : List Value} {u : Value} (hx : a.eval x = .pointer (some ⟨b, off, none⟩)) (hv : w.rangeAt b off vs)
    (hu : (∃ fs, P.underlying t = some (.struct fs) ∧ u = .agg (vs.take (P.cellsOf t)).toArray ∧ P.cellsOf t ≤ vs.length) ∨ (∃ d, P.underlying t = some d ∧ d.isRow = false ∧ vs[0]? = some u)) :
    (execOp a.eval o).run P w = .ok (.value u) w := by
  simp [execOp, hop, hx, run_loadAt_of hv hu]
theorem setCells_at {α : Type} {o : Nat} {vs l r : List α} (h : setCells o vs l = some r) : r = l.take o ++ vs ++ l.drop (o + vs.length) := by
  have key : ∀ {o : Nat} {vs l r : List α}, setCells o vs l = some r → r = l.take o ++ vs ++ l.drop (o + vs.length) := by
    intro o vs l
    induction l generalizing o vs with
    | nil => intro r h; cases o <;> cases vs <;> simp [setCells] at h ⊢ <;> exact h
    | cons y l ih =>
      intro r h
      cases vs with
      | nil => cases o <;> (simp only [setCells, Option.some.injEq] at h; subst h; simp)
      | cons v vs =>
        cases o with
        | zero =>
          simp only [setCells] at h
          split at h
          · rename_i r' hr; cases h; rw [ih hr]; simp
          · cases h
        | succ o =>
          simp only [setCells] at h
          split at h
          · rename_i r' hr
            cases h
            rw [ih hr, show o + 1 + (v :: vs).length = (o + (v :: vs).length) + 1 by omega]
            simp only [List.take_succ_cons, List.cons_append, List.drop_succ_cons]
          · cases h
  exact key h
theorem opn_of' {X : Nat → Prop} {p : Place} {ob : Ob} {sz j : Nat} {xs : List D} {els : List OE} {f : OE → List OE → Cmd} {dst : Option Nat} (ho : openAny ob = some (sz, xs, els)) (hr : ob.rep w X J p)
    (hc : evCmd P cx dst (pickEl xs j f els []) st K) : (Ob.opn sz xs els).rep w X J p := by
  by_cases hne : xs = []
  · subst hne
    unfold openAny at ho
    split at ho
    · cases ho
      simp only [pickEl, evCmd] at hc
      obtain ⟨x, hx, _⟩ := hc
      simp at hx
    · cases ho; exact hr
    · cases ho
  · exact opn_of ho hr hne
theorem op_loadDeep (tok : TOk P cx.T) (r : Rel X0 J st a w) (hd : ∀ d, o.dst = some d → d < a.tmps.size) (hn : Leads P X0 J a w K next) {t : TypeId} {x : Operand} (hop : o.op = .load t x)
    {k j off sz : Nat} {p : Place} (hp : J k = some p) (hx : a.eval x = .pointer (some ⟨p.blk, j * sz + off, none⟩)) {ob : Ob} (hob : look k st.obj = some ob) {xs : List D} {els : List OE} (hels : openEls ob = some (sz, xs, els))
    (hc : evCmd P cx o.dst (pickEl xs j (loadDeep o.dst (tdOf P t) k sz off xs) els []) st K) : o.wp P a w next Q := by
  obtain ⟨p', hp', hrep⟩ := r.mem.ob k ob hob
  rw [hp] at hp'; cases hp'
  have hopn := opn_of' (openEls_any hels) hrep hc
  obtain ⟨e, others, rfl, hr, hc⟩ := pick_ok (passed := []) (by simpa using hopn) hc (by simp)
  unfold loadDeep at hc
  split at hc
  case h_1 => exact hc.elim
  rename_i tl htl
  obtain ⟨rfl, hoff⟩ := drop_some htl
  split at hc
  case h_1 => exact hc.elim
  rename_i mid hmid
  obtain ⟨rfl, hml⟩ := take_some hmid
  generalize hmd : (e.cells.drop off).take (tdOf P t).size = mid at hc
  have hsplit : e.cells = e.cells.take off ++ mid ++ e.cells.drop (off + mid.length) := by
    have h1 : e.cells.drop off = mid ++ e.cells.drop (off + mid.length) := by
      rw [← hmd, List.length_take, Nat.min_eq_left hml, ← List.drop_drop]
      exact (List.take_append_drop _ _).symm
    rw [List.append_assoc, ← h1, List.take_append_drop]
  have hpl : (e.cells.take off).length = off := by rw [List.length_take]; omega
  cases hno : noOs mid with
  | true =>
    rw [hno] at hc
    simp only at hc
    obtain ⟨b1, bm, b2, um, _, hum, hone, hrg, _, _⟩ := opn_at hr hsplit
    rw [hpl] at hrg
    obtain ⟨_, _, _, _, _, _, _, _, h6⟩ := hr
    have hav := avs_rep (J := J) (b := p.blk) (i0 := e.i * sz) (c := off) hno hum hone hrg (fun n key hk => by
      refine (h6 e (List.mem_cons_self ..)).2 (off + n) key ?_
      rw [hsplit, List.append_assoc, List.getElem?_append_right (by omega), hpl, show off + n - off = n by omega, List.getElem?_append_left (List.getElem?_eq_some_iff.1 hk).1]
      exact hk)
    obtain ⟨v, u, hK, hvr, hu⟩ := loadAs_ok (P := P) (t := t) hav hc
    exact wp_val r hd hn hK (run_loadCells hop hx hrg hu) (Same.refl w) hvr
  | false =>
    rw [hno] at hc
    simp only at hc
    cases hdst : o.dst with
    | none => rw [hdst] at hc; exact hc.elim
    | some d =>
      rw [hdst] at hc
      simp only at hc
      generalize hoc : openCells d 0 mid = oc at hc
      obtain ⟨mid', news⟩ := oc
      simp only at hc
      split at hc
      case h_2 => exact hc.elim
      rename_i cs hcs
      have hcs := setCells_at hcs
      have hm' : mid'.length = mid.length := by have := openCells_length (d := d) (cs := mid) (n := 0); rw [hoc] at this; exact this
      rw [hm'] at hcs
      subst hcs
      simp only [evCmd] at hc
      split at hc
      case h_2 => exact hc.elim
      rename_i hfr
      obtain ⟨J', p1, m', tr, stp, hp1, hl⟩ := open_all (d := d) (n := 0) (mid := mid) (k := k) (i := e.i) (ag := e.ag) (pre := e.cells.take off) (post := e.cells.drop (off + mid.length)) (obj' := fun q => look q ((st.news news).set k (.opn sz xs (⟨e.i, e.ag, e.cells.take off ++ mid' ++ e.cells.drop (off + mid.length)⟩ :: others))).obj)
        r.mem hp (by rw [← hsplit]; exact hr) (fun key ob h => freshAll_ok hfr key ob (by rw [hoc] at h; exact h)) (fun q => by
          rw [St.set_look, news_look, hoc]
          by_cases e1 : k = q
          · simp [e1]
          · simp [e1, Ne.symm e1]) (.inr ⟨by rintro rfl; simp [noOs] at hno, hno⟩)
      have r' : Rel X0 J' ((st.news news).set k (.opn sz xs (⟨e.i, e.ag, e.cells.take off ++ mid' ++ e.cells.drop (off + mid.length)⟩ :: others))) a w := by
        refine ⟨fun q v hq => ?_, m', r.defers⟩
        have henv : ∀ (l : List (Nat × Ob)) (s : St), (s.news l).env = s.env := by
          intro l s
          induction l with
          | nil => rfl
          | cons y l ih => obtain ⟨y1, y2⟩ := y; exact ih
        have hq' : look q st.env = some v := by
          have : ((st.news news).set k (.opn sz xs (⟨e.i, e.ag, e.cells.take off ++ mid' ++ e.cells.drop (off + mid.length)⟩ :: others))).env = st.env := henv news st
          rw [this] at hq; exact hq
        obtain ⟨u, hu, hr'⟩ := r.env q v hq'
        exact ⟨u, hu, tr v u hr'⟩
      have hob' := r'.mem.ob k (.opn sz xs (⟨e.i, e.ag, e.cells.take off ++ mid' ++ e.cells.drop (off + mid.length)⟩ :: others)) (by show look k _ = _; rw [St.set_look, if_pos rfl])
      obtain ⟨p2, hp2, hr2⟩ := hob'
      rw [hp1] at hp2; cases hp2
      obtain ⟨b1, bm, b2, um, _, hum, hone, hrg, _, _⟩ := opn_at (pre := e.cells.take off) (mid := mid') (post := e.cells.drop (off + mid.length)) hr2 rfl
      rw [hpl, hl.1] at hrg
      obtain ⟨_, _, _, _, _, _, _, _, h6⟩ := hr2
      have hno' : noOs mid' = true := by have := noOs_open (d := d) (cs := mid) (n := 0); rw [hoc] at this; exact this
      have hav := avs_rep (J := J') (b := p.blk) (i0 := e.i * sz) (c := off) hno' hum hone hrg (fun n key hk => by
        have := (h6 _ (List.mem_cons_self ..)).2 (off + n) key (by
          show (e.cells.take off ++ mid' ++ e.cells.drop (off + mid.length))[off + n]? = _
          rw [List.append_assoc, List.getElem?_append_right (by omega), hpl, show off + n - off = n by omega, List.getElem?_append_left (List.getElem?_eq_some_iff.1 hk).1]
          exact hk)
        rw [hl.1] at this
        exact this)
      obtain ⟨v, u, hK, hvr, hu⟩ := loadAs_ok (P := P) (t := t) hav hc
      unfold Oper.wp
      rw [run_loadCells hop hx hrg hu]
      refine hn _ J' _ w hK ?_ Act.put_size stp
      rw [hdst]
      exact r'.put (fun d' h' => by cases h'; exact hd d hdst) hvr
end
end Go.Pm
namespace Go.Pm
open Go
set_option linter.unusedVariables false
variable {P : Program}
section
variable {cx : Cx} {X0 : Nat → Prop} {J : Nat → Option Place} {st : St} {a : Act} {w : World} {o : Oper} {K : St → Prop} {next : Act → World → Prop} {Q : Exit → Act → World → Prop}
theorem Mem.var {X0 : Nat → Prop} {J : Nat → Option Place} {obj : Nat → Option Ob} {w : World} (m : Mem X0 J obj w) {k : Nat} {cells : List AV} (h : obj k = some (.var cells)) :
    ∃ p cs t, J k = some p ∧ (p.hd = true ∧ p.nest = []) ∧ w.heap[p.blk]? = some (.cells cs t (0, 0)) ∧ AV.repL w (Xof X0 J) J cells cs.toList := by
  obtain ⟨p, hp, hr⟩ := m.ob k _ h
  obtain ⟨hh, hn, cs, t, hc, hr⟩ := hr
  exact ⟨p, cs, t, hp, ⟨hh, hn⟩, hc, hr⟩
theorem rangeAt_heap {w : World} {b : Nat} {cs : Array Value} {t : TypeId} {fr : Nat × Nat} (h : w.heap[b]? = some (.cells cs t fr)) (off : Nat) : w.rangeAt b off (cs.toList.drop off) := by
  intro j v hv
  rw [List.getElem?_drop] at hv
  simp only [World.cell?, h]
  simpa using hv
theorem repRows_get {w : World} {X : Nat → Prop} {b sz : Nat} : ∀ {xs : List D} {off : Nat} {i : Nat} {x : D}, repRows w X b sz xs off [] → xs[i]? = some x →
    ∃ v, x.rep w X v [] ∧ v.cells.size = sz ∧ x.cells.length = sz ∧ w.rangeAt b (off + i * sz) v.cells.toList
  | [], off, i, x, _, h => by simp at h
  | y :: xs, off, i, x, hr, h => by
    simp only [repRows] at hr
    obtain ⟨v, b1, b2, hb, h1, h2, h3, h4, h5⟩ := hr
    obtain ⟨rfl, rfl⟩ := List.append_eq_nil_iff.1 hb.symm
    cases i with
    | zero => simp at h; subst h; exact ⟨v, h1, h2, h3.1, by simpa using h4⟩
    | succ i =>
      obtain ⟨v', g1, g2, g3, g4⟩ := repRows_get h5 (by simpa using h)
      exact ⟨v', g1, g2, g3, by rw [Nat.add_mul, Nat.one_mul, Nat.add_comm (i * sz) sz, ← Nat.add_assoc]; exact g4⟩
theorem op_load (tok : TOk P cx.T) (r : Rel X0 J st a w) (hd : ∀ d, o.dst = some d → d < a.tmps.size) (hn : Leads P X0 J a w K next) {t : TypeId} {x : Operand} (hop : o.op = .load t x)
    (hc : evCmd P cx o.dst (opCmd cx.T o st) st K) : o.wp P a w next Q := by
  simp only [opCmd, hop] at hc
  split at hc
  · rename_i i hi
    have hti := tok t i hi
    subst hti
    have run : ∀ {b off : Nat} {vs : List Value} {u : Value}, a.eval x = .pointer (some ⟨b, off, none⟩) → w.rangeAt b off vs →
        ((∃ fs, P.underlying t = some (.struct fs) ∧ u = .agg (vs.take (P.cellsOf t)).toArray ∧ P.cellsOf t ≤ vs.length) ∨ (∃ d, P.underlying t = some d ∧ d.isRow = false ∧ vs[0]? = some u)) →
        (execOp a.eval o).run P w = .ok (.value u) w := by
      intro b off vs u hx hv hu
      simp [execOp, hop, hx, run_loadAt_of hv hu]
    split at hc
    · rename_i k off hx
      have hv := r.ev hx
      simp only [AV.rep] at hv
      obtain ⟨p, hp, hv⟩ := hv
      split at hc
      · rename_i cells hk
        split at hc
        · rename_i l hl
          obtain ⟨rfl, hle⟩ := drop_some hl
          obtain ⟨p', cs, tt, hp', _, hcs, hr⟩ := r.mem.var hk
          rw [hp] at hp'; cases hp'
          obtain ⟨v, u, hK, hvr, hu⟩ := loadAs_ok (P := P) (t := t) (AV.repL_drop (n := off) hr) hc
          exact wp_val r hd hn hK (run hv (rangeAt_heap hcs off) hu) (Same.refl w) hvr
        · exact hc.elim
      · exact hc.elim
    · rename_i cs hx
      have hv := r.ev hx
      simp only [AV.rep] at hv
      obtain ⟨b, off, vs, hv, hne, hX, hr, hrange⟩ := hv
      obtain ⟨v, u, hK, hvr, hu⟩ := loadD_ok (P := P) (t := t) (J := J) hr hc
      exact wp_val r hd hn hK (run hv hrange hu) (Same.refl w) hvr
    · rename_i k s j off hx
      have hv := r.ev hx
      simp only [AV.rep] at hv
      obtain ⟨p, hp, hv⟩ := hv
      split at hc
      · rename_i sz xs hk
        split at hc
        case h_2 => exact hc.elim
        rename_i hbeq
        have hss : s = sz := Nat.eq_of_beq_eq_true hbeq
        simp only [evCmd] at hc
        obtain ⟨y, hy, hc⟩ := hc
        split at hc
        · rename_i l hl
          obtain ⟨rfl, hle⟩ := drop_some hl
          obtain ⟨p', hp', hr⟩ := r.mem.ob k _ hk
          rw [hp] at hp'; cases hp'
          obtain ⟨h0, a0, cap, h1, h2, ⟨_, h3, _⟩ | ⟨hh, ha, h3, h4, h5⟩⟩ := hr
          · subst h3; simp at hy
          rw [h5 rfl] at h4
          obtain ⟨v0, g1, g2, g3, g4⟩ := repRows_get h4 hy
          subst hss
          obtain ⟨v, u, hK, hvr, hu⟩ := loadD_ok (P := P) (t := t) (J := J) (repL_drop (n := off) (D.cells_rep g1)) hc
          refine wp_val r hd hn hK (run hv ?_ hu) (Same.refl w) hvr
          have := rangeAt_drop (n := off) g4
          simpa using this
        · exact hc.elim
      · rename_i ob hne hob
        split at hc
        case h_2 => exact hc.elim
        rename_i sz xs els hels
        split at hc
        case h_2 => exact hc.elim
        rename_i hbeq
        have hss : s = sz := Nat.eq_of_beq_eq_true hbeq
        subst hss
        exact op_loadDeep tok r hd hn hop hp hv hob hels hc
      · exact hc.elim
    · exact hc.elim
  · exact hc.elim
theorem parts_rep {w : World} {X : Nat → Prop} {J : Nat → Option Place} {x : AV} {v : Value} {cs : List AV} (h : x.rep w X J v) (hp : x.parts = some cs) : ∃ vs, v = .agg vs ∧ AV.repL w X J cs vs.toList := by
  have hc := cells_rep h
  unfold AV.parts at hp
  split at hp
  · cases hp; simp only [AV.rep] at h; exact h
  · cases hp
    simp only [AV.rep, D.rep] at h
    obtain ⟨vs, rfl, _⟩ := h
    exact ⟨vs, rfl, hc⟩
  · cases hp
theorem op_field (tok : TOk P cx.T) (r : Rel X0 J st a w) (hd : ∀ d, o.dst = some d → d < a.tmps.size) (hn : Leads P X0 J a w K next) {t : TypeId} {x : Operand} {f : Nat} (hop : o.op = .field t x f)
    (hc : evCmd P cx o.dst (opCmd cx.T o st) st K) : o.wp P a w next Q := by
  simp only [opCmd, hop] at hc
  split at hc
  · rename_i i hi
    have hti := tok t i hi
    subst hti
    split at hc
    · rename_i off ft fsz hf
      split at hc
      · rename_i fi hfi
        have hft := tok ft fi hfi
        subst hft
        split at hc
        · rename_i v hx
          split at hc
          case h_2 => exact hc.elim
          rename_i cs0 hparts
          split at hc
          · rename_i l hl
            obtain ⟨rfl, hle⟩ := drop_some hl
            have hv := r.ev hx
            obtain ⟨vs, hvs, hcs⟩ := parts_rep hv hparts
            unfold TD.field at hf
            split at hf
            · rename_i fs hk
              obtain ⟨fds, hu, rfl⟩ := kind_struct (P := P) (t := t) hk
              rw [List.getElem?_map] at hf
              cases hfd : fds.toList[f]? with
              | none => rw [hfd] at hf; cases hf
              | some fd =>
                rw [hfd] at hf
                simp only [Option.map_some, Option.some.injEq, Prod.mk.injEq] at hf
                obtain ⟨rfl, rfl, rfl⟩ := hf
                obtain ⟨v', u, hK, hvr, hu'⟩ := loadAs_ok (P := P) (t := fd.type) (AV.repL_drop (n := fd.offset) hcs) hc
                have hfd' : fds[f]? = some fd := by simpa using hfd
                refine wp_val r hd hn hK ?_ (Same.refl w) hvr
                have hpart : (part fd.type vs fd.offset).run P w = .ok u w := by
                  rcases hu' with ⟨fs2, hu2, rfl, hle2⟩ | ⟨d, hu2, hd2, hv2⟩
                  · have hagg : (isAgg fd.type).run P w = .ok true w := by
                      unfold isAgg
                      rw [Sem.run_bind, run_underlying hu2 w]
                      simp
                    simp only [part, Sem.run_bind, hagg, Result.andThen_ok, if_true, run_size hu2, Sem.run_pure]
                    congr 2
                    apply Array.ext'
                    simp [Array.toList_extract, List.extract]
                  · have hagg : (isAgg fd.type).run P w = .ok false w := by
                      unfold isAgg
                      rw [Sem.run_bind, run_underlying hu2 w]
                      cases d <;> simp_all
                    have : vs[fd.offset]? = some u := by
                      rw [List.getElem?_drop] at hv2
                      simpa using hv2
                    simp [part, hagg, this]
                simp [execOp, hop, hvs, Instr.field, run_underlying hu, hfd', asAgg, hpart]
            · cases hf
          · exact hc.elim
        · exact hc.elim
      · exact hc.elim
    · exact hc.elim
  · exact hc.elim
theorem op_fieldAddr (tok : TOk P cx.T) (r : Rel X0 J st a w) (hd : ∀ d, o.dst = some d → d < a.tmps.size) (hn : Leads P X0 J a w K next) {t : TypeId} {x : Operand} {f : Nat} (hop : o.op = .fieldAddr t x f)
    (hc : evCmd P cx o.dst (opCmd cx.T o st) st K) : o.wp P a w next Q := by
  simp only [opCmd, hop] at hc
  split at hc
  case h_2 => exact hc.elim
  rename_i i hi
  have hti := tok t i hi
  subst hti
  split at hc
  case h_2 => exact hc.elim
  rename_i off ft fsz hf
  unfold TD.field at hf
  split at hf
  case h_2 => cases hf
  rename_i fs hk
  obtain ⟨fds, hu, rfl⟩ := kind_struct (P := P) (t := t) hk
  rw [List.getElem?_map] at hf
  cases hfd : fds.toList[f]? with
  | none => rw [hfd] at hf; cases hf
  | some fd =>
    rw [hfd] at hf
    simp only [Option.map_some, Option.some.injEq, Prod.mk.injEq] at hf
    obtain ⟨rfl, rfl, hsz⟩ := hf
    have hfd' : fds[f]? = some fd := by simpa using hfd
    split at hc
    case h_2 => exact hc.elim
    rename_i hpos
    have run : ∀ {b o2 : Nat}, a.eval x = .pointer (some ⟨b, o2, none⟩) → (execOp a.eval o).run P w = .ok (.value (.pointer (some ⟨b, o2 + fd.offset, none⟩))) w := by
      intro b o2 hx
      obtain ⟨fi, hfi⟩ : ∃ fi, P.info? fd.type = some fi := by
        cases hq : P.info? fd.type with
        | some fi => exact ⟨fi, rfl⟩
        | none => rw [← hsz] at hpos; simp [Program.cellsOf, hq] at hpos
      have hs := run_sizeOf (P := P) w hfi
      have hne : ¬ P.cellsOf fd.type = 0 := by
        intro h0; rw [← hsz, h0] at hpos; cases hpos
      simp [execOp, hop, hx, Instr.fieldAt, run_underlying hu, hfd', Instr.sureAddr, fieldPlace, hs, hne, Addr.add_mid]
    split at hc
    · rename_i k off hx
      have hv := r.ev hx
      simp only [AV.rep] at hv
      obtain ⟨p, hp, hv⟩ := hv
      exact wp_val r hd hn hc (run hv) (Same.refl w) (by simp only [AV.rep]; exact ⟨p, hp, rfl⟩)
    · rename_i k s j off hx
      have hv := r.ev hx
      simp only [AV.rep] at hv
      obtain ⟨p, hp, hv⟩ := hv
      exact wp_val r hd hn hc (run hv) (Same.refl w) (by simp only [AV.rep]; exact ⟨p, hp, by rw [Nat.add_assoc]⟩)
    · rename_i cs hx
      have hv := r.ev hx
      simp only [AV.rep] at hv
      obtain ⟨b, off, vs, hv, hne, hX, hr, hrange⟩ := hv
      split at hc
      · rename_i c l hl
        obtain ⟨hl, hle⟩ := drop_some hl
        refine wp_val r hd hn hc (run hv) (Same.refl w) ?_
        simp only [AV.rep]
        have hr' := repL_drop (n := fd.offset) hr
        rw [hl] at hr'
        refine ⟨b, _, _, rfl, ?_, hX, hr', rangeAt_drop hrange⟩
        intro e
        rw [e] at hr'
        simp [repL] at hr'
      · exact hc.elim
    · exact hc.elim
theorem op_index (tok : TOk P cx.T) (r : Rel X0 J st a w) (hd : ∀ d, o.dst = some d → d < a.tmps.size) (hn : Leads P X0 J a w K next) {t : TypeId} {x j : Operand} (hop : o.op = .index t x j)
    (hc : evCmd P cx o.dst (opCmd cx.T o st) st K) : o.wp P a w next Q := by
  simp only [opCmd, hop] at hc
  split at hc
  case h_2 => exact hc.elim
  rename_i i hi
  have hti := tok t i hi
  subst hti
  split at hc
  case h_2 => exact hc.elim
  rename_i hk
  have hu := kind_str (P := P) (t := t) hk
  split at hc
  case h_2 => exact hc.elim
  rename_i l hx
  split at hc
  case h_2 => exact hc.elim
  rename_i k n hj
  have hv := r.ev hx
  have hjv := r.ev hj
  simp only [AV.rep, D.rep] at hv hjv
  obtain ⟨⟨h0, h1⟩, hc⟩ := hc
  refine wp_val r hd hn hc (u := .int .u8 (l.getD n.toNat 0).toNat) (w' := w) ?_ (Same.refl w) (by simp [AV.rep, D.rep])
  have hlt : n.toNat < l.length := by omega
  have hget : (ByteArray.mk l.toArray)[n.toNat]? = some (l.getD n.toNat 0) := by
    have : (ByteArray.mk l.toArray)[n.toNat]? = l.toArray[n.toNat]? := by
      simp only [getElem?_def]
      rfl
    rw [this]
    simp [List.getD_eq_getElem?_getD, hlt]
  simp [execOp, hop, hv.1, hjv.1, Instr.index, asIntOf, run_underlying hu, h0, hget]
theorem op_indexAddr (tok : TOk P cx.T) (r : Rel X0 J st a w) (hd : ∀ d, o.dst = some d → d < a.tmps.size) (hn : Leads P X0 J a w K next) {t : TypeId} {x j : Operand} (hop : o.op = .indexAddr t x j)
    (hc : evCmd P cx o.dst (opCmd cx.T o st) st K) : o.wp P a w next Q := by
  simp only [opCmd, hop] at hc
  split at hc
  case h_2 => exact hc.elim
  rename_i i hi
  have hti := tok t i hi
  subst hti
  split at hc
  case h_2 => exact hc.elim
  rename_i e hk
  have hu := kind_slice (P := P) (t := t) hk
  split at hc
  case h_2 => exact hc.elim
  rename_i ie hie
  have hte := tok e ie hie
  subst hte
  split at hc
  case h_2 => exact hc.elim
  rename_i k n hj
  have hjv := r.ev hj
  simp only [AV.rep, D.rep] at hjv
  have run : ∀ {b off len cap sz : Nat}, 0 < sz → P.cellsOf e = sz → a.eval x = .slice (some ⟨b, off, none⟩) len cap → 0 ≤ n → n < len →
      (execOp a.eval o).run P w = .ok (.value (.pointer (some ⟨b, off + n.toNat * sz, none⟩))) w := by
    intro b off len cap sz hsz hce hx h0 h1
    obtain ⟨ei, hei⟩ : ∃ ei, P.info? e = some ei := by
      cases hq : P.info? e with
      | some ei => exact ⟨ei, rfl⟩
      | none => simp [Program.cellsOf, hq] at hce; omega
    have hs := run_sizeOf (P := P) w hei
    rw [hce] at hs
    simp [execOp, hop, hx, hjv.1, Instr.indexAt, asIntOf, run_underlying hu, h0, h1, hs, Addr.add_mid]
  split at hc
  · rename_i xs hx
    have hv := r.ev hx
    simp only [AV.rep, D.rep] at hv
    obtain ⟨_, _, a0, cap, hv, hcap, hrows⟩ := hv
    obtain ⟨h0, y, hy, hc⟩ := hc
    have hlt : n.toNat < xs.length := (List.getElem?_eq_some_iff.1 hy).1
    simp only at hc
    split at hc
    case h_2 => exact hc.elim
    rename_i hbeq
    have hsz' : y.cells.length = P.cellsOf e := Nat.eq_of_beq_eq_true hbeq
    rcases hrows with rfl | ⟨b, off, sz, hne, rfl, hsz, hrows, hX⟩
    · simp at hlt
    · obtain ⟨v, g1, g2, g3, g4⟩ := repRows_get hrows hy
      refine wp_val r hd hn hc (run hsz (hsz'.symm.trans g3) hv h0 (by omega)) (Same.refl w) ?_
      simp only [AV.rep]
      refine ⟨b, _, v.cells.toList, rfl, ?_, hX, D.cells_rep g1, g4⟩
      intro e0
      have : v.cells.size = 0 := by rw [← Array.length_toList, e0]; rfl
      omega
  · rename_i k0 hx
    have hv := r.ev hx
    simp only [AV.rep] at hv
    obtain ⟨p, hp, hv, _⟩ := hv
    split at hc
    · rename_i sz deep xs hk0
      split at hc
      case h_2 => exact hc.elim
      rename_i hbeq
      have hsz' : sz = P.cellsOf e := Nat.eq_of_beq_eq_true hbeq
      obtain ⟨⟨h0, h1⟩, hc⟩ := hc
      obtain ⟨p', hp', hr⟩ := r.mem.ob _ _ hk0
      rw [hp] at hp'; cases hp'
      obtain ⟨g0, a0, cap, g1, g2, ⟨_, g3, _⟩ | ⟨hh, rfl, g3, g4, g5⟩⟩ := hr
      · subst g3; simp at h1; omega
      refine wp_val r hd hn hc (run g0 hsz'.symm (hv.trans g1) h0 h1) (Same.refl w) ?_
      simp only [AV.rep]
      exact ⟨p, hp, by simp⟩
    · rename_i sz xs els hk0
      split at hc
      case h_2 => exact hc.elim
      rename_i hbeq
      have hsz' : sz = P.cellsOf e := Nat.eq_of_beq_eq_true hbeq
      obtain ⟨⟨h0, h1⟩, hc⟩ := hc
      obtain ⟨p', hp', hr⟩ := r.mem.ob _ _ hk0
      rw [hp] at hp'; cases hp'
      obtain ⟨g0, cap, g1, g2, _⟩ := hr
      refine wp_val r hd hn hc (run g0 hsz'.symm (hv.trans g1) h0 h1) (Same.refl w) ?_
      simp only [AV.rep]
      exact ⟨p, hp, by simp⟩
    · exact hc.elim
  · rename_i k0 s lo hi hx
    have hv := r.ev hx
    simp only [AV.rep] at hv
    obtain ⟨p, a0, n0, c0, a1, c1, hp, hpv, g1, g2, g3, hv, g4, g5⟩ := hv
    split at hc
    case h_2 => exact hc.elim
    rename_i hbeq
    have hsz' : s = P.cellsOf e := Nat.eq_of_beq_eq_true hbeq
    obtain ⟨⟨⟨h0, h1⟩, hs0⟩, hc⟩ := hc
    have hs0 : 0 < s := by rw [hsz']; exact hs0
    obtain ⟨_, rfl⟩ := g5 (by omega)
    refine wp_val r hd hn hc (run hs0 hsz'.symm hv h0 (by omega)) (Same.refl w) ?_
    simp only [AV.rep]
    exact ⟨p, hp, by rw [Nat.add_mul]; simp⟩
  · exact hc.elim
theorem repRows_drop {w : World} {X : Nat → Prop} {b sz : Nat} : ∀ {n : Nat} {xs : List D} {off : Nat}, repRows w X b sz xs off [] → repRows w X b sz (xs.drop n) (off + n * sz) [] ∨ xs.length < n
  | 0, xs, off, h => .inl (by simpa using h)
  | n + 1, [], off, h => .inr (by simp)
  | n + 1, x :: xs, off, h => by
    simp only [repRows] at h
    obtain ⟨v, b1, b2, hb, h1, h2, h3, h4, h5⟩ := h
    obtain ⟨rfl, rfl⟩ := List.append_eq_nil_iff.1 hb.symm
    rcases repRows_drop (n := n) h5 with g | g
    · left
      rw [Nat.add_mul, Nat.one_mul, Nat.add_comm (n * sz) sz, ← Nat.add_assoc]
      simpa using g
    · right; simpa using g
theorem repRows_take {w : World} {X : Nat → Prop} {b sz : Nat} : ∀ {n : Nat} {xs : List D} {off : Nat}, repRows w X b sz xs off [] → repRows w X b sz (xs.take n) off []
  | 0, xs, off, h => by simp [repRows]
  | n + 1, [], off, h => by simp [repRows]
  | n + 1, x :: xs, off, h => by
    simp only [repRows] at h
    obtain ⟨v, b1, b2, hb, h1, h2, h3, h4, h5⟩ := h
    obtain ⟨rfl, rfl⟩ := List.append_eq_nil_iff.1 hb.symm
    simp only [List.take_succ_cons, repRows]
    exact ⟨v, [], [], rfl, h1, h2, h3, h4, repRows_take h5⟩
theorem sl_slice {w : World} {X : Nat → Prop} {xs : List D} {v : Value} (hv : (D.sl false xs).rep w X v []) {l h : Nat} (hl : l ≤ h) (hh : h ≤ xs.length) {s : Nat} (hs : ∀ x ∈ xs, x.cells.length = s) :
    ∃ a cap, v = .slice a xs.length cap ∧ xs.length ≤ cap ∧ (D.sl false ((xs.take h).drop l)).rep w X (sliced a l h cap s) [] := by
  simp only [D.rep] at hv
  obtain ⟨_, _, a, cap, hv, hcap, hrows⟩ := hv
  refine ⟨a, cap, hv, hcap, ?_⟩
  have hlen : ((xs.take h).drop l).length = h - l := by rw [List.length_drop, List.length_take, Nat.min_eq_left hh]
  simp only [D.rep, sliced]
  refine ⟨trivial, trivial, _, cap - l, by rw [hlen], by rw [hlen]; omega, ?_⟩
  rcases Nat.eq_or_lt_of_le hl with e | hlt
  · left
    exact List.eq_nil_of_length_eq_zero (by rw [hlen]; omega)
  · right
    rcases hrows with rfl | ⟨b, off, sz, hne, rfl, hsz, hrows, hX⟩
    · simp at hh; omega
    · have hss : s = sz := by
        obtain ⟨y, hy⟩ : ∃ y, xs[0]? = some y := by
          cases xs with
          | nil => exact absurd rfl hne
          | cons y ys => exact ⟨y, rfl⟩
        obtain ⟨_, _, _, g3, _⟩ := repRows_get hrows hy
        rw [← g3]; exact (hs y (List.mem_of_getElem? hy)).symm
      subst hss
      rw [if_neg (by omega)]
      refine ⟨b, off + l * s, s, ?_, by simp [Addr.add_mid], hsz, ?_, hX⟩
      · intro e; rw [e] at hlen; simp at hlen; omega
      · rcases repRows_drop (n := l) (repRows_take (n := h) hrows) with g | g
        · exact g
        · rw [List.length_take, Nat.min_eq_left hh] at g; omega
theorem extract_mk (s : List UInt8) (l h : Nat) : (ByteArray.mk s.toArray).extract l h = ⟨((s.take h).drop l).toArray⟩ := by
  apply ByteArray.ext
  rw [ByteArray.data_extract]
  apply Array.ext'
  simp [List.extract, List.drop_take]
theorem op_slice (tok : TOk P cx.T) (r : Rel X0 J st a w) (hd : ∀ d, o.dst = some d → d < a.tmps.size) (hn : Leads P X0 J a w K next) {t : TypeId} {x : Operand} {lo hi : Option Operand} (hop : o.op = .slice t x lo hi none)
    (hc : evCmd P cx o.dst (opCmd cx.T o st) st K) : o.wp P a w next Q := by
  have bnd : ∀ {n : Nat} {f : Nat → Nat → AV} {lv hv : Option AV} {lo' hi' : Option Value},
      (∀ k n, lv = some (.d (.i k n)) → lo' = some (.int k n)) → (∀ k n, hv = some (.d (.i k n)) → hi' = some (.int k n)) → (lv = none → lo' = none) → (hv = none → hi' = none) →
      evCmd P cx o.dst (bounds n f lv hv) st K → ∃ l h, K (st.put o.dst (f l h)) ∧ l ≤ h ∧ h ≤ n ∧ (∀ w, (Instr.sliceBounds false n n lo' hi' none).run P w = .ok (l, h, n) w) ∧
        ∀ w cap, n ≤ cap → (Instr.sliceBounds true n cap lo' hi' none).run P w = .ok (l, h, cap) w := by
    intro n f lv hv lo' hi' hl hh hl0 hh0 hc
    unfold bounds at hc
    split at hc
    · rw [hl0 rfl, hh0 rfl]
      exact ⟨0, n, hc, Nat.zero_le _, Nat.le_refl _, fun w => by simp [Instr.sliceBounds], fun w cap hcap => by simp [Instr.sliceBounds]⟩
    · rename_i k m
      obtain ⟨⟨g1, g2⟩, hc⟩ := hc
      rw [hl _ _ rfl, hh0 rfl]
      exact ⟨_, _, hc, by omega, Nat.le_refl _, fun w => by simp [Instr.sliceBounds, Instr.sliceBound, asIntOf, g1, g2], fun w cap hcap => by simp [Instr.sliceBounds, Instr.sliceBound, asIntOf, g1, g2]⟩
    · rename_i k m
      obtain ⟨⟨g1, g2⟩, hc⟩ := hc
      rw [hl0 rfl, hh _ _ rfl]
      have g3 : ∀ cap : Nat, n ≤ cap → m ≤ cap := fun cap h => by omega
      exact ⟨_, _, hc, Nat.zero_le _, by omega, fun w => by simp [Instr.sliceBounds, Instr.sliceBound, asIntOf, g1, g2], fun w cap hcap => by simp [Instr.sliceBounds, Instr.sliceBound, asIntOf, g1, g3 cap hcap]⟩
    · rename_i k m k' m'
      obtain ⟨⟨g1, g2, g3⟩, hc⟩ := hc
      rw [hl _ _ rfl, hh _ _ rfl]
      have g4 : 0 ≤ m' := by omega
      have g5 : (m'.toNat : Int) = m' := Int.toNat_of_nonneg g4
      have g6 : ∀ cap : Nat, n ≤ cap → m' ≤ cap := fun cap h => by omega
      exact ⟨_, _, hc, by omega, by omega, fun w => by simp [Instr.sliceBounds, Instr.sliceBound, asIntOf, g1, g2, g3, g4, g5], fun w cap hcap => by simp [Instr.sliceBounds, Instr.sliceBound, asIntOf, g1, g2, g4, g5, g6 cap hcap]⟩
    · exact hc.elim
  have runS : ∀ {e n cap l h : Nat} {a0 : Option Addr} {lo' hi' : Option Value}, P.underlying t = some (.slice e) → 0 < P.cellsOf e → a.eval x = .slice a0 n cap → n ≤ cap → lo' = lo.map a.eval → hi' = hi.map a.eval →
      (∀ w cap, n ≤ cap → (Instr.sliceBounds true n cap lo' hi' none).run P w = .ok (l, h, cap) w) → (execOp a.eval o).run P w = .ok (.value (sliced a0 l h cap (P.cellsOf e))) w := by
    intro e n cap l h a0 lo' hi' hu h0 hv hcap e1 e2 hb
    have hue : P.elem t = e := by simp [Program.elem, hu]
    have hu' : P.underlying t = some (.slice (P.elem t)) := by rw [hue]; exact hu
    obtain ⟨ei, hei⟩ : ∃ ei, P.info? e = some ei := by
      cases hq : P.info? e with
      | some ei => exact ⟨ei, rfl⟩
      | none => simp [Program.cellsOf, hq] at h0
    have hs := run_sizeOf (P := P) w hei
    subst e1; subst e2
    simp only [execOp, hop, hv, Option.map_none, Sem.run_bind, run_sliceAt_slice (P := P) w t _ _ _ _ hu', run_slice_any (P := P) w t a0 n cap hu', hb w cap hcap, Result.andThen_ok, hue, hs, Sem.run_pure]
  have main : ∀ {v : AV} {lv hv : Option AV} {lo' hi' : Option Value}, v.rep w (Xof X0 J) J (a.eval x) → lo' = lo.map a.eval → hi' = hi.map a.eval →
      (∀ k n, lv = some (.d (.i k n)) → lo' = some (.int k n)) → (∀ k n, hv = some (.d (.i k n)) → hi' = some (.int k n)) → (lv = none → lo' = none) → (hv = none → hi' = none) →
      evCmd P cx o.dst (sliceV cx.T st t v lv hv) st K → o.wp P a w next Q := by
    intro v lv hv lo' hi' hx e1 e2 hl hh hl0 hh0 hc
    unfold sliceV at hc
    split at hc
    ·
      rename_i k
      unfold sliceOwn at hc
      split at hc
      case h_1 => exact hc.elim
      rename_i i hi
      have hti := tok t i hi
      subst hti
      split at hc
      case h_2 => exact hc.elim
      rename_i e hk
      have hu := kind_slice (P := P) (t := t) hk
      split at hc
      case h_2 => exact hc.elim
      rename_i ie hie
      have hte := tok e ie hie
      subst hte
      split at hc
      case h_2 => exact hc.elim
      rename_i sz dp xs hob
      split at hc
      case h_2 => exact hc.elim
      rename_i hbeq
      have hsz' : sz = P.cellsOf e := Nat.eq_of_beq_eq_true hbeq
      obtain ⟨h0, hc⟩ := hc
      have h0 : 0 < P.cellsOf e := h0
      obtain ⟨l, h, hK, g1, g2, _, g3⟩ := bnd hl hh hl0 hh0 hc
      simp only [AV.rep] at hx
      obtain ⟨p, hp, hx, _⟩ := hx
      obtain ⟨p', hp', q0, a0, cap, q1, q2, q3⟩ := r.mem.ob _ _ hob
      rw [hp] at hp'; cases hp'
      refine wp_val r hd hn hK (runS hu h0 (hx.trans q1) q2 e1 e2 g3) (Same.refl w) ?_
      simp only [AV.rep, sliced]
      refine ⟨p, a0, xs.length, cap, _, cap - l, hp, q1, g1, g2, q2, rfl, by omega, fun hlt => ?_⟩
      rcases q3 with ⟨_, q3, _⟩ | ⟨_, q3, _⟩
      · subst q3; simp at g2; omega
      · subst q3
        rw [if_neg (by omega), ← hsz']
        simp [Addr.add_mid]
    · rename_i hno
      clear hno
      unfold sliceC at hc
      split at hc
      case h_1 => exact hc.elim
      rename_i i hi
      have hti := tok t i hi
      subst hti
      split at hc
      ·
        rename_i s
        split at hc
        case h_2 => exact hc.elim
        rename_i hk
        have hu := kind_str (P := P) (t := t) hk
        simp only [AV.rep, D.rep] at hx
        obtain ⟨l, h, hK, g1, g2, g3, _⟩ := bnd hl hh hl0 hh0 hc
        refine wp_val r hd hn hK (u := .string ⟨((s.take h).drop l).toArray⟩) (w' := w) ?_ (Same.refl w) (by simp [AV.rep, D.rep])
        have hsz : (ByteArray.mk s.toArray).size = s.length := by simp [ByteArray.size]
        subst e1; subst e2
        simp [execOp, hop, hx.1, Instr.sliceAt, Instr.slice, run_underlying hu, hsz, g3, extract_mk]
      ·
        rename_i xs
        split at hc
        case h_2 => exact hc.elim
        rename_i e hk
        have hu := kind_slice (P := P) (t := t) hk
        split at hc
        case h_2 => exact hc.elim
        rename_i ie hie
        have hte := tok e ie hie
        subst hte
        obtain ⟨hcells, hc⟩ := hc
        simp only [AV.rep] at hx
        obtain ⟨l, h, hK, g1, g2, _, g3⟩ := bnd hl hh hl0 hh0 hc
        obtain ⟨a0, cap, hv, hcap, hr⟩ := sl_slice hx g1 g2 hcells.1
        exact wp_val r hd hn hK (runS hu hcells.2 hv hcap e1 e2 g3) (Same.refl w) hr
      ·
        rename_i k s lo0 hi0
        split at hc
        case h_2 => exact hc.elim
        rename_i e hk
        have hu := kind_slice (P := P) (t := t) hk
        split at hc
        case h_2 => exact hc.elim
        rename_i ie hie
        have hte := tok e ie hie
        subst hte
        split at hc
        case h_2 => exact hc.elim
        rename_i hbeq
        have hsz' : s = P.cellsOf e := Nat.eq_of_beq_eq_true hbeq
        obtain ⟨h0, hc⟩ := hc
        have h0 : 0 < P.cellsOf e := h0
        simp only [AV.rep] at hx
        obtain ⟨p, a0, n0, c0, a1, c1, hp, q1, q2, q3, q4, hx, q5, q6⟩ := hx
        obtain ⟨l, h, hK, g1, g2, _, g3⟩ := bnd hl hh hl0 hh0 hc
        refine wp_val r hd hn hK (runS hu h0 hx q5 e1 e2 g3) (Same.refl w) ?_
        simp only [AV.rep, sliced]
        refine ⟨p, a0, n0, c0, _, c1 - l, hp, q1, by omega, by omega, q4, by rw [show lo0 + h - (lo0 + l) = h - l by omega], by omega, fun hlt => ?_⟩
        obtain ⟨q7, q8⟩ := q6 (by omega)
        refine ⟨q7, ?_⟩
        rw [q8, if_neg (by omega), ← hsz', Nat.add_mul]
        simp [Addr.add_mid]
      · exact hc.elim
  have evi : ∀ {y : Operand} {yv : AV}, st.ev y = some yv → ∀ k n, some yv = some (AV.d (.i k n)) → some (a.eval y) = some (Value.int k n) := by
    intro y yv hy k n e
    cases e
    have := r.ev hy
    simp only [AV.rep, D.rep] at this
    rw [this.1]
  simp only [opCmd, hop] at hc
  split at hc
  case h_2 => exact hc.elim
  rename_i v hx
  split at hc
  · split at hc
    · exact main (r.ev hx) rfl rfl (by intro k n h; cases h) (by intro k n h; cases h) (fun _ => rfl) (fun _ => rfl) hc
    · rename_i h
      split at hc
      · rename_i hv hh
        exact main (r.ev hx) rfl rfl (by intro k n h; cases h) (evi hh) (fun _ => rfl) (by intro e; cases e) hc
      · exact hc.elim
  · rename_i l
    split at hc
    · rename_i lv hl
      split at hc
      · exact main (r.ev hx) rfl rfl (evi hl) (by intro k n h; cases h) (by intro e; cases e) (fun _ => rfl) hc
      · rename_i h
        split at hc
        · rename_i hv hh
          exact main (r.ev hx) rfl rfl (evi hl) (evi hh) (by intro e; cases e) (by intro e; cases e) hc
        · exact hc.elim
    · exact hc.elim
end
end Go.Pm
