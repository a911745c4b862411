/-
A walk of Go's code over values: each operation does what its command says.
-/
import Derived.Test.YtjjnmkhcdbmhoaaPmC
import Derived.ArgAppend
import Derived.Laws.Slices
import Derived.Laws.MakeOwn
import Derived.Great.BuildSlice
import Derived.DeepKeys
namespace Go.Pm
open Go
set_option linter.unusedVariables false
variable {P : Program}

theorem rep_const {w : World} {X : Nat → Prop} {J : Nat → Option Place} {v : Value} {x : AV} (h : ofConst v = some x) : x.rep w X J v := by
  unfold ofConst at h
  split at h <;> first | (cases h; simp [AV.rep, D.rep, Value.oneCell']; done) | cases h

theorem Rel.ev {X0 : Nat → Prop} {J : Nat → Option Place} {st : St} {a : Act} {w : World} (r : Rel X0 J st a w) {x : Operand} {v : AV} (h : st.ev x = some v) : v.rep w (Xof X0 J) J (a.eval x) := by
  cases x with
  | tmp t =>
    obtain ⟨u, hu, hr⟩ := r.env t v h
    show v.rep _ _ _ (a.tmps.getD t undef)
    rw [Array.getD_eq_getD_getElem?, hu]; exact hr
  | const c => exact rep_const h
  | func f => cases h; simp only [AV.rep, Act.eval]; exact ⟨#[], rfl, by simp [AV.repL]⟩
  | global g => cases h

theorem Rel.evs {X0 : Nat → Prop} {J : Nat → Option Place} {st : St} {a : Act} {w : World} (r : Rel X0 J st a w) : ∀ {xs : List Operand} {vs : List AV}, st.evs xs = some vs → AV.repL w (Xof X0 J) J vs (xs.map a.eval)
  | [], vs, h => by cases h; simp [AV.repL]
  | x :: xs, vs, h => by
    simp only [St.evs] at h
    split at h
    · rename_i v hv
      split at h
      · rename_i l hl
        cases h
        simp only [AV.repL, List.map_cons]
        exact ⟨_, _, rfl, r.ev hv, r.evs hl⟩
      · cases h
    · cases h

theorem St.put_look {st : St} {d : Nat} {v : AV} (t : Nat) : look t (st.put (some d) v).env = if d = t then some v else look t st.env := look_cons ..
theorem St.set_look {st : St} {k0 : Nat} {o : Ob} (k : Nat) : look k (st.set k0 o).obj = if k0 = k then some o else look k st.obj := look_cons ..

theorem Act.put_get {a : Act} {d t : Nat} {u : Value} (hd : d < a.tmps.size) : (a.put (some d) u).tmps[t]? = if d = t then some u else a.tmps[t]? := by
  simp only [Act.put, Array.getElem?_setIfInBounds]
  by_cases h : d = t
  · subst h; simp [hd]
  · simp [h]
theorem Act.put_size {a : Act} {dst : Option Nat} {u : Value} : (a.put dst u).tmps.size = a.tmps.size := by
  cases dst <;> simp [Act.put]
theorem Act.put_defers {a : Act} {dst : Option Nat} {u : Value} : (a.put dst u).defers = a.defers := by
  cases dst <;> simp [Act.put]

/-- The slots' part of a state. -/
theorem Rel.put {X0 : Nat → Prop} {J : Nat → Option Place} {st : St} {a : Act} {w : World} (r : Rel X0 J st a w) {dst : Option Nat} (hd : ∀ d, dst = some d → d < a.tmps.size) {v : AV} {u : Value} (hv : v.rep w (Xof X0 J) J u) :
    Rel X0 J (st.put dst v) (a.put dst u) w := by
  cases dst with
  | none => exact r
  | some d =>
    refine ⟨fun t v' h => ?_, r.mem, by rw [Act.put_defers]; exact r.defers⟩
    rw [St.put_look] at h
    rw [Act.put_get (hd d rfl)]
    by_cases e : d = t
    · rw [if_pos e] at h ⊢; cases h; exact ⟨u, rfl, hv⟩
    · rw [if_neg e] at h ⊢; exact r.env t v' h

theorem Rel.same {X0 : Nat → Prop} {J : Nat → Option Place} {st : St} {a : Act} {w w' : World} (r : Rel X0 J st a w) (h : Same w w') : Rel X0 J st a w' :=
  ⟨fun t v ht => let ⟨u, hu, hr⟩ := r.env t v ht; ⟨u, hu, AV.rep_same h hr⟩, r.mem.same h, r.defers⟩

/-- What an operation leads to. -/
def Leads (P : Program) (X0 : Nat → Prop) (J : Nat → Option Place) (a : Act) (w : World) (K : St → Prop) (next : Act → World → Prop) : Prop :=
  ∀ st' J' a' w', K st' → Rel X0 J' st' a' w' → a'.tmps.size = a.tmps.size → Step J w J' w' → next a' w'

section
variable {cx : Cx} {X0 : Nat → Prop} {J : Nat → Option Place} {st : St} {a : Act} {w : World} {o : Oper} {K : St → Prop} {next : Act → World → Prop} {Q : Exit → Act → World → Prop}

theorem wp_val (r : Rel X0 J st a w) (hd : ∀ d, o.dst = some d → d < a.tmps.size) (hn : Leads P X0 J a w K next) {v : AV} (hK : K (st.put o.dst v))
    {u : Value} {w' : World} (hrun : (execOp a.eval o).run P w = .ok (.value u) w') (hs : Same w w') (hv : v.rep w' (Xof X0 J) J u) : o.wp P a w next Q := by
  unfold Oper.wp
  rw [hrun]
  exact hn _ J _ w' hK ((r.same hs).put hd hv) Act.put_size (hs.step J)

/-! ### Operations that turn nothing -/
theorem op_move (r : Rel X0 J st a w) (hd : ∀ d, o.dst = some d → d < a.tmps.size) (hn : Leads P X0 J a w K next) {x : Operand} (hop : o.op = .move x ∨ o.op = .assign x)
    (hc : evCmd P cx o.dst (opCmd cx.T o st) st K) : o.wp P a w next Q := by
  have : evCmd P cx o.dst (match st.ev x with | some v => .val v | none => .stuck) st K := by
    rcases hop with h | h <;> (simp only [opCmd, h] at hc; exact hc)
  cases hx : st.ev x with
  | none => rw [hx] at this; exact this.elim
  | some v =>
    rw [hx] at this
    refine wp_val r hd hn this (u := a.eval x) (w' := w) ?_ (Same.refl w) (r.ev hx)
    rcases hop with h | h <;> simp [execOp, h]

theorem op_pick (r : Rel X0 J st a w) (hd : ∀ d, o.dst = some d → d < a.tmps.size) (hn : Leads P X0 J a w K next) {c x y : Operand} (hop : o.op = .pick c x y)
    (hc : evCmd P cx o.dst (opCmd cx.T o st) st K) : o.wp P a w next Q := by
  simp only [opCmd, hop] at hc
  split at hc
  · rename_i t ht
    have hb : a.eval c = .bool t := by have := r.ev ht; simp only [AV.rep, D.rep] at this; exact this.1
    cases t
    · simp only at hc
      cases hx : st.ev y with
      | none => rw [hx] at hc; exact hc.elim
      | some v =>
        rw [hx] at hc
        exact wp_val r hd hn hc (u := a.eval y) (w' := w) (by simp [execOp, hop, hb, asBool]) (Same.refl w) (r.ev hx)
    · simp only at hc
      cases hx : st.ev x with
      | none => rw [hx] at hc; exact hc.elim
      | some v =>
        rw [hx] at hc
        exact wp_val r hd hn hc (u := a.eval x) (w' := w) (by simp [execOp, hop, hb, asBool]) (Same.refl w) (r.ev hx)
  · exact hc.elim

theorem op_nilCheck (r : Rel X0 J st a w) (hd : ∀ d, o.dst = some d → d < a.tmps.size) (hn : Leads P X0 J a w K next) {x : Operand} (hop : o.op = .nilCheck x)
    (hc : evCmd P cx o.dst (opCmd cx.T o st) st K) : o.wp P a w next Q := by
  simp only [opCmd, hop] at hc
  split at hc
  · rename_i k off hx
    have hv := r.ev hx
    have hv' := hv
    simp only [AV.rep] at hv; obtain ⟨p, _, hv⟩ := hv
    exact wp_val r hd hn hc (u := a.eval x) (w' := w) (by simp [execOp, hop, hv]) (Same.refl w) hv'
  · rename_i k s j off hx
    have hv := r.ev hx
    have hv' := hv
    simp only [AV.rep] at hv; obtain ⟨p, _, hv⟩ := hv
    exact wp_val r hd hn hc (u := a.eval x) (w' := w) (by simp [execOp, hop, hv]) (Same.refl w) hv'
  · rename_i cs hx
    have hv := r.ev hx
    have hv' := hv
    simp only [AV.rep] at hv; obtain ⟨b, off, vs, hv, _⟩ := hv
    exact wp_val r hd hn hc (u := a.eval x) (w' := w) (by simp [execOp, hop, hv]) (Same.refl w) hv'
  · rename_i g caps hx
    have hv := r.ev hx
    have hv' := hv
    simp only [AV.rep] at hv; obtain ⟨cs, hv, _⟩ := hv
    exact wp_val r hd hn hc (u := a.eval x) (w' := w) (by simp [execOp, hop, hv]) (Same.refl w) hv'
  · exact hc.elim

theorem op_extract (r : Rel X0 J st a w) (hd : ∀ d, o.dst = some d → d < a.tmps.size) (hn : Leads P X0 J a w K next) {x : Operand} {ix : Nat} (hop : o.op = .extract x ix)
    (hc : evCmd P cx o.dst (opCmd cx.T o st) st K) : o.wp P a w next Q := by
  simp only [opCmd, hop] at hc
  split at hc
  · rename_i vs hx
    split at hc
    · rename_i v hv
      have hr := r.ev hx
      simp only [AV.rep] at hr
      obtain ⟨us, hu, hr⟩ := hr
      have key : ∀ (l : List AV) (us : List Value) (i : Nat), AV.repL w (Xof X0 J) J l us → l[i]? = some v → ∃ u, us[i]? = some u ∧ v.rep w (Xof X0 J) J u := by
        intro l
        induction l with
        | nil => intro us i _ hi; simp at hi
        | cons y l ih =>
          intro us i hl hi
          simp only [AV.repL] at hl
          obtain ⟨u, us', rfl, h1, h2⟩ := hl
          cases i with
          | zero => simp at hi; subst hi; exact ⟨u, rfl, h1⟩
          | succ i => exact ih us' i h2 (by simpa using hi)
      obtain ⟨u, hui, hvu⟩ := key vs us.toList ix hr hv
      refine wp_val r hd hn hc (u := u) (w' := w) ?_ (Same.refl w) hvu
      have : us[ix]? = some u := by simpa using hui
      simp [execOp, hop, hu, Instr.extract, this]
    · exact hc.elim
  · exact hc.elim

theorem op_makeFunc (r : Rel X0 J st a w) (hd : ∀ d, o.dst = some d → d < a.tmps.size) (hn : Leads P X0 J a w K next) {fn : Fn} {fi ca : Array Operand} (hop : o.op = .makeFunc fn fi ca)
    (hc : evCmd P cx o.dst (opCmd cx.T o st) st K) : o.wp P a w next Q := by
  simp only [opCmd, hop] at hc
  split at hc
  · rename_i g
    split at hc
    · rename_i hf
      split at hc
      · rename_i vs hvs
        have hr := r.evs hvs
        refine wp_val r hd hn hc (u := .func (.func g) #[] (ca.map a.eval)) (w' := w) ?_ (Same.refl w) ?_
        · have : fi = #[] := by simpa using hf
          subst this
          simp [execOp, hop, Instr.makeFunc]
        · simp only [AV.rep]; exact ⟨_, rfl, by simpa using hr⟩
      · exact hc.elim
    · exact hc.elim
  · exact hc.elim

theorem op_unOp (r : Rel X0 J st a w) (hd : ∀ d, o.dst = some d → d < a.tmps.size) (hn : Leads P X0 J a w K next) {op : UnOp} {t : TypeId} {x : Operand} (hop : o.op = .unOp op t x)
    (hc : evCmd P cx o.dst (opCmd cx.T o st) st K) : o.wp P a w next Q := by
  simp only [opCmd, hop] at hc
  split at hc
  · split at hc
    · rename_i t hx
      have hv := r.ev hx
      simp only [AV.rep, D.rep] at hv
      exact wp_val r hd hn hc (u := .bool (!t)) (w' := w) (by simp [execOp, hop, hv.1, Op.unary]) (Same.refl w) (by simp [AV.rep, D.rep])
    · exact hc.elim
  · split at hc
    · rename_i k n hx
      have hv := r.ev hx
      simp only [AV.rep, D.rep] at hv
      exact wp_val r hd hn hc (u := .int k (k.wrap (0 - n))) (w' := w) (by simp [execOp, hop, hv.1, Op.unary, Op.intArith]) (Same.refl w) (by simp [AV.rep, D.rep])
    · exact hc.elim
  · split at hc
    · rename_i k n hx
      have hv := r.ev hx
      simp only [AV.rep, D.rep] at hv
      refine wp_val r hd hn hc (u := .int k (k.wrap (BitVec.ofInt k.bits (if k.signed then -1 else k.max) ^^^ BitVec.ofInt k.bits n).toNat)) (w' := w) ?_ (Same.refl w) (by simp [AV.rep, D.rep, bitD])
      simp [execOp, hop, hv.1, Op.unary, Op.intBits]
    · exact hc.elim
  · exact hc.elim

/-! ### What the table tells -/
theorem kind_slice {t e : TypeId} (h : kindOf P t = .slice e) : P.underlying t = some (.slice e) := by
  unfold kindOf at h; split at h <;> (try split at h) <;> simp_all
theorem kind_str {t : TypeId} (h : kindOf P t = .str) : P.underlying t = some .string := by
  unfold kindOf at h; split at h <;> (try split at h) <;> simp_all
theorem kind_bool {t : TypeId} (h : kindOf P t = .bool) : P.underlying t = some .bool := by
  unfold kindOf at h; split at h <;> (try split at h) <;> simp_all
theorem kind_int {t : TypeId} {k : IntKind} (h : kindOf P t = .int k) : P.underlying t = some (.int k) := by
  unfold kindOf at h; split at h <;> (try split at h) <;> simp_all
theorem kind_ptr {t e : TypeId} (h : kindOf P t = .ptr e) : P.underlying t = some (.pointer e) := by
  unfold kindOf at h; split at h <;> (try split at h) <;> simp_all
theorem kind_struct' {t : TypeId} {l : List (Nat × Nat × Nat)} (h : kindOf P t = .struct l) : ∃ fs, P.underlying t = some (.struct fs) ∧ (l = fs.toList.map fun f => (f.offset, f.type, P.cellsOf f.type)) ∧ ∀ f ∈ fs.toList, (P.info? f.type).isSome = true := by
  unfold kindOf at h
  split at h <;> try (cases h; done)
  rename_i fs hu
  split at h
  · rename_i ha
    cases h
    exact ⟨fs, hu, rfl, fun f hf => List.all_eq_true.1 ha f hf⟩
  · cases h
theorem kind_struct {t : TypeId} {l : List (Nat × Nat × Nat)} (h : kindOf P t = .struct l) : ∃ fs, P.underlying t = some (.struct fs) ∧ l = fs.toList.map fun f => (f.offset, f.type, P.cellsOf f.type) := by
  obtain ⟨fs, h1, h2, _⟩ := kind_struct' h
  exact ⟨fs, h1, h2⟩
theorem und_info {t : TypeId} {d : TypeDesc} (h : P.underlying t = some d) : ∃ i, P.info? t = some i := by
  unfold Program.underlying at h
  cases hi : P.info? t with
  | none => rw [hi] at h; cases h
  | some i => exact ⟨i, rfl⟩
theorem und_size {t : TypeId} {d : TypeDesc} (h : P.underlying t = some d) : (P.info? t).map (·.size) = some (P.cellsOf t) := by
  obtain ⟨i, hi⟩ := und_info h
  simp [Program.cellsOf, hi]
theorem run_size {t : TypeId} {d : TypeDesc} (h : P.underlying t = some d) (w : World) : (sizeOf t).run P w = .ok (P.cellsOf t) w := by
  obtain ⟨i, hi⟩ := und_info h
  exact run_sizeOf w hi

theorem cells_one {v : Value} (h : v.oneCell' = true) : v.cells = #[v] := by cases v <;> first | rfl | simp [Value.oneCell'] at h
theorem cells_rep {w : World} {X : Nat → Prop} {J : Nat → Option Place} {x : AV} {v : Value} (h : x.rep w X J v) : AV.repL w X J x.cells v.cells.toList := by
  have key : ∀ (cs : List D) (vs : List Value), repL w X cs vs [] → AV.repL w X J (cs.map .d) vs := by
    intro cs
    induction cs with
    | nil => intro vs h; simp only [repL] at h; simp [AV.repL, h.1]
    | cons c cs ih =>
      intro vs h
      simp only [repL] at h
      obtain ⟨v, vs', b1, b2, rfl, hb, h1, h2⟩ := h
      have := List.append_eq_nil_iff.1 hb.symm
      rw [this.1] at h1; rw [this.2] at h2
      simp only [List.map_cons, AV.repL, AV.rep]
      exact ⟨v, vs', rfl, h1, ih _ h2⟩
  have one : ∀ x : AV, x.rep w X J v → v.cells = #[v] → AV.repL w X J [x] v.cells.toList := by
    intro x hx hv
    rw [hv]
    simp only [AV.repL]
    exact ⟨v, [], rfl, hx, rfl⟩
  cases x with
  | d x =>
    cases x with
    | agg cs => simp only [AV.rep, D.rep] at h; obtain ⟨vs, rfl, hr⟩ := h; exact key cs _ hr
    | b x => exact one _ h (by simp only [AV.rep, D.rep] at h; rw [h.1]; rfl)
    | i k n => exact one _ h (by simp only [AV.rep, D.rep] at h; rw [h.1]; rfl)
    | s l => exact one _ h (by simp only [AV.rep, D.rep] at h; rw [h.1]; rfl)
    | sl u xs => exact one _ h (by simp only [AV.rep, D.rep] at h; obtain ⟨_, _, a, c, hv, _⟩ := h; rw [hv]; rfl)
    | os sz dp xs => exact one _ h (by simp only [AV.rep, D.rep] at h; obtain ⟨_, a, c, hv, _⟩ := h; rw [hv]; rfl)
    | junk => exact one _ h (by simp only [AV.rep, D.rep] at h; cases v <;> first | rfl | simp [Value.oneCell'] at h)
  | c u => exact one _ h (by simp only [AV.rep] at h; obtain ⟨rfl, h1⟩ := h; cases v <;> first | rfl | simp [Value.oneCell'] at h1)
  | snil => exact one _ h (by simp only [AV.rep] at h; rw [h]; rfl)
  | agg cs => simp only [AV.rep] at h; obtain ⟨vs, rfl, hr⟩ := h; exact hr
  | tup cs => exact one _ h (by simp only [AV.rep] at h; obtain ⟨vs, rfl, _⟩ := h; rfl)
  | ptr k off => exact one _ h (by simp only [AV.rep] at h; obtain ⟨p, _, hv⟩ := h; rw [hv]; rfl)
  | eptr k sz i off => exact one _ h (by simp only [AV.rep] at h; obtain ⟨p, _, hv⟩ := h; rw [hv]; rfl)
  | own k => exact one _ h (by simp only [AV.rep] at h; obtain ⟨p, _, hv, h1⟩ := h; rw [← hv] at h1; exact cells_one h1)
  | win k sz lo hi => exact one _ h (by simp only [AV.rep] at h; obtain ⟨p, a0, n0, c0, a, c, _, _, _, _, _, hv, _⟩ := h; rw [hv]; rfl)
  | rd cs => exact one _ h (by simp only [AV.rep] at h; obtain ⟨b, off, vs, hv, _⟩ := h; rw [hv]; rfl)
  | fn g caps => exact one _ h (by simp only [AV.rep] at h; obtain ⟨cs, hv, _⟩ := h; rw [hv]; rfl)
  | bot => exact one _ h (by simp only [AV.rep] at h; cases v <;> first | rfl | simp [Value.oneCell'] at h)

theorem D.cells_rep {w : World} {X : Nat → Prop} {x : D} {v : Value} {bs : List Nat} (h : x.rep w X v bs) : repL w X x.cells v.cells.toList bs := by
  cases x with
  | agg cs => simp only [D.rep] at h; obtain ⟨vs, rfl, hr⟩ := h; exact hr
  | b x => simp only [D.rep] at h; obtain ⟨rfl, rfl⟩ := h; simp only [D.cells, repL, Value.cells]; exact ⟨_, [], [], [], rfl, rfl, by simp [D.rep], rfl, rfl⟩
  | i k n => simp only [D.rep] at h; obtain ⟨rfl, rfl⟩ := h; simp only [D.cells, repL, Value.cells]; exact ⟨_, [], [], [], rfl, rfl, by simp [D.rep], rfl, rfl⟩
  | s l => simp only [D.rep] at h; obtain ⟨rfl, rfl⟩ := h; simp only [D.cells, repL, Value.cells]; exact ⟨_, [], [], [], rfl, rfl, by simp [D.rep], rfl, rfl⟩
  | sl u xs =>
    have h' := h
    simp only [D.rep] at h
    obtain ⟨_, _, a, c, hv, _⟩ := h
    subst hv
    simp only [D.cells, repL, Value.cells]
    exact ⟨_, [], bs, [], rfl, by simp, h', rfl, rfl⟩
  | os sz dp xs =>
    have h' := h
    simp only [D.rep] at h
    obtain ⟨_, a, c, hv, _⟩ := h
    subst hv
    simp only [D.cells, repL, Value.cells]
    exact ⟨_, [], bs, [], rfl, by simp, h', rfl, rfl⟩
  | junk =>
    have h' := h
    simp only [D.rep] at h
    rw [cells_one h.1]
    simp only [D.cells, repL]
    exact ⟨_, [], bs, [], rfl, by simp, h', rfl, rfl⟩

theorem AV.repL_length {w : World} {X : Nat → Prop} {J : Nat → Option Place} : ∀ {xs : List AV} {vs : List Value}, AV.repL w X J xs vs → xs.length = vs.length
  | [], vs, h => by simp only [AV.repL] at h; rw [h]; rfl
  | x :: xs, vs, h => by
    simp only [AV.repL] at h
    obtain ⟨v, vs', rfl, _, h2⟩ := h
    simp [AV.repL_length h2]
theorem repL_length {w : World} {X : Nat → Prop} : ∀ {xs : List D} {vs : List Value} {bs : List Nat}, repL w X xs vs bs → xs.length = vs.length
  | [], vs, bs, h => by simp only [repL] at h; rw [h.1]; rfl
  | x :: xs, vs, bs, h => by
    simp only [repL] at h
    obtain ⟨v, vs', b1, b2, rfl, _, _, h2⟩ := h
    simp [repL_length h2]
theorem drop_some {α : Type} : ∀ {n : Nat} {l r : List α}, drop n l = some r → l.drop n = r ∧ n ≤ l.length
  | 0, l, r, h => by simp only [drop] at h; cases h; simp
  | n + 1, x :: l, r, h => by simp only [drop] at h; have := drop_some h; simp [this]
  | n + 1, [], r, h => by cases h
theorem take_some {α : Type} : ∀ {n : Nat} {l r : List α}, take n l = some r → l.take n = r ∧ n ≤ l.length
  | 0, l, r, h => by simp only [take] at h; cases h; simp
  | n + 1, x :: l, r, h => by
    simp only [take] at h
    split at h
    · rename_i r' hr; cases h; have := take_some hr; simp [this]
    · cases h
  | n + 1, [], r, h => by cases h
theorem AV.repL_drop {w : World} {X : Nat → Prop} {J : Nat → Option Place} : ∀ {n : Nat} {xs : List AV} {vs : List Value}, AV.repL w X J xs vs → AV.repL w X J (xs.drop n) (vs.drop n)
  | 0, xs, vs, h => by simpa using h
  | n + 1, [], vs, h => by simp only [AV.repL] at h; rw [h]; simp [AV.repL]
  | n + 1, x :: xs, vs, h => by
    simp only [AV.repL] at h
    obtain ⟨v, vs', rfl, _, h2⟩ := h
    simpa using AV.repL_drop (n := n) h2
theorem AV.repL_take {w : World} {X : Nat → Prop} {J : Nat → Option Place} : ∀ {n : Nat} {xs : List AV} {vs : List Value}, AV.repL w X J xs vs → AV.repL w X J (xs.take n) (vs.take n)
  | 0, xs, vs, h => by simp [AV.repL]
  | n + 1, [], vs, h => by simp only [AV.repL] at h; rw [h]; simp [AV.repL]
  | n + 1, x :: xs, vs, h => by
    simp only [AV.repL] at h
    obtain ⟨v, vs', rfl, h1, h2⟩ := h
    simp only [List.take_succ_cons, AV.repL]
    exact ⟨v, _, rfl, h1, AV.repL_take h2⟩
theorem repL_drop {w : World} {X : Nat → Prop} : ∀ {n : Nat} {xs : List D} {vs : List Value}, repL w X xs vs [] → repL w X (xs.drop n) (vs.drop n) []
  | 0, xs, vs, h => by simpa using h
  | n + 1, [], vs, h => by simp only [repL] at h; rw [h.1]; simp [repL]
  | n + 1, x :: xs, vs, h => by
    simp only [repL] at h
    obtain ⟨v, vs', b1, b2, rfl, hb, _, h2⟩ := h
    rw [(List.append_eq_nil_iff.1 hb.symm).2] at h2
    simpa using repL_drop (n := n) h2
theorem repL_take {w : World} {X : Nat → Prop} : ∀ {n : Nat} {xs : List D} {vs : List Value}, repL w X xs vs [] → repL w X (xs.take n) (vs.take n) []
  | 0, xs, vs, h => by simp [repL]
  | n + 1, [], vs, h => by simp only [repL] at h; rw [h.1]; simp [repL]
  | n + 1, x :: xs, vs, h => by
    simp only [repL] at h
    obtain ⟨v, vs', b1, b2, rfl, hb, h1, h2⟩ := h
    obtain ⟨rfl, rfl⟩ := List.append_eq_nil_iff.1 hb.symm
    simp only [List.take_succ_cons, repL]
    exact ⟨v, _, [], [], rfl, rfl, h1, repL_take h2⟩

theorem mkAgg_rep {w : World} {X : Nat → Prop} {J : Nat → Option Place} {cs : List AV} {vs : Array Value} (h : AV.repL w X J cs vs.toList) : (mkAgg cs).rep w X J (.agg vs) := by
  have key : ∀ (cs : List AV) (l : List D) (vs : List Value), allD cs = some l → AV.repL w X J cs vs → repL w X l vs [] := by
    intro cs
    induction cs with
    | nil => intro l vs h hr; simp only [allD] at h; cases h; simp only [AV.repL] at hr; simp [repL, hr]
    | cons c cs ih =>
      intro l vs h hr
      cases c with
      | d x =>
        simp only [allD] at h
        split at h
        · rename_i l' hl; cases h
          simp only [AV.repL, AV.rep] at hr
          obtain ⟨v, vs', rfl, h1, h2⟩ := hr
          simp only [repL]
          exact ⟨v, vs', [], [], rfl, rfl, h1, ih _ _ hl h2⟩
        · cases h
      | _ => simp [allD] at h
  unfold mkAgg
  split
  · rename_i l hl
    simp only [AV.rep, D.rep]
    exact ⟨vs, rfl, key _ _ _ hl h⟩
  · simp only [AV.rep]; exact ⟨vs, rfl, h⟩

/-- A part of a variable, or of a struct's cells, as a value of its type. -/
theorem loadAs_ok {w : World} {X : Nat → Prop} {J : Nat → Option Place} {t : TypeId} {cells : List AV} {vs : List Value} (hr : AV.repL w X J cells vs) {dst : Option Nat}
    (hc : evCmd P cx dst (loadAs (tdOf P t) cells) st K) : ∃ v u, K (st.put dst v) ∧ v.rep w X J u ∧
      ((∃ fs, P.underlying t = some (.struct fs) ∧ u = .agg (vs.take (P.cellsOf t)).toArray ∧ P.cellsOf t ≤ vs.length) ∨ (∃ d, P.underlying t = some d ∧ d.isRow = false ∧ vs[0]? = some u)) := by
  have one : ∀ {d}, P.underlying t = some d → d.isRow = false → evCmd P cx dst (headC cells) st K →
      ∃ v u, K (st.put dst v) ∧ v.rep w X J u ∧ ((∃ fs, P.underlying t = some (.struct fs) ∧ u = .agg (vs.take (P.cellsOf t)).toArray ∧ P.cellsOf t ≤ vs.length) ∨ (∃ d, P.underlying t = some d ∧ d.isRow = false ∧ vs[0]? = some u)) := by
    intro d hu hd hc
    cases cells with
    | nil => exact hc.elim
    | cons v l =>
      simp only [AV.repL] at hr
      obtain ⟨u, vs', rfl, h1, _⟩ := hr
      exact ⟨v, u, hc, h1, .inr ⟨d, hu, hd, rfl⟩⟩
  unfold loadAs at hc
  split at hc
  · rename_i l hk
    obtain ⟨fs, hu, _⟩ := kind_struct (P := P) (t := t) hk
    split at hc
    · rename_i l' hl
      obtain ⟨rfl, hle⟩ := take_some hl
      refine ⟨_, .agg (vs.take (P.cellsOf t)).toArray, hc, mkAgg_rep (by simpa [tdOf] using AV.repL_take (n := P.cellsOf t) hr), .inl ⟨fs, hu, rfl, ?_⟩⟩
      rw [← AV.repL_length hr]; exact hle
    · exact hc.elim
  · exact hc.elim
  · rename_i h1 h2
    cases hk : kindOf P t with
    | bool => exact one (kind_bool hk) rfl hc
    | int k => exact one (kind_int hk) rfl hc
    | str => exact one (kind_str hk) rfl hc
    | slice e => exact one (kind_slice hk) rfl hc
    | struct l => exact absurd hk (h1 l)
    | ptr e => exact one (kind_ptr hk) rfl hc
    | other => exact absurd hk h2
theorem loadD_ok {w : World} {X : Nat → Prop} {J : Nat → Option Place} {t : TypeId} {cells : List D} {vs : List Value} (hr : repL w X cells vs []) {dst : Option Nat}
    (hc : evCmd P cx dst (loadD (tdOf P t) cells) st K) : ∃ v u, K (st.put dst v) ∧ v.rep w X J u ∧
      ((∃ fs, P.underlying t = some (.struct fs) ∧ u = .agg (vs.take (P.cellsOf t)).toArray ∧ P.cellsOf t ≤ vs.length) ∨ (∃ d, P.underlying t = some d ∧ d.isRow = false ∧ vs[0]? = some u)) := by
  have one : ∀ {d}, P.underlying t = some d → d.isRow = false → evCmd P cx dst (headD cells) st K →
      ∃ v u, K (st.put dst v) ∧ v.rep w X J u ∧ ((∃ fs, P.underlying t = some (.struct fs) ∧ u = .agg (vs.take (P.cellsOf t)).toArray ∧ P.cellsOf t ≤ vs.length) ∨ (∃ d, P.underlying t = some d ∧ d.isRow = false ∧ vs[0]? = some u)) := by
    intro d hu hd hc
    cases cells with
    | nil => exact hc.elim
    | cons v l =>
      simp only [repL] at hr
      obtain ⟨u, vs', b1, b2, rfl, hb, h1, _⟩ := hr
      rw [(List.append_eq_nil_iff.1 hb.symm).1] at h1
      exact ⟨.d v, u, hc, h1, .inr ⟨d, hu, hd, rfl⟩⟩
  unfold loadD at hc
  split at hc
  · rename_i l hk
    obtain ⟨fs, hu, _⟩ := kind_struct (P := P) (t := t) hk
    split at hc
    · rename_i l' hl
      obtain ⟨rfl, hle⟩ := take_some hl
      refine ⟨_, .agg (vs.take (P.cellsOf t)).toArray, hc, ?_, .inl ⟨fs, hu, rfl, ?_⟩⟩
      · simp only [AV.rep, D.rep]; exact ⟨_, rfl, by simpa [tdOf] using repL_take (n := P.cellsOf t) hr⟩
      · rw [← repL_length hr]; exact hle
    · exact hc.elim
  · exact hc.elim
  · rename_i h1 h2
    cases hk : kindOf P t with
    | bool => exact one (kind_bool hk) rfl hc
    | int k => exact one (kind_int hk) rfl hc
    | str => exact one (kind_str hk) rfl hc
    | slice e => exact one (kind_slice hk) rfl hc
    | struct l => exact absurd hk (h1 l)
    | ptr e => exact one (kind_ptr hk) rfl hc
    | other => exact absurd hk h2
theorem rangeAt_drop {b off n : Nat} {vs : List Value} (h : w.rangeAt b off vs) : w.rangeAt b (off + n) (vs.drop n) := by
  intro j v hv
  rw [List.getElem?_drop] at hv
  rw [Nat.add_assoc]; exact h _ _ hv
theorem rangeAt_take {b off n : Nat} {vs : List Value} (h : w.rangeAt b off vs) : w.rangeAt b off (vs.take n) := by
  intro j v hv
  rw [List.getElem?_take] at hv
  split at hv
  · exact h _ _ hv
  · cases hv

theorem run_loadAt_of {t : TypeId} {b off : Nat} {vs : List Value} (hc : w.rangeAt b off vs) {u : Value}
    (h : (∃ fs, P.underlying t = some (.struct fs) ∧ u = .agg (vs.take (P.cellsOf t)).toArray ∧ P.cellsOf t ≤ vs.length) ∨ (∃ d, P.underlying t = some d ∧ d.isRow = false ∧ vs[0]? = some u)) :
    (Instr.loadAt t (.pointer (some ⟨b, off, none⟩))).run P w = .ok u w := by
  rcases h with ⟨fs, hu, rfl, hle⟩ | ⟨d, hu, hd, hv⟩
  · refine run_loadAt_mid w b off t (vs.take (P.cellsOf t)) (.struct fs) (rangeAt_take hc) hu rfl ?_
    rw [und_size hu, List.length_take, Nat.min_eq_left hle]
  · have hagg : (isAgg t).run P w = .ok false w := by
      unfold isAgg
      rw [Sem.run_bind, run_underlying hu w]
      cases d <;> simp_all
    have := hc 0 u hv
    simp only [Nat.add_zero] at this
    simp [Instr.loadAt, Instr.sureAddr, loadVar, hagg, run_load, this]
end
end Go.Pm
