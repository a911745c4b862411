/-
A walk of Go's code over values: operations that make memory, or write it.
-/
import Derived.Test.YtbenanocioeglaaPmF
namespace Go.Pm
open Go
set_option linter.unusedVariables false
variable {P : Program}
section
variable {cx : Cx} {X0 : Nat → Prop} {J : Nat → Option Place} {st : St} {a : Act} {w : World} {o : Oper} {K : St → Prop} {next : Act → World → Prop} {Q : Exit → Act → World → Prop}

/-- The cells of an array, set one by one. -/
def putAt (cs : Array Value) : Nat → List Value → Array Value
  | _, [] => cs
  | o, v :: r => putAt (cs.setIfInBounds o v) (o + 1) r
theorem putAt_size : ∀ (vs : List Value) (cs : Array Value) (o : Nat), (putAt cs o vs).size = cs.size
  | [], cs, o => rfl
  | v :: r, cs, o => by rw [putAt, putAt_size r]; simp
theorem setCells_heap {b : Nat} {t : TypeId} {fr : Nat × Nat} : ∀ (vs : List Value) (o : Nat) (w : World) (cs : Array Value), w.heap[b]? = some (.cells cs t fr) →
    (w.setCells b o vs).heap[b]? = some (.cells (putAt cs o vs) t fr)
  | [], o, w, cs, h => by simpa [World.setCells, putAt] using h
  | v :: r, o, w, cs, h => by
    rw [World.setCells, putAt]
    refine setCells_heap r (o + 1) _ _ ?_
    simp only [World.setCell, Array.getElem?_modify, if_true, h, Option.map_some]
    rfl
theorem setCells_other {b : Nat} : ∀ (vs : List Value) (o : Nat) (w : World) (c : Nat), c ≠ b → (w.setCells b o vs).heap[c]? = w.heap[c]?
  | [], o, w, c, h => by simp [World.setCells]
  | v :: r, o, w, c, h => by rw [World.setCells, setCells_other r (o + 1) _ c h, RowKit.Below.heap_setCell _ _ _ _ h]
theorem setCells_kept {b : Nat} : ∀ (vs : List Value) (o : Nat) (w : World), (w.setCells b o vs).os = w.os ∧ (w.setCells b o vs).tape = w.tape ∧ (w.setCells b o vs).output = w.output ∧ (w.setCells b o vs).heap.size = w.heap.size
  | [], o, w => by simp [World.setCells]
  | v :: r, o, w => by
    rw [World.setCells]
    obtain ⟨h1, h2, h3, h4⟩ := setCells_kept r (o + 1) (w.setCell ⟨b, o, none⟩ v)
    exact ⟨h1, h2, h3, by rw [h4]; simp [World.setCell]⟩
theorem kept_setCells (b o : Nat) (vs : List Value) (w : World) : Kept (· = b) w (w.setCells b o vs) := by
  obtain ⟨h1, h2, h3, h4⟩ := setCells_kept (b := b) vs o w
  exact ⟨h1, h2, h3, Nat.le_of_eq h4.symm, fun c _ hc => setCells_other vs o w c hc⟩

theorem putAt_toList : ∀ (vs : List Value) (cs : Array Value) (o : Nat), (putAt cs o vs).toList = (cs.toList.take o ++ vs.take (cs.size - o)) ++ cs.toList.drop (o + vs.length)
  | [], cs, o => by simp [putAt]
  | v :: r, cs, o => by
    rw [putAt, putAt_toList r]
    simp only [Array.toList_setIfInBounds, Array.size_setIfInBounds, List.length_cons]
    by_cases h : o < cs.size
    · have e1 : (cs.toList.set o v).take (o + 1) = cs.toList.take o ++ [v] := by
        rw [List.take_set, List.take_succ_eq_append_getElem (by simpa using h), List.set_append_right _ _ (by rw [List.length_take]; omega)]
        simp only [List.length_take, Array.length_toList, Nat.min_eq_left (Nat.le_of_lt h), Nat.sub_self, List.set_cons_zero]
      have e2 : (cs.toList.set o v).drop (o + 1 + r.length) = cs.toList.drop (o + (r.length + 1)) := by
        rw [List.drop_set_of_lt (by omega)]; congr 1; omega
      have e3 : cs.size - o = (cs.size - (o + 1)) + 1 := by omega
      rw [e1, e2, e3, List.take_succ_cons]; simp
    · have e0 : cs.toList.set o v = cs.toList := List.set_eq_of_length_le (by simpa using Nat.le_of_not_lt h)
      rw [e0]
      have e1 : cs.size - o = 0 := by omega
      have e2 : cs.size - (o + 1) = 0 := by omega
      rw [e1, e2]
      simp only [List.take_zero, List.append_nil]
      rw [List.take_of_length_le (by simp; omega), List.take_of_length_le (by simp; omega), List.drop_of_length_le (by simp; omega), List.drop_of_length_le (by simp; omega)]

theorem setCells_some {α : Type} : ∀ {o : Nat} {vs l r : List α}, setCells o vs l = some r → r = l.take o ++ vs ++ l.drop (o + vs.length) ∧ (vs = [] ∨ o + vs.length ≤ l.length)
  | o, [], l, r, h => by
    have : r = l := by cases o <;> cases l <;> (simp only [setCells, Option.some.injEq] at h; exact h.symm)
    subst this; simp
  | 0, v :: vs, x :: l, r, h => by
    simp only [setCells] at h
    split at h
    · rename_i r' hr
      cases h
      obtain ⟨e, hl⟩ := setCells_some hr
      refine ⟨by rw [e]; simp, .inr ?_⟩
      rcases hl with rfl | hl
      · simp
      · simp only [List.length_cons] at hl ⊢; omega
    · cases h
  | 0, v :: vs, [], r, h => by simp [setCells] at h
  | o + 1, v :: vs, x :: l, r, h => by
    simp only [setCells] at h
    split at h
    · rename_i r' hr
      cases h
      obtain ⟨e, hl⟩ := setCells_some hr
      refine ⟨by rw [e, show o + 1 + (v :: vs).length = (o + (v :: vs).length) + 1 by omega]; simp only [List.take_succ_cons, List.cons_append, List.drop_succ_cons], .inr ?_⟩
      rcases hl with hl | hl
      · cases hl
      · simp only [List.length_cons] at hl ⊢; omega
    · cases h
  | o + 1, v :: vs, [], r, h => by simp [setCells] at h

theorem AV.repL_append {w : World} {X : Nat → Prop} {J : Nat → Option Place} : ∀ {xs ys : List AV} {us vs : List Value}, AV.repL w X J xs us → AV.repL w X J ys vs → AV.repL w X J (xs ++ ys) (us ++ vs)
  | [], ys, us, vs, h1, h2 => by simp only [AV.repL] at h1; subst h1; simpa using h2
  | x :: xs, ys, us, vs, h1, h2 => by
    simp only [AV.repL] at h1
    obtain ⟨u, us', rfl, g1, g2⟩ := h1
    simp only [List.cons_append, AV.repL]
    exact ⟨u, _, rfl, g1, AV.repL_append g2 h2⟩

theorem oneOf {w : World} {X : Nat → Prop} {J : Nat → Option Place} {x : AV} {v : Value} (h : x.rep w X J v) (h1 : x.one = true) : v.oneCell' = true := by
  cases x with
  | d x =>
    cases x with
    | agg cs => cases h1
    | b x => simp only [AV.rep, D.rep] at h; rw [h.1]; rfl
    | i k n => simp only [AV.rep, D.rep] at h; rw [h.1]; rfl
    | s l => simp only [AV.rep, D.rep] at h; rw [h.1]; rfl
    | sl u xs => simp only [AV.rep, D.rep] at h; obtain ⟨a, c, hv, _⟩ := h; rw [hv]; rfl
  | c u => simp only [AV.rep] at h; rw [h.1]; exact h.2
  | snil => simp only [AV.rep] at h; rw [h]; rfl
  | agg cs => cases h1
  | tup cs => cases h1
  | ptr k off => simp only [AV.rep] at h; obtain ⟨p, _, hv⟩ := h; rw [hv]; rfl
  | eptr k sz i off => simp only [AV.rep] at h; obtain ⟨p, _, hv⟩ := h; rw [hv]; rfl
  | own k => simp only [AV.rep] at h; obtain ⟨p, _, hv⟩ := h; rw [hv]; rfl
  | rd cs => simp only [AV.rep] at h; obtain ⟨b, off, vs, hv, _⟩ := h; rw [hv]; rfl
  | fn g caps => simp only [AV.rep] at h; obtain ⟨cs, hv, _⟩ := h; rw [hv]; rfl
  | bot => simp only [AV.rep] at h; exact h
theorem oneAll {w : World} {X : Nat → Prop} {J : Nat → Option Place} : ∀ {xs : List AV} {vs : List Value}, AV.repL w X J xs vs → allOne xs = true → ∀ v ∈ vs, v.oneCell' = true
  | [], vs, h, _ => by simp only [AV.repL] at h; subst h; simp
  | x :: xs, vs, h, h1 => by
    simp only [AV.repL] at h
    obtain ⟨v, vs', rfl, g1, g2⟩ := h
    simp only [allOne] at h1
    split at h1
    · rename_i hx
      intro u hu
      rcases List.mem_cons.1 hu with rfl | hu
      · exact oneOf g1 hx
      · exact oneAll g2 h1 u hu
    · cases h1

/-- The store of a value into cells that are there. -/
theorem run_storeAt_of {t : TypeId} {b off : Nat} {v : Value} {cs : Array Value} {tt : TypeId} (hb : w.heap[b]? = some (.cells cs tt (0, 0))) (hoff : off + v.cells.size ≤ cs.size) {i : TypeInfo} (hi : P.info? t = some i) (hs : v.cells.size = i.size)
    (h1 : ∀ u ∈ v.cells.toList, u.oneCell' = true) : (Instr.storeAt t (.pointer (some ⟨b, off, none⟩)) v).run P w = .ok () (w.setCells b off v.cells.toList) := by
  have := run_storeCells_cells (P := P) b off v.cells.toList 0 w (fun j hj => by
    simp only [Array.length_toList] at hj
    have : off + 0 + j < cs.size := by omega
    simp [World.cell?, hb]; omega) (fun j hj => by simp [World.frozen?, hb]) h1
  simp only [Nat.add_zero] at this
  simp [Instr.storeAt, Instr.sureAddr, storeVar, sizeOf, typeInfo, hi, hs, this]

mutual
/-- A renaming that keeps all names in use turns nothing. -/
theorem AV.ren_fix {X : Nat → Prop} {f : Nat → Option Nat} (hf : ∀ k p, J k = some p → f k = some k) : ∀ (x : AV) (v : Value), x.rep w X J v → x.ren f = x
  | .d x, v, h => rfl
  | .c u, v, h => rfl
  | .snil, v, h => rfl
  | .agg cs, v, h => by simp only [AV.rep] at h; obtain ⟨vs, _, hr⟩ := h; simp only [AV.ren, AV.renL_fix hf cs _ hr]
  | .tup cs, v, h => by simp only [AV.rep] at h; obtain ⟨vs, _, hr⟩ := h; simp only [AV.ren, AV.renL_fix hf cs _ hr]
  | .ptr k off, v, h => by simp only [AV.rep] at h; obtain ⟨p, hp, _⟩ := h; simp only [AV.ren, hf k p hp]
  | .eptr k sz i off, v, h => by simp only [AV.rep] at h; obtain ⟨p, hp, _⟩ := h; simp only [AV.ren, hf k p hp]
  | .own k, v, h => by simp only [AV.rep] at h; obtain ⟨p, hp, _⟩ := h; simp only [AV.ren, hf k p hp]
  | .rd cs, v, h => rfl
  | .fn g cs, v, h => by simp only [AV.rep] at h; obtain ⟨vs, _, hr⟩ := h; simp only [AV.ren, AV.renL_fix hf cs _ hr]
  | .bot, v, h => rfl
theorem AV.renL_fix {X : Nat → Prop} {f : Nat → Option Nat} (hf : ∀ k p, J k = some p → f k = some k) : ∀ (xs : List AV) (vs : List Value), AV.repL w X J xs vs → renL f xs = xs
  | [], vs, h => rfl
  | x :: xs, vs, h => by
    simp only [AV.repL] at h
    obtain ⟨v, vs', _, h1, h2⟩ := h
    simp only [renL, AV.ren_fix hf x v h1, AV.renL_fix hf xs vs' h2]
end
theorem Ob.ren_fix {X : Nat → Prop} {f : Nat → Option Nat} (hf : ∀ k p, J k = some p → f k = some k) {p : Place} {o : Ob} (h : o.rep w X J p) : o.ren f = o := by
  cases o with
  | var cells => obtain ⟨_, cs, t, _, hr⟩ := h; simp only [Ob.ren, AV.renL_fix hf _ _ hr]
  | arr sz d xs => rfl
  | bld e l => rfl

theorem look_renObj {f : Nat → Option Nat} (hf : ∀ k j, f k = some j → j = k) (l : List (Nat × Ob)) (k : Nat) : look k (renObj f l) = match f k with | some _ => (look k l).map (Ob.ren f) | none => none := by
  induction l with
  | nil => simp only [renObj, look_nil, Option.map_none]; split <;> rfl
  | cons y l ih =>
    obtain ⟨j, ob'⟩ := y
    simp only [renObj]
    cases hj : f j with
    | none =>
      simp only
      rw [ih, look_cons]
      by_cases e : j = k
      · subst e; rw [hj]
      · rw [if_neg e]
    | some j' =>
      have := hf j j' hj; subst this
      simp only
      rw [look_cons, look_cons, ih]
      by_cases e : j' = k
      · subst e; rw [hj]; simp
      · rw [if_neg e, if_neg e]
theorem look_renEnv {f : Nat → Option Nat} (l : List (Nat × AV)) (t : Nat) : look t (renEnv f l) = (look t l).map (AV.ren f) := by
  induction l with
  | nil => simp [renEnv, look]
  | cons y l ih =>
    obtain ⟨j, v'⟩ := y
    simp only [renEnv, look_cons, ih]
    by_cases e : j = t
    · simp [e]
    · simp [e]

/-- What a new block leads to. -/
theorem wp_new (r : Rel X0 J st a w) (hd : ∀ d, o.dst = some d → d < a.tmps.size) (hn : Leads P X0 J a w K next) {f : Nat → Option Nat} {ob : Ob} {v : AV} {u : Value} {w1 : World} {p : Place} {k0 : Nat} {st1 : St} {F : Nat → Prop}
    (hf : ∀ k j, f k = some j → j = k) (hk : f k0 = none) (hbig : 10000 ≤ k0) (hsmall : ∀ k, k < 10000 → f k = some k) (hs : Kept F w w1) (hF : ∀ b, F b → ∃ k q, J k = some q ∧ f k = none ∧ b ∈ q.fp)
    (hrun : (execOp a.eval o).run P w = .ok (.value u) w1)
    (hnd : p.fp.Nodup) (hfp : ∀ b ∈ p.fp, (∃ k q, J k = some q ∧ f k = none ∧ b ∈ q.fp) ∨ w.heap.size ≤ b)
    (hob : ∀ J', (∀ k, J' k = if k = k0 then some p else match f k with | some _ => J k | none => none) → ob.rep w1 (Xof X0 J') J' p)
    (hv : ∀ J', J' k0 = some p → v.rep w1 (Xof X0 J') J' u)
    (he : ∀ t, look t st1.env = (look t st.env).map (AV.ren f)) (ho : ∀ k, look k st1.obj = if k0 = k then some ob else match f k with | some _ => (look k st.obj).map (Ob.ren f) | none => none)
    (hK : K (st1.put o.dst v)) : o.wp P a w next Q := by
  obtain ⟨m', hrep, hstep⟩ := Mem.step (J' := fun k => if k = k0 then some p else match f k with | some _ => J k | none => none)
    (obj' := (look · st1.obj)) (w' := w1) (F := F) (p0 := p) (o0 := ob) (k0 := k0) (f := f) r.mem hf hk hbig hsmall (fun _ => rfl)
    (fun k => by
      show look k st1.obj = _
      rw [ho]
      by_cases e : k0 = k
      · rw [if_pos e, if_pos e.symm]
      · rw [if_neg e, if_neg (Ne.symm e)]; cases f k <;> rfl)
    hs hF hnd hfp (hob _ fun _ => rfl)
  unfold Oper.wp
  rw [hrun]
  have r' : Rel X0 _ st1 a w1 := ⟨fun t x hx => by
    rw [he] at hx
    cases h0 : look t st.env with
    | none => rw [h0] at hx; cases hx
    | some x0 =>
      rw [h0] at hx; cases hx
      obtain ⟨u0, hu0, hr0⟩ := r.env t x0 h0
      exact ⟨u0, hu0, hrep _ _ hr0⟩, m', r.defers⟩
  exact hn _ _ _ _ hK (r'.put hd (hv _ (by simp))) Act.put_size hstep

theorem Mem.free {X0 : Nat → Prop} {J : Nat → Option Place} {obj : Nat → Option Ob} {w : World} (m : Mem X0 J obj w) {k : Nat} (h : obj k = none) : J k = none := by
  cases hj : J k with
  | none => rfl
  | some p => obtain ⟨o, ho⟩ := m.dom k p hj; rw [h] at ho; cases ho

/-- A new block that takes nothing with it. -/
theorem wp_fresh (r : Rel X0 J st a w) (hd : ∀ d, o.dst = some d → d < a.tmps.size) (hn : Leads P X0 J a w K next) {ob : Ob} {v : AV} {u : Value} {w1 : World} {p : Place} {k0 : Nat} (hbig : 10000 ≤ k0)
    (hfree : look k0 st.obj = none) (hs : Same w w1)
    (hrun : (execOp a.eval o).run P w = .ok (.value u) w1) (hnest : p.nest = []) (hblk : w.heap.size ≤ p.blk)
    (hob : ∀ J', (∀ k, J' k = if k = k0 then some p else J k) → ob.rep w1 (Xof X0 J') J' p)
    (hv : ∀ J', J' k0 = some p → v.rep w1 (Xof X0 J') J' u)
    (hK : K ((st.set k0 ob).put o.dst v)) : o.wp P a w next Q := by
  have hJ0 : J k0 = none := r.mem.free hfree
  have hfix : ∀ k p, J k = some p → (fun k => if k = k0 then none else some k) k = some k := by
    intro k p hp
    show (if k = k0 then none else some k) = some k
    rw [if_neg (by rintro rfl; rw [hJ0] at hp; cases hp)]
  refine wp_new r hd hn (f := fun k => if k = k0 then none else some k) (F := fun _ => False) (k0 := k0) (p := p) (ob := ob) (st1 := st.set k0 ob) ?_ (by simp) hbig (fun k hk => by rw [if_neg (by omega)]) (hs.kept _) (fun b hb => hb.elim) hrun ?_ ?_ ?_ hv ?_ ?_ hK
  · intro k j h
    split at h
    · cases h
    · cases h; rfl
  · simp [Place.fp, hnest]
  · intro b hb
    simp [Place.fp, hnest] at hb
    subst hb; exact .inr hblk
  · intro J' hJ'
    refine hob J' fun k => ?_
    rw [hJ']
    by_cases e : k = k0
    · simp [e]
    · simp [e]
  · intro t
    show look t st.env = _
    cases h0 : look t st.env with
    | none => rfl
    | some x =>
      obtain ⟨u0, _, hr0⟩ := r.env t x h0
      rw [Option.map_some, AV.ren_fix hfix x u0 hr0]
  · intro k
    rw [St.set_look]
    by_cases e : k0 = k
    · simp [e]
    · rw [if_neg e, if_neg e]
      simp only [if_neg (Ne.symm e)]
      cases h0 : look k st.obj with
      | none => rfl
      | some ob0 =>
        obtain ⟨p0, _, hr0⟩ := r.mem.ob k ob0 h0
        rw [Option.map_some, Ob.ren_fix hfix hr0]

theorem heap_push (w : World) (o : Obj) : ({ w with heap := w.heap.push o } : World).heap[w.heap.size]? = some o := by simp

theorem ev_newVar {cells : List AV} {d : Nat} (hdst : o.dst = some d) (h : evCmd P cx (.newVar cells) o.dst st K) : look (10000 + d) st.obj = none ∧ K ((st.set (10000 + d) (.var cells)).put o.dst (.ptr (10000 + d) 0)) := by
  rw [hdst] at h ⊢
  simp only [evCmd] at h
  split at h
  · rename_i h0; exact ⟨h0, h⟩
  · exact h.elim

/-- A variable of its own. -/
theorem wp_newVar (r : Rel X0 J st a w) (hd : ∀ d, o.dst = some d → d < a.tmps.size) (hn : Leads P X0 J a w K next) {cells : List AV} {cs : Array Value} {t : TypeId} (hc : evCmd P cx (.newVar cells) o.dst st K)
    (hr : AV.repL w (Xof X0 J) J cells cs.toList) (hrun : (execOp a.eval o).run P w = .ok (.value (.pointer (some ⟨w.heap.size, 0, none⟩))) { w with heap := w.heap.push (.cells cs t) }) : o.wp P a w next Q := by
  cases hdst : o.dst with
  | none => rw [hdst] at hc; exact hc.elim
  | some d =>
    obtain ⟨hfree, hK⟩ := ev_newVar hdst hc
    have hJ0 : J (10000 + d) = none := r.mem.free hfree
    refine wp_fresh r hd hn (p := ⟨w.heap.size, [], 0, 0⟩) (Nat.le_add_right _ _) hfree (Same.push w _) hrun rfl (Nat.le_refl _) ?_ ?_ hK
    · intro J' hJ'
      refine ⟨rfl, cs, t, heap_push w _, ?_⟩
      refine AV.repL_mono (w := w) (X := Xof X0 J) (J := J) ?_ ((Same.push w _).agree _ _) ?_ hr
      · rintro b hb hx (h0 | ⟨k, p, hp, hbp⟩)
        · exact hx (.inl h0)
        · rw [hJ'] at hp
          split at hp
          · cases hp; simp [Place.fp] at hbp; omega
          · exact hx (.inr ⟨k, p, hp, hbp⟩)
      · intro k p hp
        exact ⟨p, by rw [hJ', if_neg (by rintro rfl; rw [hJ0] at hp; cases hp)]; exact hp, p.like_refl⟩
    · intro J' hJ'
      simp only [AV.rep]
      exact ⟨_, hJ', rfl⟩

theorem constsOf_rep {w : World} {X : Nat → Prop} {J : Nat → Option Place} : ∀ {vs : List Value} {cells : List AV}, constsOf vs = some cells → AV.repL w X J cells vs
  | [], cells, h => by simp only [constsOf, Option.some.injEq] at h; subst h; simp [AV.repL]
  | v :: vs, cells, h => by
    simp only [constsOf] at h
    split at h
    · rename_i x hx
      split at h
      · rename_i l hl
        cases h
        simp only [AV.repL]
        exact ⟨v, vs, rfl, rep_const hx, constsOf_rep hl⟩
      · cases h
    · cases h

theorem zero_some {t : TypeId} {cells : List AV} (h : (tdOf P t).zero = some cells) : ∃ i z, P.info? t = some i ∧ i.zero = some z ∧ constsOf z.cells.toList = some cells := by
  simp only [tdOf, Option.bind_eq_some_iff] at h
  obtain ⟨z, ⟨i, hi, hz⟩, hc⟩ := h
  exact ⟨i, z, hi, hz, hc⟩

theorem op_alloc (tok : TOk P cx.T) (r : Rel X0 J st a w) (hd : ∀ d, o.dst = some d → d < a.tmps.size) (hn : Leads P X0 J a w K next) {t : TypeId} (hop : o.op = .alloc t)
    (hc : evCmd P cx (opCmd cx.T o st) o.dst st K) : o.wp P a w next Q := by
  simp only [opCmd, hop] at hc
  split at hc
  case h_2 => exact hc.elim
  rename_i i hi
  have hti := tok t i hi
  subst hti
  split at hc
  case h_2 => exact hc.elim
  rename_i cells hz
  obtain ⟨ti, z, hti, htz, hcz⟩ := zero_some hz
  refine wp_newVar r hd hn (t := t) hc (constsOf_rep hcz) ?_
  simp [execOp, hop, Instr.alloc, zeroValue, typeInfo, hti, htz, newVar, newRow]

theorem op_box (r : Rel X0 J st a w) (hd : ∀ d, o.dst = some d → d < a.tmps.size) (hn : Leads P X0 J a w K next) {t : TypeId} {x : Operand} (hop : o.op = .box t x)
    (hc : evCmd P cx (opCmd cx.T o st) o.dst st K) : o.wp P a w next Q := by
  simp only [opCmd, hop] at hc
  split at hc
  case h_2 => exact hc.elim
  rename_i v hx
  refine wp_newVar r hd hn (t := t) hc (cells_rep (r.ev hx)) ?_
  simp [execOp, hop, Instr.box, newVar, newRow]

/-- A block of the walk is written in its place. -/
theorem wp_upd (r : Rel X0 J st a w) (hd : ∀ d, o.dst = some d → d < a.tmps.size) (hn : Leads P X0 J a w K next) {k : Nat} {p : Place} {ob : Ob} {w1 : World} (hp : J k = some p)
    (hrun : (execOp a.eval o).run P w = .ok .skip w1) (hkept : Kept (· = p.blk) w w1) (hob : ob.rep w1 (Xof X0 J) J p) (hK : K ((st.set k ob).put o.dst (.tup []))) : o.wp P a w next Q := by
  obtain ⟨m', hrep, hstep⟩ := Mem.upd (obj' := (look · (st.set k ob).obj)) (w' := w1) r.mem hp (fun j => by
    rw [St.set_look]
    by_cases e : k = j
    · rw [if_pos e, if_pos e.symm]
    · rw [if_neg e, if_neg (Ne.symm e)]) hkept hob
  unfold Oper.wp
  rw [hrun]
  have r' : Rel X0 J (st.set k ob) a w1 := ⟨fun t x hx => let ⟨u, hu, h⟩ := r.env t x hx; ⟨u, hu, hrep _ _ h⟩, m', r.defers⟩
  refine hn _ _ _ _ hK (r'.put (u := undef) hd ?_) Act.put_size hstep
  simp only [AV.rep]
  exact ⟨#[], rfl, by simp [AV.repL]⟩

theorem setCells_rep {w w' : World} {X : Nat → Prop} {J : Nat → Option Place} {off : Nat} {xs cells r : List AV} {vs : List Value} {cs : Array Value} (h : setCells off xs cells = some r) (hx : AV.repL w X J xs vs) (hc : AV.repL w X J cells cs.toList) :
    AV.repL w X J r (putAt cs off vs).toList := by
  obtain ⟨e, hl⟩ := setCells_some h
  have hlen := AV.repL_length hc
  have hlx := AV.repL_length hx
  simp only [Array.length_toList] at hlen
  rw [putAt_toList, e]
  have htake : vs.take (cs.size - off) = vs := by
    rcases hl with rfl | hl
    · simp only [List.length_nil] at hlx
      rw [List.eq_nil_of_length_eq_zero hlx.symm]; simp
    · exact List.take_of_length_le (by omega)
  rw [htake, ← hlx]
  exact AV.repL_append (AV.repL_append (AV.repL_take hc) hx) (AV.repL_drop hc)

theorem op_store_var (tok : TOk P cx.T) (r : Rel X0 J st a w) (hd : ∀ d, o.dst = some d → d < a.tmps.size) (hn : Leads P X0 J a w K next) {t : TypeId} {x y : Operand} (hop : o.op = .store t x y)
    {k off : Nat} (hx : st.ev x = some (.ptr k off)) {v : AV} (hy : st.ev y = some v) {cells cs : List AV} (hk : look k st.obj = some (.var cells)) {i : TypeInfo} (hi : P.info? t = some i) (hsz : v.cells.length = i.size) (hpos : 0 < i.size) (hone : allOne v.cells = true)
    (hset : setCells off v.cells cells = some cs) (hK : K ((st.set k (.var cs)).put o.dst (.tup []))) : o.wp P a w next Q := by
  have hxv := r.ev hx
  simp only [AV.rep] at hxv
  obtain ⟨p, hp, hxv⟩ := hxv
  have hyv := cells_rep (r.ev hy)
  obtain ⟨p', c0, tt, hp', hnest, hcs, hr⟩ := r.mem.var hk
  rw [hp] at hp'; cases hp'
  have hlen := AV.repL_length hyv
  have hlen2 := AV.repL_length hr
  simp only [Array.length_toList] at hlen hlen2
  have hoff : off + (a.eval y).cells.size ≤ c0.size := by
    obtain ⟨_, hl⟩ := setCells_some hset
    rcases hl with hl | hl
    · rw [hl] at hsz; simp at hsz; omega
    · omega
  have hst := run_storeAt_of (P := P) (w := w) (t := t) hcs hoff hi (by omega) (oneAll hyv hone)
  refine wp_upd r hd hn (w1 := w.setCells p.blk off (a.eval y).cells.toList) hp (by simp [execOp, hop, hxv, hst]) (kept_setCells _ _ _ _) ?_ hK
  refine ⟨hnest, _, tt, setCells_heap _ _ _ _ hcs, ?_⟩
  have hkept := kept_setCells p.blk off (a.eval y).cells.toList w
  have hr2 : AV.repL w (Xof X0 J) J cs (putAt c0 off (a.eval y).cells.toList).toList := setCells_rep (w' := w) hset hyv hr
  refine AV.repL_mono (fun _ _ hx => hx) ?_ (fun _ p hp => ⟨p, hp, p.like_refl⟩) hr2
  intro b hb hxb
  refine hkept.block b hb fun e => ?_
  rcases hxb with h | h
  · cases h
  · exact h (.inr ⟨k, p, hp, e ▸ List.mem_cons_self ..⟩)

theorem rangeAt_apart {b' o' b o : Nat} {cs vs : List Value} (h : w.rangeAt b' o' cs) (hap : b' ≠ b ∨ o' + cs.length ≤ o ∨ o + vs.length ≤ o') : (w.setCells b o vs).rangeAt b' o' cs :=
  World.rangeAt_setCells_apart h b o vs hap

/-- The rows of an array one of which is written. -/
theorem repRows_keep {X : Nat → Prop} {b sz o : Nat} {vs : List Value} (hb : X b) : ∀ {xs : List D} {off : Nat}, repRows w X b sz xs off [] → (o + vs.length ≤ off ∨ off + xs.length * sz ≤ o) → repRows (w.setCells b o vs) X b sz xs off []
  | [], off, h, _ => by simp only [repRows]
  | x :: xs, off, h, hap => by
    simp only [repRows] at h ⊢
    obtain ⟨v, b1, b2, hbs, h1, h2, h3, h4, h5⟩ := h
    obtain ⟨rfl, rfl⟩ := List.append_eq_nil_iff.1 hbs.symm
    have hlen : v.cells.toList.length = sz := by rw [Array.length_toList, h2]
    simp only [List.length_cons, Nat.add_mul, Nat.one_mul] at hap
    refine ⟨v, [], [], rfl, D.rep_mono (fun _ _ hx => hx) x v [] ?_ h1, h2, h3, rangeAt_apart h4 (.inr (by omega)), repRows_keep hb h5 (by omega)⟩
    intro c hc hx
    refine (kept_setCells b o vs w).block c hc fun e => ?_
    rcases hx with hx | hx
    · cases hx
    · exact hx (e ▸ hb)
theorem repRows_set {X : Nat → Prop} {b sz : Nat} (hb : X b) {y : D} {u : Value} (hy : y.rep w X u []) (hu : u.cells.size = sz) (hyl : y.cells.length = sz) (hone : ∀ c ∈ u.cells.toList, c.oneCell' = true) :
    ∀ {xs : List D} {off j : Nat}, repRows w X b sz xs off [] → j < xs.length → w.there b (off + j * sz) sz → repRows (w.setCells b (off + j * sz) u.cells.toList) X b sz (xs.set j y) off []
  | [], off, j, h, hj, _ => by simp at hj
  | x :: xs, off, j, h, hj, ht => by
    simp only [repRows] at h
    obtain ⟨v, b1, b2, hbs, h1, h2, h3, h4, h5⟩ := h
    obtain ⟨rfl, rfl⟩ := List.append_eq_nil_iff.1 hbs.symm
    have hA : ∀ (o : Nat) (vs : List Value), Agree w (w.setCells b o vs) X [] := by
      intro o vs c hc hx
      refine (kept_setCells b o vs w).block c hc fun e => ?_
      rcases hx with hx | hx
      · cases hx
      · exact hx (e ▸ hb)
    have hul : u.cells.toList.length = sz := by rw [Array.length_toList, hu]
    cases j with
    | zero =>
      simp only [List.set_cons_zero, repRows, Nat.zero_mul, Nat.add_zero] at ht ⊢
      exact ⟨u, [], [], rfl, D.rep_mono (fun _ _ hx => hx) y u [] (hA _ _) hy, hu, ⟨hyl, hone⟩, World.rangeAt_setCells_same w b off _ (by rw [hul]; exact ht), repRows_keep hb h5 (.inl (by omega))⟩
    | succ j =>
      simp only [List.set_cons_succ, repRows]
      have e : off + (j + 1) * sz = off + sz + j * sz := by rw [Nat.add_mul, Nat.one_mul]; omega
      rw [e] at ht ⊢
      have hvl : v.cells.toList.length = sz := by rw [Array.length_toList, h2]
      refine ⟨v, [], [], rfl, D.rep_mono (fun _ _ hx => hx) x v [] (hA _ _) h1, h2, h3, rangeAt_apart h4 (.inr (.inl (by omega))), repRows_set hb hy hu hyl hone h5 (by simpa using hj) ht⟩

theorem repL_join {w : World} {X : Nat → Prop} : ∀ {xs ys : List D} {us vs : List Value}, repL w X xs us [] → repL w X ys vs [] → repL w X (xs ++ ys) (us ++ vs) []
  | [], ys, us, vs, h1, h2 => by simp only [repL] at h1; rw [h1.1]; exact h2
  | x :: xs, ys, us, vs, h1, h2 => by
    simp only [repL] at h1
    obtain ⟨u, us', b1, b2, rfl, hb, h3, h4⟩ := h1
    obtain ⟨rfl, rfl⟩ := List.append_eq_nil_iff.1 hb.symm
    simp only [List.cons_append, repL]
    exact ⟨u, us' ++ vs, [], [], rfl, rfl, h3, repL_join h4 h2⟩
theorem rangeAt_head {b o n : Nat} {cs : List Value} (h : w.rangeAt b o cs) : w.rangeAt b o (cs.take n) := by
  intro j v hv
  rw [List.getElem?_take] at hv
  split at hv
  · exact h j v hv
  · cases hv
theorem rangeAt_tail {b o n : Nat} {cs : List Value} (h : w.rangeAt b o cs) : w.rangeAt b (o + n) (cs.drop n) := by
  intro j v hv
  rw [List.getElem?_drop] at hv
  have := h (n + j) v hv
  rwa [Nat.add_assoc]
theorem rangeAt_join {b o : Nat} {xs ys : List Value} (h1 : w.rangeAt b o xs) (h2 : w.rangeAt b (o + xs.length) ys) : w.rangeAt b o (xs ++ ys) := by
  intro j v hv
  by_cases hj : j < xs.length
  · rw [List.getElem?_append_left hj] at hv; exact h1 j v hv
  · rw [List.getElem?_append_right (by omega)] at hv
    have := h2 _ v hv
    rwa [show o + xs.length + (j - xs.length) = o + j by omega] at this
/-- A part of a row is written. -/
theorem repRows_setAt {X : Nat → Prop} {b sz o : Nat} {ys : List Value} {yds : List D} (hb : X b) (hy : repL w X yds ys []) (hone : ∀ c ∈ ys, c.oneCell' = true) (hos : o + ys.length ≤ sz) :
    ∀ {xs : List D} {off j : Nat} {cs : List D}, repRows w X b sz xs off [] → xs[j]? = some (.agg cs) → w.there b (off + j * sz + o) ys.length →
      repRows (w.setCells b (off + j * sz + o) ys) X b sz (xs.set j (.agg (cs.take o ++ yds ++ cs.drop (o + yds.length)))) off []
  | [], off, j, cs, h, hj, _ => by simp at hj
  | x :: xs, off, j, cs, h, hj, ht => by
    simp only [repRows] at h
    obtain ⟨v, b1, b2, hbs, h1, h2, h3, h4, h5⟩ := h
    obtain ⟨rfl, rfl⟩ := List.append_eq_nil_iff.1 hbs.symm
    have hA : ∀ (o : Nat) (vs : List Value), Agree w (w.setCells b o vs) X [] := by
      intro o vs c hc hx
      refine (kept_setCells b o vs w).block c hc fun e => ?_
      rcases hx with hx | hx
      · cases hx
      · exact hx (e ▸ hb)
    have hvl : v.cells.toList.length = sz := by rw [Array.length_toList, h2]
    cases j with
    | zero =>
      simp only [List.getElem?_cons_zero, Option.some.injEq] at hj
      subst hj
      simp only [D.rep] at h1
      obtain ⟨vs, rfl, hr⟩ := h1
      have hyl := repL_length hy
      have hcl := repL_length hr
      have e0 : (Value.agg vs).cells.toList = vs.toList := rfl
      rw [e0] at h4 h3 hvl
      have hcs : cs.length = sz := h3.1
      simp only [List.set_cons_zero, repRows, Nat.zero_mul, Nat.add_zero] at ht ⊢
      have hu : (Value.agg (vs.toList.take o ++ ys ++ vs.toList.drop (o + ys.length)).toArray).cells.toList = vs.toList.take o ++ ys ++ vs.toList.drop (o + ys.length) := by
        show ((vs.toList.take o ++ ys ++ vs.toList.drop (o + ys.length)).toArray).toList = _
        simp
      refine ⟨.agg (vs.toList.take o ++ ys ++ vs.toList.drop (o + ys.length)).toArray, [], [], rfl, ?_, ?_, ⟨?_, ?_⟩, ?_, repRows_keep hb h5 (.inl (by omega))⟩
      · simp only [D.rep]
        refine ⟨_, rfl, ?_⟩
        rw [show ((vs.toList.take o ++ ys ++ vs.toList.drop (o + ys.length)).toArray).toList = vs.toList.take o ++ ys ++ vs.toList.drop (o + ys.length) by simp, hyl]
        refine Go.Pm.repL_mono (fun _ _ hx => hx) _ _ _ (hA _ _) ?_
        exact repL_join (repL_join (repL_take hr) hy) (repL_drop hr)
      · have := congrArg List.length hu
        simp only [Array.length_toList] at this
        rw [this]
        simp only [List.length_append, List.length_take, List.length_drop]; omega
      · show (cs.take o ++ yds ++ cs.drop (o + yds.length)).length = sz
        simp only [List.length_append, List.length_take, List.length_drop]; omega
      · intro c hc
        rw [hu] at hc
        rcases List.mem_append.1 hc with hc | hc
        · rcases List.mem_append.1 hc with hc | hc
          · exact h3.2 c (List.mem_of_mem_take hc)
          · exact hone c hc
        · exact h3.2 c (List.mem_of_mem_drop hc)
      · rw [hu]
        refine rangeAt_join (rangeAt_join ?_ ?_) ?_
        · exact rangeAt_apart (rangeAt_head h4) (.inr (.inl (by simp only [List.length_take]; omega)))
        · rw [show off + (vs.toList.take o).length = off + o by simp only [List.length_take]; omega]
          exact World.rangeAt_setCells_same w b _ _ ht
        · rw [show off + (vs.toList.take o ++ ys).length = off + (o + ys.length) by simp only [List.length_append, List.length_take]; omega]
          exact rangeAt_apart (rangeAt_tail h4) (.inr (.inr (by omega)))
    | succ j =>
      simp only [List.set_cons_succ, repRows]
      have e : off + (j + 1) * sz + o = off + sz + j * sz + o := by rw [Nat.add_mul, Nat.one_mul]; omega
      rw [e] at ht ⊢
      exact ⟨v, [], [], rfl, D.rep_mono (fun _ _ hx => hx) x v [] (hA _ _) h1, h2, h3, rangeAt_apart h4 (.inr (.inl (by omega))), repRows_setAt hb hy hone hos h5 (by simpa using hj) ht⟩

theorem plain_there {b n o m : Nat} (h : Plain w b n) (hle : o + m ≤ n) : w.there b o m := by
  obtain ⟨cs, t, hb, hn⟩ := h
  intro j hj
  have : o + j < cs.size := by omega
  exact ⟨by simp [World.cell?, hb]; omega, by simp [World.frozen?, hb]⟩
theorem plain_setCells {b n o : Nat} {vs : List Value} (h : Plain w b n) : Plain (w.setCells b o vs) b n := by
  obtain ⟨cs, t, hb, hn⟩ := h
  exact ⟨_, t, setCells_heap vs o w cs hb, by rw [putAt_size]; exact hn⟩

theorem op_store (tok : TOk P cx.T) (r : Rel X0 J st a w) (hd : ∀ d, o.dst = some d → d < a.tmps.size) (hn : Leads P X0 J a w K next) {t : TypeId} {x y : Operand} (hop : o.op = .store t x y)
    (hc : evCmd P cx (opCmd cx.T o st) o.dst st K) : o.wp P a w next Q := by
  simp only [opCmd, hop] at hc
  split at hc
  case h_2 => exact hc.elim
  rename_i i hi
  have hti := tok t i hi
  subst hti
  have info : 0 < P.cellsOf t → ∃ i, P.info? t = some i ∧ i.size = P.cellsOf t := by
    intro h0
    cases hq : P.info? t with
    | some ti => exact ⟨ti, rfl, by simp [Program.cellsOf, hq]⟩
    | none => simp [Program.cellsOf, hq] at h0
  split at hc
  · rename_i k off hx
    split at hc
    case h_2 => exact hc.elim
    rename_i v hy
    split at hc
    case h_2 => exact hc.elim
    rename_i cells hk
    split at hc
    case h_2 => exact hc.elim
    rename_i hbeq
    simp only [Bool.and_eq_true] at hbeq
    obtain ⟨hb1, hb2⟩ := hbeq
    have hsz : v.cells.length = P.cellsOf t := Nat.eq_of_beq_eq_true hb1
    have hpos : 0 < (tdOf P t).size := by simpa [Nat.blt_eq] using hb2
    have hpos : 0 < P.cellsOf t := hpos
    split at hc
    case h_2 => exact hc.elim
    rename_i hone
    split at hc
    case h_2 => exact hc.elim
    rename_i cs hset
    obtain ⟨ti, hti, hts⟩ := info hpos
    exact op_store_var tok r hd hn hop hx hy hk hti (by omega) (by omega) hone hset hc
  · rename_i k s j off hx
    split at hc
    case h_2 => exact hc.elim
    rename_i y' hy
    split at hc
    case h_2 => exact hc.elim
    rename_i sz xs hk
    split at hc
    case h_2 =>
      split at hc
      case h_2 => exact hc.elim
      rename_i hbeq
      simp only [Bool.and_eq_true] at hbeq
      obtain ⟨hb1, hb2⟩ := hbeq
      have hss : s = sz := Nat.eq_of_beq_eq_true hb1
      subst hss
      have hpos : 0 < (tdOf P t).size := by simpa [Nat.blt_eq] using hb2
      have hpos : 0 < P.cellsOf t := hpos
      split at hc
      case h_2 => exact hc.elim
      rename_i hone
      split at hc
      case h_2 => exact hc.elim
      rename_i hyb
      have hyl : y'.cells.length = P.cellsOf t := Nat.eq_of_beq_eq_true hyb
      obtain ⟨el, hel, hc⟩ := hc
      simp only at hc
      split at hc
      case h_2 => exact hc.elim
      rename_i cs
      split at hc
      case h_2 => exact hc.elim
      rename_i cs' hset
      obtain ⟨e', hl'⟩ := setCells_some hset
      have hxv := r.ev hx
      simp only [AV.rep] at hxv
      obtain ⟨p, hp, hxv⟩ := hxv
      have hyv := r.ev hy
      simp only [AV.rep] at hyv
      obtain ⟨p', hp', hr⟩ := r.mem.ob _ _ hk
      rw [hp] at hp'; cases hp'
      obtain ⟨g0, g1, g2, g3, g4, g5⟩ := hr
      have hnest := g5 rfl
      rw [hnest] at g4
      have hcr := D.cells_rep hyv
      have hul := repL_length hcr
      simp only [Array.length_toList] at hul
      have hcs : cs.length = s := by
        have key : ∀ {xs : List D} {off j : Nat}, repRows w (Xof X0 J) p.blk s xs off [] → xs[j]? = some (.agg cs) → cs.length = s := by
          intro xs
          induction xs with
          | nil => intro off j _ hj; simp at hj
          | cons x xs ih =>
            intro off j h hj
            simp only [repRows] at h
            obtain ⟨v, b1, b2, hbs, h1, h2, h3, h4, h5⟩ := h
            obtain ⟨rfl, rfl⟩ := List.append_eq_nil_iff.1 hbs.symm
            cases j with
            | zero => simp only [List.getElem?_cons_zero, Option.some.injEq] at hj; subst hj; exact h3.1
            | succ j => exact ih h5 (by simpa using hj)
        exact key g4 hel
      have hj : j < xs.length := (List.getElem?_eq_some_iff.1 hel).1
      have hoff : off + y'.cells.length ≤ s := by
        rcases hl' with hl' | hl'
        · rw [hl'] at hyl; simp at hyl; omega
        · omega
      have hle : j * s + (off + y'.cells.length) ≤ p.cap * s := by
        have : (j + 1) * s ≤ p.cap * s := Nat.mul_le_mul_right _ (by omega)
        rw [Nat.add_mul, Nat.one_mul] at this
        omega
      have hXb : Xof X0 J p.blk := .inr ⟨k, p, hp, List.mem_cons_self ..⟩
      obtain ⟨ti, hti, hts⟩ := info hpos
      obtain ⟨c0, tt, hcs0, hcn⟩ := g3
      have hones : ∀ u ∈ (a.eval y).cells.toList, u.oneCell' = true := by
        have := cells_rep (r.ev hy)
        cases y' with
        | agg l => exact oneAll this (by simpa [AV.cells, D.cells] using hone)
        | _ => exact oneAll this (by simpa [AV.cells, D.cells] using hone)
      have hst := run_storeAt_of (P := P) (w := w) (t := t) (off := j * s + off) (v := a.eval y) hcs0 (by omega) hti (by omega) hones
      refine wp_upd r hd hn (w1 := w.setCells p.blk (j * s + off) (a.eval y).cells.toList) hp (by simp only [execOp, hop, hxv, hst, Sem.run_bind, Result.andThen_ok, Sem.run_pure]) (kept_setCells _ _ _ _) ?_ hc
      refine ⟨g0, by simpa using g1, g2, plain_setCells ⟨c0, tt, hcs0, hcn⟩, ?_, fun _ => hnest⟩
      rw [hnest, e']
      have hul' : (a.eval y).cells.toList.length = y'.cells.length := by rw [Array.length_toList]; exact hul.symm
      have := repRows_setAt (w := w) (o := off) (off := 0) (j := j) hXb hcr hones (by omega) g4 hel (by
        rw [Nat.zero_add]
        intro i hi
        have := plain_there (w := w) (o := j * s + off) (m := y'.cells.length) ⟨c0, tt, hcs0, hcn⟩ (by omega)
        exact this i (by omega))
      simpa using this
    split at hc
    case h_2 => exact hc.elim
    split at hc
    case h_2 => exact hc.elim
    rename_i hbeq
    simp only [Bool.and_eq_true] at hbeq
    obtain ⟨hb1, hb2⟩ := hbeq
    have hsz : sz = P.cellsOf t := Nat.eq_of_beq_eq_true hb1
    have hss : s = sz := Nat.eq_of_beq_eq_true hb2
    subst hss
    split at hc
    case h_2 => exact hc.elim
    rename_i hone
    obtain ⟨⟨hj, hyl⟩, hK⟩ := hc
    have hxv := r.ev hx
    simp only [AV.rep] at hxv
    obtain ⟨p, hp, hxv⟩ := hxv
    have hyv := r.ev hy
    simp only [AV.rep] at hyv
    obtain ⟨p', hp', hr⟩ := r.mem.ob _ _ hk
    rw [hp] at hp'; cases hp'
    obtain ⟨g0, g1, g2, g3, g4, g5⟩ := hr
    have hnest := g5 rfl
    rw [hnest] at g4
    have hcr := D.cells_rep hyv
    have hul := repL_length hcr
    simp only [Array.length_toList] at hul
    have hyl' : y'.cells.length = s := by rw [hyl, hsz]; rfl
    have hle : j * s + s ≤ p.cap * s := by
      have : (j + 1) * s ≤ p.cap * s := Nat.mul_le_mul_right _ (by omega)
      rwa [Nat.add_mul, Nat.one_mul] at this
    have hXb : Xof X0 J p.blk := .inr ⟨k, p, hp, List.mem_cons_self ..⟩
    obtain ⟨ti, hti, hts⟩ := info (by omega)
    obtain ⟨c0, tt, hcs, hcn⟩ := g3
    have hones : ∀ u ∈ (a.eval y).cells.toList, u.oneCell' = true := by
      have := cells_rep (r.ev hy)
      cases y' with
      | agg l => exact oneAll this (by simpa [AV.cells, D.cells] using hone)
      | _ => exact oneAll this (by simpa [AV.cells, D.cells] using hone)
    have hst := run_storeAt_of (P := P) (w := w) (t := t) (off := j * s + 0) (v := a.eval y) hcs (by omega) hti (by omega) hones
    refine wp_upd r hd hn (w1 := w.setCells p.blk (j * s + 0) (a.eval y).cells.toList) hp (by simp only [execOp, hop, hxv, hst, Sem.run_bind, Result.andThen_ok, Sem.run_pure]) (kept_setCells _ _ _ _) ?_ hK
    refine ⟨g0, by simpa using g1, g2, plain_setCells ⟨c0, tt, hcs, hcn⟩, ?_, fun _ => hnest⟩
    rw [hnest]
    have := repRows_set (w := w) hXb hyv (by omega) hyl' hones g4 hj (by rw [Nat.zero_add]; exact plain_there ⟨c0, tt, hcs, hcn⟩ hle)
    simpa using this
  · exact hc.elim
end
end Go.Pm
