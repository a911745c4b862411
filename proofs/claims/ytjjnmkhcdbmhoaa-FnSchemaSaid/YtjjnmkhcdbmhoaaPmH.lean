/-
A walk of Go's code over values: arrays that the call makes.
-/
import Derived.Test.YtjjnmkhcdbmhoaaPmG
namespace Go.Pm
open Go
set_option linter.unusedVariables false
variable {P : Program}
section
variable {cx : Cx} {X0 : Nat → Prop} {J : Nat → Option Place} {st : St} {a : Act} {w : World} {o : Oper} {K : St → Prop} {next : Act → World → Prop} {Q : Exit → Act → World → Prop}

/-- Rows out of their cells. -/
theorem repRows_of {w : World} {X : Nat → Prop} {b sz : Nat} : ∀ {xs : List D} {us : List Value} {bs : List Nat} {off : Nat}, repL w X xs us bs → (∀ x ∈ xs, x.cells.length = sz) → (∀ u ∈ us, u.cells.size = sz ∧ ∀ c ∈ u.cells.toList, c.oneCell' = true) →
    (∀ i u, us[i]? = some u → w.rangeAt b (off + i * sz) u.cells.toList) → repRows w X b sz xs off bs
  | [], us, bs, off, h, _, _, _ => by simp only [repL] at h; simp only [repRows]; exact h.2
  | x :: xs, us, bs, off, h, h1, h2, h3 => by
    simp only [repL] at h
    obtain ⟨u, us', b1, b2, rfl, rfl, g1, g2⟩ := h
    simp only [repRows]
    refine ⟨u, b1, b2, rfl, g1, (h2 u (List.mem_cons_self ..)).1, ⟨h1 x (List.mem_cons_self ..), (h2 u (List.mem_cons_self ..)).2⟩, by simpa using h3 0 u rfl, ?_⟩
    refine repRows_of g2 (fun y hy => h1 y (List.mem_cons_of_mem _ hy)) (fun y hy => h2 y (List.mem_cons_of_mem _ hy)) fun i u' hu' => ?_
    have := h3 (i + 1) u' (by simpa using hu')
    rwa [show off + (i + 1) * sz = off + sz + i * sz by rw [Nat.add_mul, Nat.one_mul]; omega] at this

theorem St.ren_set_look {st : St} {f : Nat → Option Nat} (hf : ∀ k j, f k = some j → j = k) {k0 : Nat} {ob : Ob} (k : Nat) : look k ((st.ren f).set k0 ob).obj = if k0 = k then some ob else match f k with | some _ => (look k st.obj).map (Ob.ren f) | none => none := by
  rw [St.set_look]
  show (if k0 = k then some ob else look k (renObj f st.obj)) = _
  rw [look_renObj hf]
  cases f k <;> rfl

/-- An array of its own, with what it takes in. -/
theorem wp_newArr (r : Rel X0 J st a w) (hd : ∀ d, o.dst = some d → d < a.tmps.size) (hn : Leads P X0 J a w K next) {sz : Nat} {deep : Bool} {xs : List D} {ks : List Nat} {cs : Array Value} {t : TypeId} {len cap : Nat} {w1 : World}
    (hc : evCmd P cx o.dst (.newArr sz deep xs ks) st K) (hs : Same w w1) (hw1 : w1.heap[w.heap.size]? = some (.cells cs t (0, 0)))
    (hrun : (execOp a.eval o).run P w = .ok (.value (.slice (some ⟨w.heap.size, 0, none⟩) len cap)) w1)
    {bs : List Nat} (hbs : ∀ b ∈ bs, ∃ k q, k ∈ ks ∧ J k = some q ∧ b ∈ q.fp) (hbnd : bs.Nodup) (hdeep : deep = false → bs = []) (hsz : 0 < sz) (hlen : len = xs.length) (hcap : len ≤ cap) (hcs : cs.size = cap * sz)
    {us : List Value} (hr : repL w (Xof X0 J) xs us bs) (hx : ∀ x ∈ xs, x.cells.length = sz) (hu : ∀ u ∈ us, u.cells.size = sz ∧ ∀ c ∈ u.cells.toList, c.oneCell' = true)
    (hcells : ∀ i u, us[i]? = some u → w1.rangeAt w.heap.size (i * sz) u.cells.toList) : o.wp P a w next Q := by
  cases hdst : o.dst with
  | none => rw [hdst] at hc; exact hc.elim
  | some d =>
    rw [hdst] at hc
    simp only [evCmd] at hc
    split at hc
    case h_2 => exact hc.elim
    rename_i hfree
    have hJ0 : J (10000 + d) = none := r.mem.free hfree
    -- rows, under any places that take in what is given
    have rows : ∀ X' : Nat → Prop, (∀ b, b < w.heap.size → ¬ Xof X0 J b → ¬ X' b) → repRows w1 X' w.heap.size sz xs 0 bs := by
      intro X' hX
      refine repRows_of (us := us) ?_ hx hu (fun i u h => by rw [Nat.zero_add]; exact hcells i u h)
      exact repL_mono hX _ _ _ (hs.agree _ _) hr
    have plain : Plain w1 w.heap.size (cap * sz) := ⟨cs, t, hw1, hcs⟩
    cases ks with
    | nil =>
      have hb0 : bs = [] := by
        cases bs with
        | nil => rfl
        | cons b bs => obtain ⟨k, q, hk, _⟩ := hbs b (List.mem_cons_self ..); cases hk
      subst hb0
      simp only at hc
      rw [← hdst] at hc
      refine wp_fresh r hd hn (p := ⟨w.heap.size, [], .slice (some ⟨w.heap.size, 0, none⟩) len cap, true⟩) (Nat.le_add_right _ _) hfree hs hrun rfl (fun _ => Nat.le_refl _) ?_ ?_ hc
      · intro J' hJ'
        subst hlen
        refine ⟨hsz, _, cap, rfl, hcap, .inr ⟨rfl, rfl, plain, ?_, fun _ => rfl⟩⟩
        refine rows _ ?_
        rintro b hb hx (h0 | ⟨k, p, hp, hbp⟩)
        · exact hx (.inl h0)
        · rw [hJ'] at hp
          split at hp
          · cases hp; simp [Place.fp] at hbp; omega
          · exact hx (.inr ⟨k, p, hp, hbp⟩)
      · intro J' hJ'
        simp only [AV.rep]
        exact ⟨_, hJ', rfl, rfl⟩
    | cons k1 ks1 =>
      simp only at hc
      split at hc
      case h_1 => exact hc.elim
      rename_i hbg
      rw [← hdst] at hc
      generalize hks : k1 :: ks1 = ks at *
      have hdead : ∀ b ∈ bs, ∃ k q, J k = some q ∧ without ((10000 + d) :: ks) k = none ∧ b ∈ q.fp := by
        intro b hb
        obtain ⟨k, p, hk, hp, hbp⟩ := hbs b hb
        exact ⟨k, p, hp, without_none (List.mem_cons_of_mem _ hk), hbp⟩
      refine wp_new r hd hn (f := without ((10000 + d) :: ks)) (F := fun _ => False) (k0 := 10000 + d) (p := ⟨w.heap.size, bs, .slice (some ⟨w.heap.size, 0, none⟩) len cap, true⟩) (ob := .arr sz deep xs)
        (st1 := (st.ren (without ((10000 + d) :: ks))).set (10000 + d) (.arr sz deep xs)) (fun k j h => without_id h) (without_none (List.mem_cons_self ..)) (Nat.le_add_right _ _) (fun k hk => without_small (by simp only [bigs]; rw [show Nat.ble 10000 (10000 + d) = true from Nat.ble_eq_true_of_le (Nat.le_add_right _ _)]; exact hbg) hk) (hs.kept _) (fun b hb => hb.elim) hrun ?_ ?_ ?_ ?_ (fun t => look_renEnv _ t) (fun k => St.ren_set_look (fun k j h => without_id h) k) hc
      · simp only [Place.fp, List.nodup_cons]
        refine ⟨fun hm => ?_, hbnd⟩
        obtain ⟨k, q, hq, _, hb⟩ := hdead _ hm
        have := r.mem.lt _ (.inr ⟨k, q, hq, hb⟩)
        omega
      · intro b hb
        rcases List.mem_cons.1 hb with rfl | hb
        · exact .inr (Nat.le_refl _)
        · exact .inl (hdead b hb)
      · intro J' hJ'
        subst hlen
        refine ⟨hsz, _, cap, rfl, hcap, .inr ⟨rfl, rfl, plain, rows _ ?_, fun h => ?_⟩⟩
        · rintro b hb hx (h0 | ⟨k, p, hp, hbp⟩)
          · exact hx (.inl h0)
          · rw [hJ'] at hp
            split at hp
            · cases hp
              rcases List.mem_cons.1 hbp with hbe | hbp
              · simp only at hbe; omega
              · obtain ⟨k', q, hq, _, hb'⟩ := hdead b hbp
                exact hx (.inr ⟨k', q, hq, hb'⟩)
            · split at hp
              · exact hx (.inr ⟨k, p, hp, hbp⟩)
              · cases hp
        · exact hdeep h
      · intro J' hJ'
        simp only [AV.rep]
        exact ⟨_, hJ', rfl, rfl⟩

theorem litParts_ok {obj : Nat → Option Ob} (m : Mem X0 J obj w) {sz : Nat} : ∀ {ps : List (Nat × AV)} {j : Nat} {us : List Value} {xs : List D} {ks : List Nat}, litParts obj sz j ps = some (xs, ks) →
    AV.repL w (Xof X0 J) J (ps.map (·.2)) us → (∃ bs, repL w (Xof X0 J) xs us bs ∧ bs.Perm (ks.flatMap (given J))) ∧ (∀ x ∈ xs, x.cells.length = sz) ∧ (∀ u ∈ us, u.cells.size = sz ∧ ∀ c ∈ u.cells.toList, c.oneCell' = true) ∧ ps.map (·.1) = List.range' j ps.length
  | [], j, us, xs, ks, h, hr => by
    simp only [litParts, Option.some.injEq, Prod.mk.injEq] at h; obtain ⟨rfl, rfl⟩ := h
    simp only [List.map_nil, AV.repL] at hr; subst hr
    exact ⟨⟨[], by simp [repL], by simp⟩, by simp, by simp, by simp⟩
  | (i, v) :: ps, j, us, xs, ks, h, hr => by
    simp only [litParts] at h
    split at h
    case h_2 => cases h
    rename_i hij
    have hij := Nat.eq_of_beq_eq_true hij
    subst hij
    split at h
    case h_2 => cases h
    rename_i x k1 hx
    split at h
    case h_2 => cases h
    rename_i hlen
    simp only [Bool.and_eq_true] at hlen
    obtain ⟨hlen, hone⟩ := hlen
    have hlen := Nat.eq_of_beq_eq_true hlen
    split at h
    case h_2 => cases h
    rename_i l k2 hl
    simp only [Option.some.injEq, Prod.mk.injEq] at h; obtain ⟨rfl, rfl⟩ := h
    simp only [List.map_cons, AV.repL] at hr
    obtain ⟨u, us', rfl, h1, h2⟩ := hr
    obtain ⟨c1, hxr, hp1⟩ := absorb_rep m v u x k1 hx h1
    obtain ⟨⟨c2, g1, hp2⟩, g2, g3, g4⟩ := litParts_ok m hl h2
    have hul := repL_length (D.cells_rep hxr)
    simp only [Array.length_toList] at hul
    refine ⟨?_, ?_, ?_, ?_⟩
    · refine ⟨c1 ++ c2, ?_, by rw [List.flatMap_append]; exact hp1.append hp2⟩
      simp only [repL]
      exact ⟨u, us', _, _, rfl, rfl, hxr, g1⟩
    · intro y hy; rcases List.mem_cons.1 hy with rfl | hy
      · exact hlen
      · exact g2 y hy
    · intro y hy; rcases List.mem_cons.1 hy with rfl | hy
      · exact ⟨by omega, oneAll (cells_rep h1) hone⟩
      · exact g3 y hy
    · simp only [List.map_cons, List.length_cons, List.range'_succ, g4]

theorem Rel.pairs (r : Rel X0 J st a w) : ∀ {parts : List (Nat × Operand)} {ps : List (Nat × AV)}, Pm.pairs st parts = some ps → AV.repL w (Xof X0 J) J (ps.map (·.2)) (parts.map fun x => a.eval x.2) ∧ ps.map (·.1) = parts.map (·.1)
  | [], ps, h => by simp only [Pm.pairs, Option.some.injEq] at h; subst h; simp [AV.repL]
  | (j, x) :: parts, ps, h => by
    simp only [Pm.pairs] at h
    split at h
    case h_2 => cases h
    rename_i v hv
    split at h
    case h_2 => cases h
    rename_i l hl
    simp only [Option.some.injEq] at h; subst h
    obtain ⟨g1, g2⟩ := r.pairs hl
    simp only [List.map_cons, AV.repL]
    exact ⟨⟨_, _, rfl, r.ev hv, g1⟩, by rw [g2]⟩

theorem zip_range {β : Type} : ∀ (l : List (Nat × β)) (j : Nat), l.map (·.1) = List.range' j l.length → l = ((l.map (·.2)).zipIdx j).map fun x => (x.2, x.1)
  | [], j, _ => rfl
  | (i, v) :: l, j, h => by
    simp only [List.map_cons, List.length_cons, List.range'_succ, List.cons.injEq] at h
    obtain ⟨rfl, h⟩ := h
    simp only [List.map_cons, List.zipIdx_cons]
    rw [← zip_range l (i + 1) h]

theorem op_buildSlice (tok : TOk P cx.T) (r : Rel X0 J st a w) (hd : ∀ d, o.dst = some d → d < a.tmps.size) (hn : Leads P X0 J a w K next) {t : TypeId} {n : Nat} {parts : Array (Nat × Operand)} (hop : o.op = .buildSlice t n parts)
    (hc : evCmd P cx o.dst (opCmd cx.T o st) st K) : o.wp P a w next Q := by
  simp only [opCmd, hop] at hc
  split at hc
  case h_2 => exact hc.elim
  rename_i i hi
  have hti := tok t i hi
  subst hti
  split at hc
  case h_2 => exact hc.elim
  rename_i e hk
  have hu := kind_slice (P := P) (t := t) hk
  split at hc
  case h_2 => exact hc.elim
  rename_i ie hie
  have hte := tok e ie hie
  subst hte
  split at hc
  case h_2 => exact hc.elim
  rename_i hnp
  have hnp := Nat.eq_of_beq_eq_true hnp
  split at hc
  case h_2 => exact hc.elim
  rename_i ps hps
  split at hc
  case h_2 => exact hc.elim
  rename_i xs ks hxs
  split at hc
  case h_2 => exact hc.elim
  rename_i hnd
  split at hc
  case h_2 => exact hc.elim
  rename_i hbnd
  split at hc
  case h_2 => exact hc.elim
  rename_i zc hzc
  simp only [Bool.and_eq_true] at hbnd
  obtain ⟨hb1, hb2⟩ := hbnd
  have hpos : 0 < (tdOf P e).size := by simpa [Nat.blt_eq] using hb2
  have hpos : 0 < P.cellsOf e := hpos
  have hsmall : n * (tdOf P e).size ≤ 16777216 := Nat.le_of_ble_eq_true hb1
  have hsmall : n * P.cellsOf e ≤ 16777216 := hsmall
  obtain ⟨ei, z, hei, hzz, hzc'⟩ := zero_some hzc
  have hes : ei.size = P.cellsOf e := by simp [Program.cellsOf, hei]
  obtain ⟨g1, g2⟩ := r.pairs hps
  obtain ⟨⟨bs, l1, hperm⟩, l2, l3, l4⟩ := litParts_ok r.mem hxs g1
  have hlen : ps.length = n := by
    have := congrArg List.length g2
    simp at this; rw [this, hnp]
  have hxl : xs.length = n := by rw [repL_length l1]; simp [hnp]
  -- the literal's cells
  have hparts : (parts.map fun (i, x) => (i, a.eval x)).toList = ((parts.toList.map fun x => a.eval x.2).zipIdx 0).map fun x => (x.2, x.1) := by
    have e1 : (parts.map fun (i, x) => (i, a.eval x)).toList = parts.toList.map fun x => (x.1, a.eval x.2) := by simp
    rw [e1]
    have := zip_range (parts.toList.map fun x => (x.1, a.eval x.2)) 0 (by
      rw [List.map_map]
      have : (parts.toList.map ((·.1) ∘ fun x => (x.1, a.eval x.2))) = parts.toList.map (·.1) := rfl
      rw [this, ← g2, l4]; simp [hlen, hnp])
    rw [this]; simp [List.map_map]; rfl
  obtain ⟨cells, hfill, hsize, hget⟩ := Great.fill_dense (s := P.cellsOf e) hpos (parts.toList.map fun x => a.eval x.2) 0 ((Array.range (n * P.cellsOf e)).map (z.cells[· % z.cells.size]!)) (fun v hv => (l3 v hv).1) (by simp [hnp])
  have hfill' : Instr.fill (fun i => some (i * ei.size, ei.size)) ((Array.range (n * ei.size)).map (z.cells[· % z.cells.size]!)) (parts.map fun (i, x) => (i, a.eval x)).toList = some cells := by rw [hes, hparts]; exact hfill
  have hcsz : cells.size = n * P.cellsOf e := by rw [hsize]; simp
  have hrun : (Instr.buildSlice t n (parts.map fun (i, x) => (i, a.eval x))).run P w = .ok (.slice (some ⟨w.heap.size, 0, none⟩) n n) (w.alloc (.cells cells e)) := by
    by_cases hn0 : n = 0
    · subst hn0
      have hp0 : parts = #[] := by simpa using hnp.symm
      subst hp0
      have hc0 : cells = #[] := by simpa using hcsz
      subst hc0
      simp [Instr.buildSlice, run_underlying hu, sizeOf, typeInfo, hei, newRow, Instr.fill, Array.range_zero']
    · exact run_buildSlice (P := P) w t e n _ cells ei z hu hei hzz (by rw [hes]; omega) (by rw [hes]; exact Nat.mul_ne_zero hn0 (by omega)) hfill'
  refine wp_newArr r hd hn (cs := cells) (t := e) (len := n) (cap := n) (w1 := w.alloc (.cells cells e)) hc (Same.push w _) (heap_push w _) (by simp only [execOp, hop, Sem.run_bind, hrun, Result.andThen_ok, Sem.run_pure]) (bs := bs) (fun b hb => by obtain ⟨k, hk, hb⟩ := List.mem_flatMap.1 (hperm.mem_iff.1 hb); obtain ⟨p, hp, hbp⟩ := given_fp hb; exact ⟨k, p, hk, hp, hbp⟩) (hperm.nodup_iff.2 (given_nodup r.mem hnd)) (by intro h; cases ks with | nil => exact hperm.eq_nil | cons _ _ => simp [notNil] at h) hpos hxl.symm (Nat.le_refl _) hcsz l1 l2 l3 ?_
  intro i u hui j v hv
  have hil : i < n := by
    have := (List.getElem?_eq_some_iff.1 hui).1
    simpa [hnp] using this
  have hjs : j < P.cellsOf e := by
    have := (List.getElem?_eq_some_iff.1 hv).1
    rw [Array.length_toList, (l3 u (List.mem_of_getElem? hui)).1] at this; exact this
  have hg := hget (i * P.cellsOf e + j)
  have hlt : i * P.cellsOf e + j < n * P.cellsOf e := by
    have : (i + 1) * P.cellsOf e ≤ n * P.cellsOf e := Nat.mul_le_mul_right _ hil
    rw [Nat.add_mul, Nat.one_mul] at this; omega
  rw [if_pos ⟨by omega, by simpa [hnp] using hlt⟩] at hg
  have hdiv : (i * P.cellsOf e + j) / P.cellsOf e = i := by
    rw [Nat.mul_comm, Nat.mul_add_div hpos, Nat.div_eq_of_lt hjs]; rfl
  have hmod : (i * P.cellsOf e + j) % P.cellsOf e = j := by
    rw [Nat.mul_comm, Nat.mul_add_mod, Nat.mod_eq_of_lt hjs]
  rw [hdiv, hmod, Nat.sub_zero, hui] at hg
  simp only [Option.bind_some] at hg
  have hcell : cells[i * P.cellsOf e + j]? = some v := by rw [hg]; simpa using hv
  simp only [World.cell?]
  have : (w.alloc (.cells cells e)).heap[w.heap.size]? = some (.cells cells e (0, 0)) := heap_push w _
  rw [this]
  show (if (none : Option Nat).isSome = true then none else cells[i * P.cellsOf e + j]?) = some v
  simpa using hcell

theorem showL_none {w : World} {X : Nat → Prop} {J : Nat → Option Place} : ∀ {vs : List AV} {us : List Value} {l : List D} {ks : List Nat}, showL (fun _ => none) vs = some (l, ks) → AV.repL w X J vs us → repL w X l us []
  | [], us, l, ks, h, hr => by
    simp only [showL, Option.some.injEq, Prod.mk.injEq] at h; obtain ⟨rfl, rfl⟩ := h
    simp only [AV.repL] at hr; subst hr
    simp [repL]
  | v :: vs, us, l, ks, h, hr => by
    simp only [showL] at h
    split at h
    case h_2 => cases h
    rename_i x k1 hx
    split at h
    case h_2 => cases h
    rename_i l' k2 hl
    simp only [Option.some.injEq, Prod.mk.injEq] at h; obtain ⟨rfl, rfl⟩ := h
    simp only [AV.repL] at hr
    obtain ⟨u, us', rfl, h1, h2⟩ := hr
    simp only [repL]
    refine ⟨u, us', [], [], rfl, rfl, ?_, showL_none hl h2⟩
    cases v with
    | d y => simp only [AV.show, Option.some.injEq, Prod.mk.injEq] at hx; obtain ⟨rfl, rfl⟩ := hx; exact h1
    | snil =>
      simp only [AV.show, Option.some.injEq, Prod.mk.injEq] at hx; obtain ⟨rfl, rfl⟩ := hx
      simp only [AV.rep] at h1
      simp only [D.rep]
      exact ⟨trivial, trivial, none, 0, h1, Nat.le_refl _, .inl trivial⟩
    | agg cs =>
      simp only [AV.show] at hx
      split at hx
      · rename_i l2 k3 hl2
        simp only [Option.some.injEq, Prod.mk.injEq] at hx; obtain ⟨rfl, rfl⟩ := hx
        simp only [AV.rep] at h1
        obtain ⟨vs', rfl, hr'⟩ := h1
        simp only [D.rep]
        exact ⟨vs', rfl, showL_none hl2 hr'⟩
      · cases hx
    | own k => simp [AV.show] at hx
    | _ => simp [AV.show] at hx

theorem mod_cells {z : Array Value} {n s i j : Nat} (hs : z.size = s) (hi : i < n) (hj : j < s) : (madeCells z (n * s))[i * s + j]? = z[j]? := by
  have hlt : i * s + j < n * s := by
    have : (i + 1) * s ≤ n * s := Nat.mul_le_mul_right _ hi
    rw [Nat.add_mul, Nat.one_mul] at this; omega
  have hmod : (i * s + j) % s = j := by rw [Nat.mul_comm, Nat.mul_add_mod, Nat.mod_eq_of_lt hj]
  simp only [madeCells, Array.getElem?_map, Array.getElem?_range, hs, hlt, if_true, Option.map_some, hmod]
  have hj' : j < z.size := by omega
  simp [hj']

theorem repL_replicate {w : World} {X : Nat → Prop} {x : D} {u : Value} (h : x.rep w X u []) : ∀ n : Nat, repL w X (List.replicate n x) (List.replicate n u) []
  | 0 => by simp [repL]
  | n + 1 => by
    simp only [List.replicate_succ, repL]
    exact ⟨u, _, [], [], rfl, rfl, h, repL_replicate h n⟩

theorem const_one {v : Value} {x : AV} (h : ofConst v = some x) : v.cells = #[v] := by
  cases v <;> first | rfl | (simp [ofConst] at h; done)

theorem op_makeSlice (tok : TOk P cx.T) (r : Rel X0 J st a w) (hd : ∀ d, o.dst = some d → d < a.tmps.size) (hn : Leads P X0 J a w K next) {t : TypeId} {x y : Operand} (hop : o.op = .makeSlice t x y)
    (hc : evCmd P cx o.dst (opCmd cx.T o st) st K) : o.wp P a w next Q := by
  simp only [opCmd, hop] at hc
  split at hc
  case h_2 => exact hc.elim
  rename_i i hi
  have hti := tok t i hi
  subst hti
  split at hc
  case h_2 => exact hc.elim
  rename_i e hk
  have hu := kind_slice (P := P) (t := t) hk
  split at hc
  case h_2 => exact hc.elim
  rename_i ie hie
  have hte := tok e ie hie
  subst hte
  split at hc
  case h_2 => exact hc.elim
  rename_i kx n hx
  split at hc
  case h_2 => exact hc.elim
  rename_i ky m hy
  split at hc
  case h_2 => exact hc.elim
  rename_i z0 hz0
  obtain ⟨ei, z, hei, hzz, hzc⟩ := zero_some hz0
  split at hc
  case h_2 => exact hc.elim
  rename_i zd kz hzd
  split at hc
  case h_2 => exact hc.elim
  rename_i hbnd
  simp only [Bool.and_eq_true] at hbnd
  obtain ⟨hb1, hb2⟩ := hbnd
  have hlen : zd.length = (tdOf P e).size := Nat.eq_of_beq_eq_true hb1
  have hpos : 0 < (tdOf P e).size := by simpa [Nat.blt_eq] using hb2
  obtain ⟨⟨rfl, h0, hb, hm⟩, hc⟩ := hc
  have hxv := r.ev hx
  have hyv := r.ev hy
  simp only [AV.rep, D.rep] at hxv hyv
  have hes : ei.size = P.cellsOf e := by simp [Program.cellsOf, hei]
  have heb : ei.bytes = P.bytesOf e := by simp [Program.bytesOf, hei]
  have hzr : repL w (Xof X0 J) zd z.cells.toList [] := showL_none hzd (constsOf_rep (J := J) hzc)
  have hzl := repL_length hzr
  simp only [Array.length_toList] at hzl
  have hpos : 0 < P.cellsOf e := hpos
  have hzs : z.cells.size = P.cellsOf e := by rw [← hzl]; exact hlen
  have hb' : (P.bytesOf e : Int) * n ≤ 281474976710656 := by
    have := hb; simp only [tdOf] at this; rw [Int.mul_comm]; exact this
  have hrun := run_make (P := P) w t e ei z hu hei hzz kx ky n n h0 (Int.le_refl _) (by rw [heb]; exact hb') (by simp only [maxLen] at hm; omega)
  rw [hes] at hrun
  have hz1 : ∀ c ∈ z.cells.toList, c.oneCell' = true := by
    have key : ∀ (vs : List Value) (l : List AV), constsOf vs = some l → ∀ c ∈ vs, c.oneCell' = true := by
      intro vs
      induction vs with
      | nil => intro l _ c hc; simp at hc
      | cons v vs ih =>
        intro l hl c hc
        simp only [constsOf] at hl
        split at hl
        · rename_i x hx
          split at hl
          · rename_i l' hl'
            rcases List.mem_cons.1 hc with rfl | hc
            · cases c <;> first | rfl | (simp [ofConst] at hx; done)
            · exact ih l' hl' c hc
          · cases hl
        · cases hl
    exact key _ _ hzc
  have fin : ∀ {ed : D} {el : Value}, el.cells = z.cells → ed.rep w (Xof X0 J) el [] → evCmd P cx o.dst (.newArr (tdOf P e).size false (List.replicate n.toNat ed) []) st K → o.wp P a w next Q := by
    intro ed el hel helr hc
    refine wp_newArr r hd hn (cs := madeCells z.cells (n.toNat * P.cellsOf e)) (t := e) (len := n.toNat) (cap := n.toNat) (w1 := w.alloc (.cells (madeCells z.cells (n.toNat * P.cellsOf e)) e)) hc (Same.push w _) (heap_push w _)
      (by simp only [execOp, hop, hxv.1, hyv.1, Sem.run_bind, hrun, Result.andThen_ok, Sem.run_pure]) (bs := []) (by simp) List.nodup_nil (fun _ => rfl) hpos (by simp) (Nat.le_refl _) (size_madeCells _ _) (us := List.replicate n.toNat el) (repL_replicate helr _) ?_ ?_ ?_
    · intro x hx
      rw [(List.mem_replicate.1 hx).2]
      have := repL_length (D.cells_rep helr)
      rw [this, hel, Array.length_toList, hzs]; rfl
    · intro u hu
      rw [(List.mem_replicate.1 hu).2, hel]; exact ⟨hzs, hz1⟩
    · intro i u hui j v hv
      have hil : i < n.toNat := by
        have := (List.getElem?_eq_some_iff.1 hui).1
        simpa using this
      have hue : u = el := by
        have := List.mem_of_getElem? hui
        exact (List.mem_replicate.1 this).2
      subst hue
      rw [hel] at hv
      have hj : j < P.cellsOf e := by
        have := (List.getElem?_eq_some_iff.1 hv).1
        rw [Array.length_toList, hzs] at this; exact this
      simp only [World.cell?]
      have : (w.alloc (.cells (madeCells z.cells (n.toNat * P.cellsOf e)) e)).heap[w.heap.size]? = some (.cells (madeCells z.cells (n.toNat * P.cellsOf e)) e (0, 0)) := heap_push w _
      rw [this]
      show (if (none : Option Nat).isSome = true then none else (madeCells z.cells (n.toNat * P.cellsOf e))[i * P.cellsOf e + j]?) = some v
      rw [mod_cells hzs hil hj]
      simpa using hv

  split at hc
  · exact fin (el := .agg z.cells) rfl (by simp only [D.rep]; exact ⟨_, rfl, hzr⟩) hc
  · exact hc.elim
  · split at hc
    · rename_i z1
      simp only [repL] at hzr
      obtain ⟨v, vs', b1, b2, hzv, hbb, hv, rfl, _⟩ := hzr
      rw [(List.append_eq_nil_iff.1 hbb.symm).1] at hv
      have hzc1 : z.cells = #[v] := by apply Array.ext'; simpa using hzv
      have hv1 : v.cells = #[v] := by
        rw [hzv] at hzc
        simp only [constsOf] at hzc
        split at hzc
        · rename_i x0 hx0; exact const_one hx0
        · cases hzc
      exact fin (el := v) (by rw [hv1, hzc1]) hv hc
    · exact hc.elim
end
end Go.Pm
