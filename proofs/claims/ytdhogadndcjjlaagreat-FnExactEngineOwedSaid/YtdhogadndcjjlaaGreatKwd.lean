/-
A part of the proof (packed).
-/
import Derived.Laws.BytesString
import Derived.Deep.AppendSrc
import Derived.Test.YtdhogadndcjjlaaGreatKwc
namespace Go.Pm
open Go
set_option linter.unusedVariables false
variable {P : Program}
section
variable {cx : Cx} {X0 : Nat → Prop} {J : Nat → Option Place} {st : St} {a : Act} {w : World} {o : Oper} {K : St → Prop} {next : Act → World → Prop} {Q : Exit → Act → World → Prop}
theorem repRows_of {w : World} {X : Nat → Prop} {b sz : Nat} : ∀ {xs : List D} {us : List Value} {bs : List Nat} {off : Nat}, repL w X xs us bs → (∀ x ∈ xs, x.cells.length = sz) → (∀ u ∈ us, u.cells.size = sz ∧ ∀ c ∈ u.cells.toList, c.oneCell' = true) →
    (∀ i u, us[i]? = some u → w.rangeAt b (off + i * sz) u.cells.toList) → repRows w X b sz xs off bs
  | [], us, bs, off, h, _, _, _ => by simp only [repL] at h; simp only [repRows]; exact h.2
  | x :: xs, us, bs, off, h, h1, h2, h3 => by
    simp only [repL] at h
    obtain ⟨u, us', b1, b2, rfl, rfl, g1, g2⟩ := h
    simp only [repRows]
    refine ⟨u, b1, b2, rfl, g1, (h2 u (List.mem_cons_self ..)).1, ⟨h1 x (List.mem_cons_self ..), (h2 u (List.mem_cons_self ..)).2⟩, by simpa using h3 0 u rfl, ?_⟩
    refine repRows_of g2 (fun y hy => h1 y (List.mem_cons_of_mem _ hy)) (fun y hy => h2 y (List.mem_cons_of_mem _ hy)) fun i u' hu' => ?_
    have := h3 (i + 1) u' (by simpa using hu')
    rwa [show off + (i + 1) * sz = off + sz + i * sz by rw [Nat.add_mul, Nat.one_mul]; omega] at this
theorem St.ren_set_look {st : St} {f : Nat → Option Nat} (hf : ∀ k j, f k = some j → j = k) {k0 : Nat} {ob : Ob} (k : Nat) : look k ((st.ren f).set k0 ob).obj = if k0 = k then some ob else match f k with | some _ => (look k st.obj).map (Ob.ren f) | none => none := by
  rw [St.set_look]
  show (if k0 = k then some ob else look k (renObj f st.obj)) = _
  rw [look_renObj hf]
  cases f k <;> rfl
theorem wp_newArr (r : Rel X0 J st a w) (hd : ∀ d, o.dst = some d → d < a.tmps.size) (hn : Leads P X0 J a w K next) {sz : Nat} {deep : Bool} {xs : List D} {ks : List Nat} {cs : Array Value} {t : TypeId} {len cap : Nat} {w1 : World}
    (hc : evCmd P cx o.dst (.newArr sz deep xs ks) st K) (hs : Same w w1) (hw1 : w1.heap[w.heap.size]? = some (.cells cs t (0, 0)))
    (hrun : (execOp a.eval o).run P w = .ok (.value (.slice (some ⟨w.heap.size, 0, none⟩) len cap)) w1)
    {bs : List Nat} (hbs : ∀ b ∈ bs, ∃ k q, k ∈ ks ∧ J k = some q ∧ b ∈ q.fp) (hbnd : bs.Nodup) (hdeep : deep = false → bs = []) (hsz : 0 < sz) (hlen : len = xs.length) (hcap : len ≤ cap) (hcs : cs.size = cap * sz)
    {us : List Value} (hr : repL w (Xof X0 J) xs us bs) (hx : ∀ x ∈ xs, x.cells.length = sz) (hu : ∀ u ∈ us, u.cells.size = sz ∧ ∀ c ∈ u.cells.toList, c.oneCell' = true)
    (hcells : ∀ i u, us[i]? = some u → w1.rangeAt w.heap.size (i * sz) u.cells.toList) : o.wp P a w next Q := by
  cases hlit : litAt cx o.dst with
  | true =>
    simp only [evCmd, hlit] at hc
    split at hc
    · exact hc.elim
    split at hc
    case h_2 => exact hc.elim
    rename_i hb
    have hb0 : bs = [] := hdeep rfl
    subst hb0
    refine wp_val r hd hn hc hrun hs ?_
    simp only [AV.rep, D.rep]
    subst hlen
    refine ⟨trivial, trivial, _, cap, rfl, hcap, ?_⟩
    by_cases hxs : xs = []
    · exact .inl hxs
    · refine .inr ⟨w.heap.size, 0, sz, hxs, rfl, hsz, ?_, fun hx => Nat.lt_irrefl _ (r.mem.lt _ hx)⟩
      refine repRows_of (us := us) ?_ hx hu (fun i u h => by rw [Nat.zero_add]; exact hcells i u h)
      exact repL_mono (fun _ _ h => h) _ _ _ (hs.agree _ _) hr
  | false =>
  cases hdst : o.dst with
  | none => simp only [evCmd, hlit] at hc; rw [hdst] at hc; exact hc.elim
  | some d =>
    simp only [evCmd, hlit] at hc
    rw [hdst] at hc
    simp only at hc
    split at hc
    case h_2 => exact hc.elim
    rename_i hfree
    have hJ0 : J (10000 + d) = none := r.mem.free hfree
    have rows : ∀ X' : Nat → Prop, (∀ b, b < w.heap.size → ¬ Xof X0 J b → ¬ X' b) → repRows w1 X' w.heap.size sz xs 0 bs := by
      intro X' hX
      refine repRows_of (us := us) ?_ hx hu (fun i u h => by rw [Nat.zero_add]; exact hcells i u h)
      exact repL_mono hX _ _ _ (hs.agree _ _) hr
    have plain : Plain w1 w.heap.size (cap * sz) := ⟨cs, t, hw1, hcs⟩
    cases ks with
    | nil =>
      have hb0 : bs = [] := by
        cases bs with
        | nil => rfl
        | cons b bs => obtain ⟨k, q, hk, _⟩ := hbs b (List.mem_cons_self ..); cases hk
      subst hb0
      simp only at hc
      rw [← hdst] at hc
      refine wp_fresh r hd hn (p := ⟨w.heap.size, [], .slice (some ⟨w.heap.size, 0, none⟩) len cap, true⟩) (Nat.le_add_right _ _) hfree hs hrun rfl (fun _ => Nat.le_refl _) ?_ ?_ hc
      · intro J' hJ'
        subst hlen
        refine ⟨hsz, _, cap, rfl, hcap, .inr ⟨rfl, rfl, plain, ?_, fun _ => rfl⟩⟩
        refine rows _ ?_
        rintro b hb hx (h0 | ⟨k, p, hp, hbp⟩)
        · exact hx (.inl h0)
        · rw [hJ'] at hp
          split at hp
          · cases hp; simp [Place.fp] at hbp; omega
          · exact hx (.inr ⟨k, p, hp, hbp⟩)
      · intro J' hJ'
        simp only [AV.rep]
        exact ⟨_, hJ', rfl, rfl⟩
    | cons k1 ks1 =>
      simp only at hc
      split at hc
      case h_1 => exact hc.elim
      rename_i hbg
      rw [← hdst] at hc
      generalize hks : k1 :: ks1 = ks at *
      have hdead : ∀ b ∈ bs, ∃ k q, J k = some q ∧ without ((10000 + d) :: ks) k = none ∧ b ∈ q.fp := by
        intro b hb
        obtain ⟨k, p, hk, hp, hbp⟩ := hbs b hb
        exact ⟨k, p, hp, without_none (List.mem_cons_of_mem _ hk), hbp⟩
      refine wp_new r hd hn (f := without ((10000 + d) :: ks)) (F := fun _ => False) (k0 := 10000 + d) (p := ⟨w.heap.size, bs, .slice (some ⟨w.heap.size, 0, none⟩) len cap, true⟩) (ob := .arr sz deep xs)
        (st1 := (st.ren (without ((10000 + d) :: ks))).set (10000 + d) (.arr sz deep xs)) (fun k j h => without_id h) (without_none (List.mem_cons_self ..)) (Nat.le_add_right _ _) (fun k hk => without_small (by simp only [bigs]; rw [show Nat.ble 10000 (10000 + d) = true from Nat.ble_eq_true_of_le (Nat.le_add_right _ _)]; exact hbg) hk) (hs.kept _) (fun b hb => hb.elim) hrun ?_ ?_ ?_ ?_ (fun t => look_renEnv _ t) (fun k => St.ren_set_look (fun k j h => without_id h) k) hc
      · simp only [Place.fp, List.nodup_cons]
        refine ⟨fun hm => ?_, hbnd⟩
        obtain ⟨k, q, hq, _, hb⟩ := hdead _ hm
        have := r.mem.lt _ (.inr ⟨k, q, hq, hb⟩)
        omega
      · intro b hb
        rcases List.mem_cons.1 hb with rfl | hb
        · exact .inr (Nat.le_refl _)
        · exact .inl (hdead b hb)
      · intro J' hJ'
        subst hlen
        refine ⟨hsz, _, cap, rfl, hcap, .inr ⟨rfl, rfl, plain, rows _ ?_, fun h => ?_⟩⟩
        · rintro b hb hx (h0 | ⟨k, p, hp, hbp⟩)
          · exact hx (.inl h0)
          · rw [hJ'] at hp
            split at hp
            · cases hp
              rcases List.mem_cons.1 hbp with hbe | hbp
              · simp only at hbe; omega
              · obtain ⟨k', q, hq, _, hb'⟩ := hdead b hbp
                exact hx (.inr ⟨k', q, hq, hb'⟩)
            · split at hp
              · exact hx (.inr ⟨k, p, hp, hbp⟩)
              · cases hp
        · exact hdeep h
      · intro J' hJ'
        simp only [AV.rep]
        exact ⟨_, hJ', rfl, rfl⟩
theorem litParts_ok {obj : Nat → Option Ob} (m : Mem X0 J obj w) {sz : Nat} : ∀ {ps : List (Nat × AV)} {j : Nat} {us : List Value} {xs : List D} {ks : List Nat}, litParts obj sz j ps = some (xs, ks) →
    AV.repL w (Xof X0 J) J (ps.map (·.2)) us → (∃ bs, repL w (Xof X0 J) xs us bs ∧ bs.Perm (ks.flatMap (given J))) ∧ (∀ x ∈ xs, x.cells.length = sz) ∧ (∀ u ∈ us, u.cells.size = sz ∧ ∀ c ∈ u.cells.toList, c.oneCell' = true) ∧ ps.map (·.1) = List.range' j ps.length
  | [], j, us, xs, ks, h, hr => by
    simp only [litParts, Option.some.injEq, Prod.mk.injEq] at h; obtain ⟨rfl, rfl⟩ := h
    simp only [List.map_nil, AV.repL] at hr; subst hr
    exact ⟨⟨[], by simp [repL], by simp⟩, by simp, by simp, by simp⟩
  | (i, v) :: ps, j, us, xs, ks, h, hr => by
    simp only [litParts] at h
    split at h
    case h_2 => cases h
    rename_i hij
    have hij := Nat.eq_of_beq_eq_true hij
    subst hij
    split at h
    case h_2 => cases h
    rename_i x k1 hx
    split at h
    case h_2 => cases h
    rename_i hlen
    simp only [Bool.and_eq_true] at hlen
    obtain ⟨hlen, hone⟩ := hlen
    have hlen := Nat.eq_of_beq_eq_true hlen
    split at h
    case h_2 => cases h
    rename_i l k2 hl
    simp only [Option.some.injEq, Prod.mk.injEq] at h; obtain ⟨rfl, rfl⟩ := h
    simp only [List.map_cons, AV.repL] at hr
    obtain ⟨u, us', rfl, h1, h2⟩ := hr
    obtain ⟨c1, hxr, hp1⟩ := absorb_rep m v u x k1 hx h1
    obtain ⟨⟨c2, g1, hp2⟩, g2, g3, g4⟩ := litParts_ok m hl h2
    have hul := repL_length (D.cells_rep hxr)
    simp only [Array.length_toList] at hul
    refine ⟨?_, ?_, ?_, ?_⟩
    · refine ⟨c1 ++ c2, ?_, by rw [List.flatMap_append]; exact hp1.append hp2⟩
      simp only [repL]
      exact ⟨u, us', _, _, rfl, rfl, hxr, g1⟩
    · intro y hy; rcases List.mem_cons.1 hy with rfl | hy
      · exact hlen
      · exact g2 y hy
    · intro y hy; rcases List.mem_cons.1 hy with rfl | hy
      · exact ⟨by omega, oneAll (cells_rep h1) hone⟩
      · exact g3 y hy
    · simp only [List.map_cons, List.length_cons, List.range'_succ, g4]
theorem Rel.pairs (r : Rel X0 J st a w) : ∀ {parts : List (Nat × Operand)} {ps : List (Nat × AV)}, Pm.pairs st parts = some ps → AV.repL w (Xof X0 J) J (ps.map (·.2)) (parts.map fun x => a.eval x.2) ∧ ps.map (·.1) = parts.map (·.1)
  | [], ps, h => by simp only [Pm.pairs, Option.some.injEq] at h; subst h; simp [AV.repL]
  | (j, x) :: parts, ps, h => by
    simp only [Pm.pairs] at h
    split at h
    case h_2 => cases h
    rename_i v hv
    split at h
    case h_2 => cases h
    rename_i l hl
    simp only [Option.some.injEq] at h; subst h
    obtain ⟨g1, g2⟩ := r.pairs hl
    simp only [List.map_cons, AV.repL]
    exact ⟨⟨_, _, rfl, r.ev hv, g1⟩, by rw [g2]⟩
theorem zip_range {β : Type} : ∀ (l : List (Nat × β)) (j : Nat), l.map (·.1) = List.range' j l.length → l = ((l.map (·.2)).zipIdx j).map fun x => (x.2, x.1)
  | [], j, _ => rfl
  | (i, v) :: l, j, h => by
    simp only [List.map_cons, List.length_cons, List.range'_succ, List.cons.injEq] at h
    obtain ⟨rfl, h⟩ := h
    simp only [List.map_cons, List.zipIdx_cons]
    rw [← zip_range l (i + 1) h]
theorem op_buildSlice (tok : TOk P cx.T) (r : Rel X0 J st a w) (hd : ∀ d, o.dst = some d → d < a.tmps.size) (hn : Leads P X0 J a w K next) {t : TypeId} {n : Nat} {parts : Array (Nat × Operand)} (hop : o.op = .buildSlice t n parts)
    (hc : evCmd P cx o.dst (opCmd cx.T o st) st K) : o.wp P a w next Q := by
  simp only [opCmd, hop] at hc
  split at hc
  case h_2 => exact hc.elim
  rename_i i hi
  have hti := tok t i hi
  subst hti
  split at hc
  case h_2 => exact hc.elim
  rename_i e hk
  have hu := kind_slice (P := P) (t := t) hk
  split at hc
  case h_2 => exact hc.elim
  rename_i ie hie
  have hte := tok e ie hie
  subst hte
  split at hc
  case h_2 => exact hc.elim
  rename_i hnp
  have hnp := Nat.eq_of_beq_eq_true hnp
  split at hc
  case h_2 => exact hc.elim
  rename_i ps hps
  split at hc
  case h_2 => exact hc.elim
  rename_i xs ks hxs
  split at hc
  case h_2 => exact hc.elim
  rename_i hnd
  split at hc
  case h_2 => exact hc.elim
  rename_i hbnd
  split at hc
  case h_2 => exact hc.elim
  rename_i zc hzc
  simp only [Bool.and_eq_true] at hbnd
  obtain ⟨hb1, hb2⟩ := hbnd
  have hpos : 0 < (tdOf P e).size := by simpa [Nat.blt_eq] using hb2
  have hpos : 0 < P.cellsOf e := hpos
  have hsmall : n * (tdOf P e).size ≤ 16777216 := Nat.le_of_ble_eq_true hb1
  have hsmall : n * P.cellsOf e ≤ 16777216 := hsmall
  obtain ⟨ei, z, hei, hzz, hzc'⟩ := zero_some hzc
  have hes : ei.size = P.cellsOf e := by simp [Program.cellsOf, hei]
  obtain ⟨g1, g2⟩ := r.pairs hps
  obtain ⟨⟨bs, l1, hperm⟩, l2, l3, l4⟩ := litParts_ok r.mem hxs g1
  have hlen : ps.length = n := by
    have := congrArg List.length g2
    simp at this; rw [this, hnp]
  have hxl : xs.length = n := by rw [repL_length l1]; simp [hnp]
  have hparts : (parts.map fun (i, x) => (i, a.eval x)).toList = ((parts.toList.map fun x => a.eval x.2).zipIdx 0).map fun x => (x.2, x.1) := by
    have e1 : (parts.map fun (i, x) => (i, a.eval x)).toList = parts.toList.map fun x => (x.1, a.eval x.2) := by simp
    rw [e1]
    have := zip_range (parts.toList.map fun x => (x.1, a.eval x.2)) 0 (by
      rw [List.map_map]
      have : (parts.toList.map ((·.1) ∘ fun x => (x.1, a.eval x.2))) = parts.toList.map (·.1) := rfl
      rw [this, ← g2, l4]; simp [hlen, hnp])
    rw [this]; simp [List.map_map]; rfl
  obtain ⟨cells, hfill, hsize, hget⟩ := Great.fill_dense (s := P.cellsOf e) hpos (parts.toList.map fun x => a.eval x.2) 0 ((Array.range (n * P.cellsOf e)).map (z.cells[· % z.cells.size]!)) (fun v hv => (l3 v hv).1) (by simp [hnp])
  have hfill' : Instr.fill (fun i => some (i * ei.size, ei.size)) ((Array.range (n * ei.size)).map (z.cells[· % z.cells.size]!)) (parts.map fun (i, x) => (i, a.eval x)).toList = some cells := by rw [hes, hparts]; exact hfill
  have hcsz : cells.size = n * P.cellsOf e := by rw [hsize]; simp
  have hrun : (Instr.buildSlice t n (parts.map fun (i, x) => (i, a.eval x))).run P w = .ok (.slice (some ⟨w.heap.size, 0, none⟩) n n) (w.alloc (.cells cells e)) := by
    by_cases hn0 : n = 0
    · subst hn0
      have hp0 : parts = #[] := by simpa using hnp.symm
      subst hp0
      have hc0 : cells = #[] := by simpa using hcsz
      subst hc0
      simp [Instr.buildSlice, run_underlying hu, sizeOf, typeInfo, hei, newRow, Instr.fill, Array.range_zero']
    · exact run_buildSlice (P := P) w t e n _ cells ei z hu hei hzz (by rw [hes]; omega) (by rw [hes]; exact Nat.mul_ne_zero hn0 (by omega)) hfill'
  refine wp_newArr r hd hn (cs := cells) (t := e) (len := n) (cap := n) (w1 := w.alloc (.cells cells e)) hc (Same.push w _) (heap_push w _) (by simp only [execOp, hop, Sem.run_bind, hrun, Result.andThen_ok, Sem.run_pure]) (bs := bs) (fun b hb => by obtain ⟨k, hk, hb⟩ := List.mem_flatMap.1 (hperm.mem_iff.1 hb); obtain ⟨p, hp, hbp⟩ := given_fp hb; exact ⟨k, p, hk, hp, hbp⟩) (hperm.nodup_iff.2 (given_nodup r.mem hnd)) (by intro h; cases ks with | nil => exact hperm.eq_nil | cons _ _ => simp [notNil] at h) hpos hxl.symm (Nat.le_refl _) hcsz l1 l2 l3 ?_
  intro i u hui j v hv
  have hil : i < n := by
    have := (List.getElem?_eq_some_iff.1 hui).1
    simpa [hnp] using this
  have hjs : j < P.cellsOf e := by
    have := (List.getElem?_eq_some_iff.1 hv).1
    rw [Array.length_toList, (l3 u (List.mem_of_getElem? hui)).1] at this; exact this
  have hg := hget (i * P.cellsOf e + j)
  have hlt : i * P.cellsOf e + j < n * P.cellsOf e := by
    have : (i + 1) * P.cellsOf e ≤ n * P.cellsOf e := Nat.mul_le_mul_right _ hil
    rw [Nat.add_mul, Nat.one_mul] at this; omega
  rw [if_pos ⟨by omega, by simpa [hnp] using hlt⟩] at hg
  have hdiv : (i * P.cellsOf e + j) / P.cellsOf e = i := by
    rw [Nat.mul_comm, Nat.mul_add_div hpos, Nat.div_eq_of_lt hjs]; rfl
  have hmod : (i * P.cellsOf e + j) % P.cellsOf e = j := by
    rw [Nat.mul_comm, Nat.mul_add_mod, Nat.mod_eq_of_lt hjs]
  rw [hdiv, hmod, Nat.sub_zero, hui] at hg
  simp only [Option.bind_some] at hg
  have hcell : cells[i * P.cellsOf e + j]? = some v := by rw [hg]; simpa using hv
  simp only [World.cell?]
  have : (w.alloc (.cells cells e)).heap[w.heap.size]? = some (.cells cells e (0, 0)) := heap_push w _
  rw [this]
  show (if (none : Option Nat).isSome = true then none else cells[i * P.cellsOf e + j]?) = some v
  simpa using hcell
theorem showL_none {w : World} {X : Nat → Prop} {J : Nat → Option Place} : ∀ {vs : List AV} {us : List Value} {l : List D} {ks : List Nat}, showL (fun _ => none) vs = some (l, ks) → AV.repL w X J vs us → repL w X l us []
  | [], us, l, ks, h, hr => by
    simp only [showL, Option.some.injEq, Prod.mk.injEq] at h; obtain ⟨rfl, rfl⟩ := h
    simp only [AV.repL] at hr; subst hr
    simp [repL]
  | v :: vs, us, l, ks, h, hr => by
    simp only [showL] at h
    split at h
    case h_2 => cases h
    rename_i x k1 hx
    split at h
    case h_2 => cases h
    rename_i l' k2 hl
    simp only [Option.some.injEq, Prod.mk.injEq] at h; obtain ⟨rfl, rfl⟩ := h
    simp only [AV.repL] at hr
    obtain ⟨u, us', rfl, h1, h2⟩ := hr
    simp only [repL]
    refine ⟨u, us', [], [], rfl, rfl, ?_, showL_none hl h2⟩
    cases v with
    | d y => simp only [AV.show, Option.some.injEq, Prod.mk.injEq] at hx; obtain ⟨rfl, rfl⟩ := hx; exact h1
    | snil =>
      simp only [AV.show, Option.some.injEq, Prod.mk.injEq] at hx; obtain ⟨rfl, rfl⟩ := hx
      simp only [AV.rep] at h1
      simp only [D.rep]
      exact ⟨trivial, trivial, none, 0, h1, Nat.le_refl _, .inl trivial⟩
    | agg cs =>
      simp only [AV.show] at hx
      split at hx
      · rename_i l2 k3 hl2
        simp only [Option.some.injEq, Prod.mk.injEq] at hx; obtain ⟨rfl, rfl⟩ := hx
        simp only [AV.rep] at h1
        obtain ⟨vs', rfl, hr'⟩ := h1
        simp only [D.rep]
        exact ⟨vs', rfl, showL_none hl2 hr'⟩
      · cases hx
    | own k => simp [AV.show] at hx
    | _ => simp [AV.show] at hx
theorem mod_cells {z : Array Value} {n s i j : Nat} (hs : z.size = s) (hi : i < n) (hj : j < s) : (madeCells z (n * s))[i * s + j]? = z[j]? := by
  have hlt : i * s + j < n * s := by
    have : (i + 1) * s ≤ n * s := Nat.mul_le_mul_right _ hi
    rw [Nat.add_mul, Nat.one_mul] at this; omega
  have hmod : (i * s + j) % s = j := by rw [Nat.mul_comm, Nat.mul_add_mod, Nat.mod_eq_of_lt hj]
  simp only [madeCells, Array.getElem?_map, Array.getElem?_range, hs, hlt, if_true, Option.map_some, hmod]
  have hj' : j < z.size := by omega
  simp [hj']
theorem repL_replicate {w : World} {X : Nat → Prop} {x : D} {u : Value} (h : x.rep w X u []) : ∀ n : Nat, repL w X (List.replicate n x) (List.replicate n u) []
  | 0 => by simp [repL]
  | n + 1 => by
    simp only [List.replicate_succ, repL]
    exact ⟨u, _, [], [], rfl, rfl, h, repL_replicate h n⟩
theorem const_one {v : Value} {x : AV} (h : ofConst v = some x) : v.cells = #[v] := by
  cases v <;> first | rfl | (simp [ofConst] at h; done)
theorem op_makeSlice (tok : TOk P cx.T) (r : Rel X0 J st a w) (hd : ∀ d, o.dst = some d → d < a.tmps.size) (hn : Leads P X0 J a w K next) {t : TypeId} {x y : Operand} (hop : o.op = .makeSlice t x y)
    (hc : evCmd P cx o.dst (opCmd cx.T o st) st K) : o.wp P a w next Q := by
  simp only [opCmd, hop] at hc
  split at hc
  case h_2 => exact hc.elim
  rename_i i hi
  have hti := tok t i hi
  subst hti
  split at hc
  case h_2 => exact hc.elim
  rename_i e hk
  have hu := kind_slice (P := P) (t := t) hk
  split at hc
  case h_2 => exact hc.elim
  rename_i ie hie
  have hte := tok e ie hie
  subst hte
  split at hc
  case h_2 => exact hc.elim
  rename_i kx n hx
  split at hc
  case h_2 => exact hc.elim
  rename_i ky m hy
  split at hc
  case h_2 => exact hc.elim
  rename_i z0 hz0
  obtain ⟨ei, z, hei, hzz, hzc⟩ := zero_some hz0
  split at hc
  case h_2 => exact hc.elim
  rename_i zd kz hzd
  split at hc
  case h_2 => exact hc.elim
  rename_i hbnd
  simp only [Bool.and_eq_true] at hbnd
  obtain ⟨hb1, hb2⟩ := hbnd
  have hlen : zd.length = (tdOf P e).size := Nat.eq_of_beq_eq_true hb1
  have hpos : 0 < (tdOf P e).size := by simpa [Nat.blt_eq] using hb2
  obtain ⟨⟨rfl, h0, hb, hm⟩, hc⟩ := hc
  have hxv := r.ev hx
  have hyv := r.ev hy
  simp only [AV.rep, D.rep] at hxv hyv
  have hes : ei.size = P.cellsOf e := by simp [Program.cellsOf, hei]
  have heb : ei.bytes = P.bytesOf e := by simp [Program.bytesOf, hei]
  have hzr : repL w (Xof X0 J) zd z.cells.toList [] := showL_none hzd (constsOf_rep (J := J) hzc)
  have hzl := repL_length hzr
  simp only [Array.length_toList] at hzl
  have hpos : 0 < P.cellsOf e := hpos
  have hzs : z.cells.size = P.cellsOf e := by rw [← hzl]; exact hlen
  have hb' : (P.bytesOf e : Int) * n ≤ 281474976710656 := by
    have := hb; simp only [tdOf] at this; rw [Int.mul_comm]; exact this
  have hrun := run_make (P := P) w t e ei z hu hei hzz kx ky n n h0 (Int.le_refl _) (by rw [heb]; exact hb') (by simp only [maxLen] at hm; omega)
  rw [hes] at hrun
  have hz1 : ∀ c ∈ z.cells.toList, c.oneCell' = true := by
    have key : ∀ (vs : List Value) (l : List AV), constsOf vs = some l → ∀ c ∈ vs, c.oneCell' = true := by
      intro vs
      induction vs with
      | nil => intro l _ c hc; simp at hc
      | cons v vs ih =>
        intro l hl c hc
        simp only [constsOf] at hl
        split at hl
        · rename_i x hx
          split at hl
          · rename_i l' hl'
            rcases List.mem_cons.1 hc with rfl | hc
            · cases c <;> first | rfl | (simp [ofConst] at hx; done)
            · exact ih l' hl' c hc
          · cases hl
        · cases hl
    exact key _ _ hzc
  have fin : ∀ {ed : D} {el : Value}, el.cells = z.cells → ed.rep w (Xof X0 J) el [] → evCmd P cx o.dst (.newArr (tdOf P e).size false (List.replicate n.toNat ed) []) st K → o.wp P a w next Q := by
    intro ed el hel helr hc
    refine wp_newArr r hd hn (cs := madeCells z.cells (n.toNat * P.cellsOf e)) (t := e) (len := n.toNat) (cap := n.toNat) (w1 := w.alloc (.cells (madeCells z.cells (n.toNat * P.cellsOf e)) e)) hc (Same.push w _) (heap_push w _)
      (by simp only [execOp, hop, hxv.1, hyv.1, Sem.run_bind, hrun, Result.andThen_ok, Sem.run_pure]) (bs := []) (by simp) List.nodup_nil (fun _ => rfl) hpos (by simp) (Nat.le_refl _) (size_madeCells _ _) (us := List.replicate n.toNat el) (repL_replicate helr _) ?_ ?_ ?_
    · intro x hx
      rw [(List.mem_replicate.1 hx).2]
      have := repL_length (D.cells_rep helr)
      rw [this, hel, Array.length_toList, hzs]; rfl
    · intro u hu
      rw [(List.mem_replicate.1 hu).2, hel]; exact ⟨hzs, hz1⟩
    · intro i u hui j v hv
      have hil : i < n.toNat := by
        have := (List.getElem?_eq_some_iff.1 hui).1
        simpa using this
      have hue : u = el := by
        have := List.mem_of_getElem? hui
        exact (List.mem_replicate.1 this).2
      subst hue
      rw [hel] at hv
      have hj : j < P.cellsOf e := by
        have := (List.getElem?_eq_some_iff.1 hv).1
        rw [Array.length_toList, hzs] at this; exact this
      simp only [World.cell?]
      have : (w.alloc (.cells (madeCells z.cells (n.toNat * P.cellsOf e)) e)).heap[w.heap.size]? = some (.cells (madeCells z.cells (n.toNat * P.cellsOf e)) e (0, 0)) := heap_push w _
      rw [this]
      show (if (none : Option Nat).isSome = true then none else (madeCells z.cells (n.toNat * P.cellsOf e))[i * P.cellsOf e + j]?) = some v
      rw [mod_cells hzs hil hj]
      simpa using hv
  split at hc
  · exact fin (el := .agg z.cells) rfl (by simp only [D.rep]; exact ⟨_, rfl, hzr⟩) hc
  · exact hc.elim
  · split at hc
    · rename_i z1
      simp only [repL] at hzr
      obtain ⟨v, vs', b1, b2, hzv, hbb, hv, rfl, _⟩ := hzr
      rw [(List.append_eq_nil_iff.1 hbb.symm).1] at hv
      have hzc1 : z.cells = #[v] := by apply Array.ext'; simpa using hzv
      have hv1 : v.cells = #[v] := by
        rw [hzv] at hzc
        simp only [constsOf] at hzc
        split at hzc
        · rename_i x0 hx0; exact const_one hx0
        · cases hzc
      exact fin (el := v) (by rw [hv1, hzc1]) hv hc
    · exact hc.elim
end
end Go.Pm
namespace Go.Pm
open Go
set_option linter.unusedVariables false
variable {P : Program}
section
variable {cx : Cx} {X0 : Nat → Prop} {J : Nat → Option Place} {st : St} {a : Act} {w : World} {o : Oper} {K : St → Prop} {next : Act → World → Prop} {Q : Exit → Act → World → Prop}
theorem repRows_inv {w : World} {X : Nat → Prop} {b sz : Nat} : ∀ {xs : List D} {off : Nat} {bs : List Nat}, repRows w X b sz xs off bs →
    ∃ us, repL w X xs us bs ∧ (∀ x ∈ xs, x.cells.length = sz) ∧ (∀ u ∈ us, u.cells.size = sz ∧ ∀ c ∈ u.cells.toList, c.oneCell' = true) ∧ ∀ i u, us[i]? = some u → w.rangeAt b (off + i * sz) u.cells.toList
  | [], off, bs, h => by simp only [repRows] at h; exact ⟨[], by simp [repL, h], by simp, by simp, by simp⟩
  | x :: xs, off, bs, h => by
    simp only [repRows] at h
    obtain ⟨v, b1, b2, rfl, h1, h2, h3, h4, h5⟩ := h
    obtain ⟨us, g1, g2, g3, g4⟩ := repRows_inv h5
    refine ⟨v :: us, ?_, ?_, ?_, ?_⟩
    · simp only [repL]; exact ⟨v, us, b1, b2, rfl, rfl, h1, g1⟩
    · intro y hy; rcases List.mem_cons.1 hy with rfl | hy
      · exact h3.1
      · exact g2 y hy
    · intro y hy; rcases List.mem_cons.1 hy with rfl | hy
      · exact ⟨h2, h3.2⟩
      · exact g3 y hy
    · intro i u hu
      cases i with
      | zero => simp at hu; subst hu; simpa using h4
      | succ i =>
        have := g4 i u (by simpa using hu)
        rwa [show off + (i + 1) * sz = off + sz + i * sz by rw [Nat.add_mul, Nat.one_mul]; omega]
def flat (us : List Value) : List Value := us.flatMap fun u => u.cells.toList
theorem flat_length {sz : Nat} : ∀ {us : List Value}, (∀ u ∈ us, u.cells.size = sz) → (flat us).length = us.length * sz
  | [], _ => by simp [flat]
  | u :: us, h => by
    have := flat_length (us := us) fun v hv => h v (List.mem_cons_of_mem _ hv)
    simp only [flat] at this
    simp only [flat, List.flatMap_cons, List.length_append, this, List.length_cons, Array.length_toList, h u (List.mem_cons_self ..), Nat.add_mul, Nat.one_mul]; omega
theorem flat_append (us vs : List Value) : flat (us ++ vs) = flat us ++ flat vs := by simp [flat]
theorem rangeAt_cons {b off : Nat} {xs ys : List Value} (h1 : w.rangeAt b off xs) (h2 : w.rangeAt b (off + xs.length) ys) : w.rangeAt b off (xs ++ ys) := by
  intro j v hv
  by_cases hj : j < xs.length
  · rw [List.getElem?_append_left hj] at hv; exact h1 j v hv
  · rw [List.getElem?_append_right (by omega)] at hv
    have := h2 _ v hv
    rwa [show off + xs.length + (j - xs.length) = off + j by omega] at this
theorem rangeAt_left {b off : Nat} {xs ys : List Value} (h : w.rangeAt b off (xs ++ ys)) : w.rangeAt b off xs := by
  intro j v hv
  refine h j v ?_
  rw [List.getElem?_append_left (List.getElem?_eq_some_iff.1 hv).1]; exact hv
theorem rangeAt_right {b off : Nat} {xs ys : List Value} (h : w.rangeAt b off (xs ++ ys)) : w.rangeAt b (off + xs.length) ys := by
  intro j v hv
  have := h (xs.length + j) v (by rw [List.getElem?_append_right (by omega)]; simpa using hv)
  rwa [← Nat.add_assoc] at this
theorem rangeAt_flat {b sz : Nat} : ∀ {us : List Value} {off : Nat}, (∀ u ∈ us, u.cells.size = sz) → (∀ i u, us[i]? = some u → w.rangeAt b (off + i * sz) u.cells.toList) → w.rangeAt b off (flat us)
  | [], off, _, _ => by intro j v hv; simp [flat] at hv
  | u :: us, off, h, hr => by
    simp only [flat, List.flatMap_cons]
    refine rangeAt_cons (by simpa using hr 0 u rfl) ?_
    rw [Array.length_toList, h u (List.mem_cons_self ..)]
    refine rangeAt_flat (fun v hv => h v (List.mem_cons_of_mem _ hv)) fun i v hv => ?_
    have := hr (i + 1) v (by simpa using hv)
    rwa [show off + (i + 1) * sz = off + sz + i * sz by rw [Nat.add_mul, Nat.one_mul]; omega] at this
theorem rangeAt_rows {b sz : Nat} : ∀ {us : List Value} {off : Nat}, (∀ u ∈ us, u.cells.size = sz) → w.rangeAt b off (flat us) → ∀ i u, us[i]? = some u → w.rangeAt b (off + i * sz) u.cells.toList
  | [], off, _, _, i, u, hu => by simp at hu
  | v :: us, off, h, hr, i, u, hu => by
    simp only [flat, List.flatMap_cons] at hr
    cases i with
    | zero => simp at hu; subst hu; simpa using rangeAt_left hr
    | succ i =>
      have := rangeAt_right hr
      rw [Array.length_toList, h v (List.mem_cons_self ..)] at this
      have := rangeAt_rows (fun y hy => h y (List.mem_cons_of_mem _ hy)) this i u (by simpa using hu)
      rwa [show off + (i + 1) * sz = off + sz + i * sz by rw [Nat.add_mul, Nat.one_mul]; omega]
theorem repL_append {w : World} {X : Nat → Prop} : ∀ {xs ys : List D} {us vs : List Value} {b1 b2 : List Nat}, repL w X xs us b1 → repL w X ys vs b2 → repL w X (xs ++ ys) (us ++ vs) (b1 ++ b2)
  | [], ys, us, vs, b1, b2, h1, h2 => by simp only [repL] at h1; obtain ⟨rfl, rfl⟩ := h1; simpa using h2
  | x :: xs, ys, us, vs, b1, b2, h1, h2 => by
    simp only [repL] at h1
    obtain ⟨u, us', c1, c2, rfl, rfl, g1, g2⟩ := h1
    simp only [List.cons_append, repL, List.append_assoc]
    exact ⟨u, _, c1, _, rfl, rfl, g1, repL_append g2 h2⟩
theorem flat_ones : ∀ {us : List Value}, (∀ u ∈ us, ∀ c ∈ u.cells.toList, c.oneCell' = true) → ∀ u ∈ flat us, u.oneCell' = true := by
  intro us h u hu
  obtain ⟨v, hv, hu⟩ := List.mem_flatMap.1 hu
  exact h v hv u hu
theorem run_append_zero (t ty e : TypeId) (i : TypeInfo) (ht : P.underlying t = some (.slice e)) (hi : P.info? e = some i) (base a0 : Option Addr) (sLen sCap c : Nat) (hle : sLen ≤ sCap) :
    (Builtin.append_ #[t, t] ty #[.slice base sLen sCap, .slice a0 0 c]).run P w = .ok (.slice base sLen sCap) w := by
  cases a0 <;> cases base <;> simp [Builtin.append_, run_underlying ht, sizeOf, typeInfo, hi, Builtin.lenOf, hle, Builtin.firstCells, loadCells, loadCellsFrom, storeCells]
theorem ev_app {k sz : Nat} {d : Bool} {xs : List D} {ks : List Nat} (h : evCmd P cx o.dst (.app k sz d xs ks) st K) : bigs (k :: ks) = true ∧ K (((st.ren (without (k :: ks))).set k (.arr sz d xs)).put o.dst (.own k)) := by
  simp only [evCmd] at h
  split at h
  · rename_i hb; exact ⟨hb, h⟩
  · exact h.elim
theorem app_core (r : Rel X0 J st a w) (hd : ∀ d, o.dst = some d → d < a.tmps.size) (hn : Leads P X0 J a w K next) {s x : Operand} {t tx e : TypeId} {ei : TypeInfo} {z : Value}
    (hop : o.op = .call { callee := .builtin .append, args := #[s, x], argTypes := #[t, tx] }) (hu : P.underlying t = some (.slice e)) (hei : P.info? e = some ei) (hz : ei.zero = some z) (hzs : z.cells.size = ei.size)
    {k sz : Nat} {d : Bool} {xs ys : List D} {ks : List Nat} (hs : st.ev s = some (.own k)) (hk : look k st.obj = some (.arr sz d xs)) (hsz : sz = ei.size)
    (hroom : room (xs.length + ys.length) ei.bytes)
    {vs : List Value} {bs2 : List Nat} (hsrc : Src P ei.size tx (a.eval x) ys.length (flat vs) w)
    (hv : repL w (Xof X0 J) ys vs bs2) (hyl : ∀ y ∈ ys, y.cells.length = sz) (hvl' : ∀ u ∈ vs, u.cells.size = sz ∧ ∀ c ∈ u.cells.toList, c.oneCell' = true)
    (hbs : ∀ b ∈ bs2, ∃ k' q, k' ∈ ks ∧ k' ≠ k ∧ J k' = some q ∧ b ∈ q.fp) (hbnd : bs2.Nodup) {d' : Bool} (hd' : d' = false → d = false ∧ bs2 = []) (hbig : bigs (k :: ks) = true)
    (hK : K (((st.ren (without (k :: ks))).set k (.arr sz d' (xs ++ ys))).put o.dst (.own k))) : o.wp P a w next Q := by
  have hsv := r.ev hs
  simp only [AV.rep] at hsv
  obtain ⟨p, hp, hsv, hone0⟩ := hsv
  obtain ⟨p', hp', g0, a0, cap0, g1, g2, grest⟩ := r.mem.ob _ _ hk
  rw [hp] at hp'; cases hp'
  have hvl := fun u hu => (hvl' u hu).1
  have hones := flat_ones fun u hu => (hvl' u hu).2
  have hvsl := repL_length hv
  have hfv := flat_length hvl
  have hapart : ∀ b ∈ bs2, b ∉ p.fp := by
    intro b hb hbp
    obtain ⟨k', q, _, hne, hq, hbq⟩ := hbs b hb
    exact r.mem.sep k' k q p hq hp hne b hbq hbp
  have hndp := r.mem.nd k p hp
  have exec : ∀ {u : Value} {w1 : World}, (Builtin.append_ #[t, tx] o.type #[.slice a0 xs.length cap0, a.eval x]).run P w = .ok u w1 → (execOp a.eval o).run P w = .ok (.value u) w1 := by
    intro u w1 h
    rw [g1] at hsv
    simp [execOp, hop, resolve, invoke, builtin, hsv, h]
  have fin : ∀ {w1 : World} {blk cap : Nat} {us : List Value} {nest : List Nat}, (Builtin.append_ #[t, tx] o.type #[.slice a0 xs.length cap0, a.eval x]).run P w = .ok (.slice (some ⟨blk, 0, none⟩) (xs.length + ys.length) cap) w1 →
      Kept (fun b => b = p.blk ∧ p.hd = true) w w1 → (blk = p.blk ∧ p.hd = true ∨ w.heap.size ≤ blk) → xs.length + ys.length ≤ cap → Plain w1 blk (cap * sz) → w1.rangeAt blk 0 (flat (us ++ vs)) →
      repL w (Xof X0 J) xs us nest → (∀ x ∈ xs, x.cells.length = sz) → (∀ u ∈ us, u.cells.size = sz ∧ ∀ c ∈ u.cells.toList, c.oneCell' = true) → (∀ b ∈ nest, b ∈ p.fp ∧ b ≠ p.blk) → nest.Nodup → (d = false → nest = []) → o.wp P a w next Q := by
    intro w1 blk cap us nest hrun hkept hblk hcap hplain hrg q1 q2 q3 hnest hnnd hnd0
    have hall := repL_append q1 hv
    have hblk2 : blk ∉ nest ++ bs2 := by
      intro hm
      rcases List.mem_append.1 hm with hm | hm
      · obtain ⟨h1, h2⟩ := hnest _ hm
        rcases hblk with ⟨h, _⟩ | h
        · exact h2 h
        · have := r.mem.lt _ (.inr ⟨k, p, hp, h1⟩); omega
      · rcases hblk with ⟨h, hh⟩ | h
        · exact hapart _ hm (by rw [h]; exact p.blk_fp hh)
        · obtain ⟨k', q, _, _, hq, hbq⟩ := hbs _ hm
          have := r.mem.lt _ (.inr ⟨k', q, hq, hbq⟩); omega
    have hin : ∀ b, b ∈ blk :: (nest ++ bs2) → (∃ k2 p2, J k2 = some p2 ∧ without (k :: ks) k2 = none ∧ b ∈ p2.fp) ∨ w.heap.size ≤ b := by
      intro b hb
      rcases List.mem_cons.1 hb with hbe | hb
      · subst hbe
        rcases hblk with ⟨h, hh⟩ | h
        · exact .inl ⟨k, p, hp, without_none (List.mem_cons_self ..), by rw [h]; exact p.blk_fp hh⟩
        · exact .inr h
      · rcases List.mem_append.1 hb with hb | hb
        · exact .inl ⟨k, p, hp, without_none (List.mem_cons_self ..), (hnest b hb).1⟩
        · obtain ⟨k', q, hk', _, hq, hbq⟩ := hbs b hb
          exact .inl ⟨k', q, hq, without_none (List.mem_cons_of_mem _ hk'), hbq⟩
    refine wp_new r hd hn (f := without (k :: ks)) (F := fun b => b = p.blk ∧ p.hd = true) (k0 := k) (p := ⟨blk, nest ++ bs2, .slice (some ⟨blk, 0, none⟩) (xs.length + ys.length) cap, true⟩) (ob := .arr sz d' (xs ++ ys)) (w1 := w1) (u := .slice (some ⟨blk, 0, none⟩) (xs.length + ys.length) cap)
      (st1 := (st.ren (without (k :: ks))).set k (.arr sz d' (xs ++ ys))) (fun k j h => without_id h) (without_none (List.mem_cons_self ..)) (bigs_le hbig k (List.mem_cons_self ..)) (fun j hj => without_small hbig hj) hkept ?_ (exec hrun) ?_ hin ?_ ?_ (fun t => look_renEnv _ t) (fun k => St.ren_set_look (fun k j h => without_id h) k) hK
    · rintro b ⟨rfl, hh⟩
      exact ⟨k, p, hp, without_none (List.mem_cons_self ..), p.blk_fp hh⟩
    · show (blk :: (nest ++ bs2)).Nodup
      refine List.nodup_cons.2 ⟨hblk2, List.nodup_append.2 ⟨hnnd, hbnd, ?_⟩⟩
      rintro b hb1 b' hb2 rfl
      exact hapart _ hb2 (hnest b hb1).1
    · intro J' hJ'
      refine ⟨g0, _, cap, by simp, by simpa using hcap, .inr ⟨rfl, rfl, hplain, ?_, fun h => by obtain ⟨h1, h2⟩ := hd' h; show nest ++ bs2 = []; rw [h2, hnd0 h1]; rfl⟩⟩
      refine repRows_of (us := us ++ vs) (off := 0) ?_ ?_ ?_ (rangeAt_rows ?_ hrg)
      · refine repL_mono ?_ _ _ _ ?_ hall
        · rintro b hb hx (h0 | ⟨k2, p2, hp2, hbp⟩)
          · exact hx (.inl h0)
          · rw [hJ'] at hp2
            split at hp2
            · cases hp2
              rcases hin b hbp with ⟨k3, p3, h1, _, h3⟩ | h
              · exact hx (.inr ⟨k3, p3, h1, h3⟩)
              · omega
            · split at hp2
              · exact hx (.inr ⟨k2, p2, hp2, hbp⟩)
              · cases hp2
        · intro b hb hx
          refine hkept.block b hb fun ⟨e, hh⟩ => ?_
          subst e
          rcases hx with hx | hx
          · rcases List.mem_append.1 hx with hx | hx
            · exact (hnest _ hx).2 rfl
            · exact hapart _ hx (p.blk_fp hh)
          · exact hx (.inr ⟨k, p, hp, p.blk_fp hh⟩)
      · intro y hy; rcases List.mem_append.1 hy with hy | hy
        · exact q2 y hy
        · exact hyl y hy
      · intro y hy; rcases List.mem_append.1 hy with hy | hy
        · exact q3 y hy
        · exact hvl' y hy
      · intro y hy; rcases List.mem_append.1 hy with hy | hy
        · exact (q3 y hy).1
        · exact hvl y hy
    · intro J' hJ'
      simp only [AV.rep]
      exact ⟨_, hJ', rfl, rfl⟩
  obtain ⟨hr63, hrb⟩ := hroom
  have hr63' : ((xs.length + ys.length : Nat) : Int) ≤ 9223372036854775807 := by simp only [maxLen] at hr63; omega
  have grow : ∀ {us : List Value} {nest : List Nat}, cap0 < xs.length + ys.length → (Builtin.firstCells ei.size xs.length (.slice a0 xs.length cap0)).run P w.drew = .ok (flat us).toArray w.drew →
      repL w (Xof X0 J) xs us nest → (∀ x ∈ xs, x.cells.length = sz) → (∀ u ∈ us, u.cells.size = sz ∧ ∀ c ∈ u.cells.toList, c.oneCell' = true) → (∀ b ∈ nest, b ∈ p.fp ∧ b ≠ p.blk) → nest.Nodup → (d = false → nest = []) → o.wp P a w next Q := by
    intro us nest hfit hold q1 q2 q3 hnest hnnd hnd0
    have husl := repL_length q1
    have hfu := flat_length fun u hu => (q3 u hu).1
    have hrun := run_append_grow_src (P := P) w t tx o.type e ei z hu hei hz a0 xs.length cap0 (flat us) hold (a.eval x) ys.length (flat vs) hsrc hfit hr63' (growslice_fits (by omega) hrb)
    have hge := grownCap_ge w (xs.length + ys.length) cap0 e
    refine fin (blk := w.heap.size) (cap := grownCap w (xs.length + ys.length) cap0 e) (us := us) hrun ?_ (.inr (Nat.le_refl _)) hge ?_ ?_ q1 q2 q3 hnest hnnd hnd0
    · have s1 : Same w w.drew := ⟨rfl, rfl, rfl, Nat.le_refl _, fun _ _ => rfl⟩
      exact (s1.trans (Same.push w.drew _)).kept _
    · refine ⟨_, e, heap_push w.drew _, ?_⟩
      simp only [Array.size_append, List.size_toArray, size_zeroCells, hzs, List.length_append, hfu, hfv, ← husl, ← hvsl, hsz, ← Nat.add_mul]
      congr 1; omega
    · rw [flat_append]
      intro j v hv
      have hh : (w.drew.alloc (.cells ((flat us ++ flat vs).toArray ++ Builtin.zeroCells z.cells (grownCap w (xs.length + ys.length) cap0 e - (xs.length + ys.length))) e)).heap[w.heap.size]? = _ := heap_push w.drew _
      simp only [World.cell?, hh]
      have hj : j < (flat us ++ flat vs).length := (List.getElem?_eq_some_iff.1 hv).1
      simp only [Nat.zero_add, Option.isSome_none, Bool.false_eq_true, if_false]
      rw [← hv, Array.getElem?_append_left (by simpa using hj)]
      simp
  rcases grest with ⟨hh, rfl, rfl⟩ | ⟨hh, rfl, g3, g4, g5⟩
  ·
    by_cases hy0 : ys = []
    · subst hy0
      have hv0 : vs = [] := List.eq_nil_of_length_eq_zero (by rw [← hvsl]; rfl)
      subst hv0
      simp only [repL] at hv
      obtain ⟨_, rfl⟩ := hv
      have hrun : (Builtin.append_ #[t, tx] o.type #[.slice a0 0 0, a.eval x]).run P w = .ok (.slice a0 0 0) w := by
        have hcl : (Builtin.firstCells ei.size 0 (a.eval x)).run P w = .ok #[] w := hsrc.cells
        have hln : ∀ w' : World, (Builtin.lenOf (a.eval x)).run P w' = .ok 0 w' := hsrc.len
        rcases hsrc.kind with ⟨e', hk'⟩ | hk' <;> cases a0 <;>
          simp [Builtin.append_, run_underlying hu, run_underlying hk', sizeOf, typeInfo, hei, hln, hcl, storeCells]
      refine wp_new r hd hn (f := without (k :: ks)) (F := fun _ => False) (k0 := k) (p := ⟨p.blk, [], .slice a0 0 0, false⟩) (ob := .arr sz d' ([] ++ [])) (w1 := w) (u := .slice a0 0 0)
        (st1 := (st.ren (without (k :: ks))).set k (.arr sz d' ([] ++ []))) (fun k j h => without_id h) (without_none (List.mem_cons_self ..)) (bigs_le hbig k (List.mem_cons_self ..)) (fun j hj => without_small hbig hj) (Kept.refl _ w) (fun _ h => h.elim) (exec hrun) ?_ ?_ ?_ ?_ (fun t => look_renEnv _ t) (fun k => St.ren_set_look (fun k j h => without_id h) k) hK
      · exact List.nodup_nil
      · intro b hb; cases hb
      · intro J' hJ'
        exact ⟨g0, a0, 0, rfl, Nat.le_refl _, .inl ⟨rfl, rfl, rfl⟩⟩
      · intro J' hJ'
        simp only [AV.rep]
        exact ⟨_, hJ', rfl, rfl⟩
    · have hpos : 0 < ys.length := List.length_pos_iff.2 hy0
      refine grow (us := []) (nest := []) (by simp only [List.length_nil]; omega) ?_ (by simp [repL]) (by simp) (by simp) (by simp) List.nodup_nil (fun _ => rfl)
      cases a0 with
      | none => simp [Builtin.firstCells, flat]
      | some ad => simp [Builtin.firstCells, flat, loadCells, loadCellsFrom]
  · obtain ⟨us, q1, q2, q3, q4⟩ := repRows_inv g4
    have husl := repL_length q1
    have hfu := flat_length fun u hu => (q3 u hu).1
    have hru := rangeAt_flat (off := 0) (fun u hu => (q3 u hu).1) q4
    rw [p.fp_hd hh] at hndp
    obtain ⟨hnb, hnn⟩ := List.nodup_cons.1 hndp
    have hnest : ∀ b ∈ p.nest, b ∈ p.fp ∧ b ≠ p.blk := fun b hb => ⟨p.nest_fp hh hb, fun e => hnb (e ▸ hb)⟩
    obtain ⟨c0, tt, hcs, hcn⟩ := g3
    by_cases hfit : xs.length + ys.length ≤ cap0
    · have hl2 : (flat vs).length = ys.length * ei.size := by rw [hfv, ← hvsl, hsz]
      have hle : xs.length * sz + (flat vs).length ≤ cap0 * sz := by
        rw [hl2, ← hsz, ← Nat.add_mul]; exact Nat.mul_le_mul_right _ hfit
      have hth : w.there p.blk (xs.length * sz) (flat vs).length := plain_there ⟨c0, tt, hcs, hcn⟩ hle
      have hrun := run_append_room_src (P := P) w t tx o.type e ei hu hei p.blk 0 xs.length cap0 (a.eval x) ys.length (flat vs) hsrc hfit
        (fun j hj => by rw [Nat.zero_add, ← hsz]; exact (hth j hj).1) (fun j hj => by rw [Nat.zero_add, ← hsz]; exact (hth j hj).2)
      rw [Nat.zero_add, ← hsz] at hrun
      have hk0 := kept_setCells p.blk (xs.length * sz) (flat vs) w
      refine fin (blk := p.blk) (cap := cap0) (us := us) hrun ⟨hk0.os, hk0.tape, hk0.output, hk0.size, fun b hb hF => hk0.block b hb fun e => hF ⟨e, hh⟩⟩ (.inl ⟨rfl, hh⟩) hfit (plain_setCells ⟨c0, tt, hcs, hcn⟩) ?_ q1 q2 q3 hnest hnn g5
      rw [flat_append]
      refine rangeAt_cons (rangeAt_apart hru (.inr (.inl ?_))) ?_
      · rw [hfu, ← husl]; omega
      · rw [Nat.zero_add, hfu, ← husl]
        exact World.rangeAt_setCells_same w p.blk _ _ hth
    · refine grow (us := us) (nest := p.nest) (by omega) ?_ q1 q2 q3 hnest hnn g5
      exact run_firstCells_some (P := P) w.drew ei.size xs.length ⟨p.blk, 0, none⟩ xs.length cap0 (flat us) (by rw [hfu, ← husl, hsz]) (fun j u hj => by rw [Addr.add_mid]; exact hru j u hj)
theorem bytes_vals {X : Nat → Prop} : ∀ {l : List UInt8} {us : List Value} {bs : List Nat}, repL w X (u8s l) us bs → us = l.map fun c => Value.int .u8 (c.toNat : Int)
  | [], us, bs, h => by simp only [u8s, List.map_nil, repL] at h; rw [h.1]; rfl
  | c :: l, us, bs, h => by
    simp only [u8s, List.map_cons, repL, D.rep] at h
    obtain ⟨v, vs', b1, b2, rfl, _, ⟨rfl, _⟩, h2⟩ := h
    have := bytes_vals (l := l) h2
    rw [this]; rfl
theorem flat_ints : ∀ l : List UInt8, flat (l.map fun c => Value.int .u8 (c.toNat : Int)) = l.map fun c => Value.int .u8 (c.toNat : Int)
  | [] => rfl
  | c :: l => by
    have := flat_ints l
    simp only [flat] at this
    simp only [flat, List.map_cons, List.flatMap_cons, this]; rfl
theorem fold_bytes : ∀ (l : List UInt8) (s : ByteArray), (l.map fun c => (c.toNat : Int)).foldl (fun r n => r.push (UInt8.ofNat n.toNat)) s = ⟨(s.data.toList ++ l).toArray⟩
  | [], s => by apply ByteArray.ext; simp
  | c :: l, s => by
    simp only [List.map_cons, List.foldl_cons]
    rw [fold_bytes l]
    apply ByteArray.ext
    simp [ByteArray.data_push]
theorem run_str {b off cap : Nat} {l : List UInt8} (h : w.rangeAt b off (l.map fun c => Value.int .u8 (c.toNat : Int))) : (Conv.bytesToString (.slice (some ⟨b, off, none⟩) l.length cap)).run P w = .ok (.string ⟨l.toArray⟩) w := by
  have hl := run_loadCells_list (P := P) w ⟨b, off, none⟩ (l.map fun c => Value.int .u8 (c.toNat : Int)) (fun j v hv => by rw [Addr.add_mid]; exact h j v hv)
  rw [List.length_map] at hl
  have := run_bytesToString (P := P) w ⟨b, off, none⟩ l.length cap (l.map fun c => (c.toNat : Int)) (by rw [hl, List.map_map]; rfl)
  rw [this, fold_bytes]
  have h0 : ByteArray.empty.data.toList = [] := rfl
  rw [h0, List.nil_append]
theorem op_len (r : Rel X0 J st a w) (hd : ∀ d, o.dst = some d → d < a.tmps.size) (hn : Leads P X0 J a w K next) (tok : TOk P cx.T) {args : Array Operand} {ts : Array TypeId} (hop : o.op = .call { callee := .builtin .len, args := args, argTypes := ts })
    (hc : evCmd P cx o.dst (builtinC cx.T st .len ts.toList args.toList) st K) : o.wp P a w next Q := by
  unfold builtinC at hc
  split at hc
  case h_1 => exact hc.elim
  rename_i vs hvs
  simp only at hc
  split at hc
  case h_2 => exact hc.elim
  rename_i t hts
  split at hc
  case h_2 => exact hc.elim
  rename_i i hi
  have hti := tok t i hi
  subst hti
  have hts' : ts = #[t] := by apply Array.ext'; simpa using hts
  subst hts'
  have hr := r.evs hvs
  have one : ∀ {v : AV}, vs = [v] → ∃ x, args = #[x] ∧ v.rep w (Xof X0 J) J (a.eval x) := by
    rintro v rfl
    have hl := AV.repL_length hr
    simp only [List.length_map, List.length_cons, List.length_nil] at hl
    obtain ⟨x, hx⟩ := List.length_eq_one_iff.1 hl.symm
    rw [hx] at hr
    simp only [List.map_cons, List.map_nil, AV.repL] at hr
    obtain ⟨u, us', he, h1, _⟩ := hr
    simp only [List.cons.injEq] at he
    rw [← he.1] at h1
    exact ⟨x, by apply Array.ext'; simpa using hx, h1⟩
  have sl : ∀ {e : Nat} {n : Nat} {x : Operand} {b : Option Addr} {c : Nat}, P.underlying t = some (.slice e) → args = #[x] → a.eval x = .slice b n c → K (st.put o.dst (.d (.i .i64 n))) → o.wp P a w next Q := by
    intro e n x b c hu hargs hx hK
    subst hargs
    refine wp_val r hd hn hK (u := .int .i64 n) (w' := w) ?_ (Same.refl w) (by simp [AV.rep, D.rep])
    simp [execOp, hop, resolve, invoke, builtin, hx, Builtin.len_, run_underlying hu, goInt]
  split at hc
  · rename_i e hk
    have hu := kind_slice (P := P) (t := t) hk
    split at hc
    · rename_i u xs
      obtain ⟨x, hargs, hx⟩ := one rfl
      simp only [AV.rep, D.rep] at hx
      obtain ⟨_, _, b, c, hx, _⟩ := hx
      exact sl hu hargs hx hc
    · obtain ⟨x, hargs, hx⟩ := one rfl
      simp only [AV.rep] at hx
      exact sl (n := 0) hu hargs hx hc
    · rename_i k
      obtain ⟨x, hargs, hx⟩ := one rfl
      simp only [AV.rep] at hx
      obtain ⟨p, hp, hx, _⟩ := hx
      split at hc
      · rename_i sz dd xs hk2
        obtain ⟨p', hp', g0, a0, c0, g1, _⟩ := r.mem.ob _ _ hk2
        rw [hp] at hp'; cases hp'
        rw [g1] at hx
        exact sl hu hargs hx hc
      · rename_i sz xs els hk2
        obtain ⟨p', hp', g0, c0, g1, _⟩ := r.mem.ob _ _ hk2
        rw [hp] at hp'; cases hp'
        rw [g1] at hx
        exact sl hu hargs hx hc
      · exact hc.elim
    · rename_i k s lo hi
      obtain ⟨x, hargs, hx⟩ := one rfl
      simp only [AV.rep] at hx
      obtain ⟨p, a0, n0, c0, a1, c1, _, _, _, _, _, hx, _⟩ := hx
      exact sl hu hargs hx hc
    · exact hc.elim
  · rename_i hk
    have hu := kind_str (P := P) (t := t) hk
    split at hc
    · rename_i l
      obtain ⟨x, hargs, hx⟩ := one rfl
      simp only [AV.rep, D.rep] at hx
      subst hargs
      refine wp_val r hd hn hc (u := .int .i64 l.length) (w' := w) ?_ (Same.refl w) (by simp [AV.rep, D.rep])
      have hsz : (ByteArray.mk l.toArray).size = l.length := by simp [ByteArray.size]
      simp [execOp, hop, resolve, invoke, builtin, hx.1, Builtin.len_, run_underlying hu, goInt, hsz]
    · exact hc.elim
  · exact hc.elim
theorem op_append (r : Rel X0 J st a w) (hd : ∀ d, o.dst = some d → d < a.tmps.size) (hn : Leads P X0 J a w K next) (tok : TOk P cx.T) {args : Array Operand} {ts : Array TypeId} (hop : o.op = .call { callee := .builtin .append, args := args, argTypes := ts })
    (hc : evCmd P cx o.dst (builtinC cx.T st .append ts.toList args.toList) st K) : o.wp P a w next Q := by
  unfold builtinC at hc
  split at hc
  case h_1 => exact hc.elim
  rename_i vs hvs
  simp only at hc
  split at hc
  case h_2 => exact hc.elim
  rename_i t t' hts
  split at hc
  case h_2 => exact hc.elim
  rename_i i hi
  have hti := tok t i hi
  subst hti
  split at hc
  case h_2 => exact hc.elim
  rename_i e hk
  have hu := kind_slice (P := P) (t := t) hk
  split at hc
  case h_2 => exact hc.elim
  rename_i ie hie
  have hte := tok e ie hie
  subst hte
  have two : ∀ {av xv : AV} {s x : Operand}, vs = [av, xv] → args.toList = [s, x] → args = #[s, x] ∧ st.ev s = some av ∧ st.ev x = some xv := by
    rintro av xv s x rfl hargs
    have hargs' : args = #[s, x] := by apply Array.ext'; simpa using hargs
    subst hargs'
    refine ⟨rfl, ?_⟩
    simp only [St.evs] at hvs
    split at hvs
    · rename_i v1 h1
      split at hvs
      · rename_i l1 hl1
        split at hl1
        · rename_i v2 h2
          simp only [Option.some.injEq] at hl1 hvs
          subst hl1
          simp only [List.cons.injEq] at hvs
          exact ⟨by rw [h1, hvs.1], by rw [h2, hvs.2.1]⟩
        · cases hl1
      · cases hvs
    · cases hvs
  have hts' : ts = #[t, t'] := by apply Array.ext'; simpa using hts
  split at hc
  ·
    rename_i av l s x hargs
    obtain ⟨hargs', hs, hx⟩ := two rfl hargs
    subst hts'
    subst hargs'
    split at hc
    case h_2 => exact hc.elim
    rename_i hke
    have hue := kind_int (P := P) (t := e) hke
    split at hc
    case h_2 => exact hc.elim
    rename_i hkt
    have hut : P.underlying t' = some .string := by
      cases hi2 : cx.T[t']? with
      | none => rw [hi2] at hkt; cases hkt
      | some i2 =>
        rw [hi2] at hkt
        have := tok t' i2 hi2
        subst this
        exact kind_str (P := P) (t := t') hkt
    split at hc
    case h_2 => exact hc.elim
    rename_i zc hzc
    obtain ⟨ei, z, hei, hz, hzc'⟩ := zero_some hzc
    have hes : ei.size = (tdOf P e).size := by simp [tdOf, Program.cellsOf, hei]
    have heb : ei.bytes = (tdOf P e).bytes := by simp [tdOf, Program.bytesOf, hei]
    split at hc
    case h_2 => exact hc.elim
    rename_i hzl
    have hzs : z.cells.size = ei.size := by
      have := AV.repL_length (constsOf_rep (w := w) (X := fun _ => False) (J := fun _ => none) hzc')
      rw [hes, ← Nat.eq_of_beq_eq_true hzl, this, Array.length_toList]
    have hxv := r.ev hx
    simp only [AV.rep, D.rep] at hxv
    unfold appendStr at hc
    split at hc
    case h_2 => exact hc.elim
    rename_i k
    split at hc
    case h_2 => exact hc.elim
    rename_i sz d xs hk
    obtain ⟨⟨hsz, hsz1, hroom⟩, hK⟩ := hc
    obtain ⟨hbig, hK⟩ := ev_app hK
    have he1 : ei.size = 1 := by rw [hes]; exact hsz ▸ hsz1
    have hsrc := Src.ofString (P := P) w hut ⟨l.toArray⟩
    have hbl : byteCells ⟨l.toArray⟩ = flat (l.map fun c => Value.int .u8 (c.toNat : Int)) := by rw [flat_ints]; simp [byteCells]
    have hsl : (ByteArray.mk l.toArray).size = (u8s l).length := by simp [ByteArray.size, u8s]
    rw [hbl, hsl, ← hxv.1, ← he1] at hsrc
    refine app_core r hd hn hop hu hei hz hzs hs hk (hsz.trans hes.symm) (by rw [heb]; simpa [u8s] using hroom) hsrc (bs2 := []) ?_ ?_ ?_ (by simp) List.nodup_nil (fun h => ⟨h, rfl⟩) hbig hK
    · have key : ∀ l : List UInt8, repL w (Xof X0 J) (u8s l) (l.map fun c => Value.int .u8 (c.toNat : Int)) [] := by
        intro l
        induction l with
        | nil => simp [u8s, repL]
        | cons c l ih =>
          simp only [u8s, List.map_cons, repL, D.rep]
          exact ⟨_, _, [], [], rfl, rfl, ⟨rfl, rfl⟩, ih⟩
      exact key l
    · intro y hy
      simp only [u8s, List.mem_map] at hy
      obtain ⟨c, _, rfl⟩ := hy
      rw [hsz1]; rfl
    · intro u hu'
      simp only [List.mem_map] at hu'
      obtain ⟨c, _, rfl⟩ := hu'
      rw [hsz1]
      exact ⟨rfl, by simp [Value.cells, Value.oneCell']⟩
  case h_3 => exact hc.elim
  rename_i av xv s x hnstr hargs
  clear hnstr
  obtain ⟨hargs', hs, hx⟩ := two rfl hargs
  split at hc
  case h_2 => exact hc.elim
  rename_i hbt
  have hbt := Nat.eq_of_beq_eq_true hbt
  subst hbt
  subst hts'
  subst hargs'
  split at hc
  case h_2 => exact hc.elim
  rename_i zc hzc
  obtain ⟨ei, z, hei, hz, hzc'⟩ := zero_some hzc
  have hes : ei.size = (tdOf P e).size := by simp [tdOf, Program.cellsOf, hei]
  have heb : ei.bytes = (tdOf P e).bytes := by simp [tdOf, Program.bytesOf, hei]
  split at hc
  case h_2 => exact hc.elim
  rename_i hzl
  have hzs : z.cells.size = ei.size := by
    have := AV.repL_length (constsOf_rep (w := w) (X := fun _ => False) (J := fun _ => none) hzc')
    rw [hes, ← Nat.eq_of_beq_eq_true hzl, this, Array.length_toList]
  have hxv := r.ev hx
  have srcNil : ∀ {a0 : Option Addr} {c : Nat}, a.eval x = .slice a0 0 c → Src P ei.size t (a.eval x) ([] : List D).length (flat ([] : List Value)) w := by
    intro a0 c h
    rw [h]
    cases a0 with
    | none => exact Src.ofNil (P := P) w hu c
    | some ad => exact Src.ofSlice (P := P) w hu ad 0 c [] (by simp) (by simp) (by simp)
  have srcOf : ∀ {b2 off2 c : Nat} {ys : List D} {vs : List Value} {bs : List Nat} {sz2 : Nat}, a.eval x = .slice (some ⟨b2, off2, none⟩) ys.length c → w.rangeAt b2 off2 (flat vs) → repL w (Xof X0 J) ys vs bs → (∀ u ∈ vs, u.cells.size = sz2 ∧ ∀ c ∈ u.cells.toList, c.oneCell' = true) → sz2 = ei.size →
      Src P ei.size t (a.eval x) ys.length (flat vs) w := by
    intro b2 off2 c ys vs bs sz2 hxe hrg hv hvl h2
    rw [hxe]
    refine Src.ofSlice (P := P) w hu ⟨b2, off2, none⟩ ys.length c (flat vs) ?_ (fun j u hj => by rw [Addr.add_mid]; exact hrg j u hj) (flat_ones fun u hu => (hvl u hu).2)
    rw [flat_length (fun u hu => (hvl u hu).1), ← repL_length hv, h2]
  have srcOwn : ∀ {k2 sz2 : Nat} {d2 : Bool} {ys : List D}, xv = .own k2 → look k2 st.obj = some (.arr sz2 d2 ys) → sz2 = ei.size → ∃ (vs : List Value) (p2 : Place) (nest : List Nat), J k2 = some p2 ∧ Src P ei.size t (a.eval x) ys.length (flat vs) w ∧
      repL w (Xof X0 J) ys vs nest ∧ (∀ y ∈ ys, y.cells.length = sz2) ∧ (∀ u ∈ vs, u.cells.size = sz2 ∧ ∀ c ∈ u.cells.toList, c.oneCell' = true) ∧ (d2 = false → nest = []) ∧ 0 < sz2 ∧ (∀ b ∈ nest, b ∈ p2.fp) ∧ nest.Nodup := by
    rintro k2 sz2 d2 ys rfl hk2 hsz2
    simp only [AV.rep] at hxv
    obtain ⟨p2, hp2, hxv, _⟩ := hxv
    obtain ⟨p', hp', g0, a1, c1, g1, g2, ⟨hh, rfl, rfl⟩ | ⟨hh, rfl, g3, g4, g5⟩⟩ := r.mem.ob _ _ hk2
    · rw [hp2] at hp'; cases hp'
      exact ⟨[], p2, [], hp2, srcNil (hxv.trans g1), by simp [repL], by simp, by simp, fun _ => rfl, g0, by simp, List.nodup_nil⟩
    · rw [hp2] at hp'; cases hp'
      obtain ⟨us, q1, q2, q3, q4⟩ := repRows_inv g4
      refine ⟨us, p2, p2.nest, hp2, srcOf (hxv.trans g1) (rangeAt_flat (off := 0) (fun u hu => (q3 u hu).1) q4) q1 q3 hsz2, q1, q2, q3, g5, g0, fun b hb => p2.nest_fp hh hb, ?_⟩
      have := r.mem.nd k2 p2 hp2
      rw [p2.fp_hd hh] at this
      exact (List.nodup_cons.1 this).2
  unfold appendC at hc
  split at hc
  ·
    rename_i k
    split at hc
    case h_2 => exact hc.elim
    rename_i sz d xs hk
    split at hc
    · rename_i k2
      split at hc
      case h_2 => exact hc.elim
      rename_i sz2 d2 ys hk2
      split at hc
      · obtain ⟨⟨hne, hss, hsz, hroom⟩, hK⟩ := hc
        obtain ⟨hbig, hK⟩ := ev_app hK
        obtain ⟨vs, p2, nest, hp2, hsrc, hv, hyl, hvl, hn2, _, hfp, hnn⟩ := srcOwn rfl hk2 (by rw [← hss, hsz, hes])
        subst hss
        refine app_core r hd hn hop hu hei hz hzs hs hk (hsz.trans hes.symm) (by rw [heb]; exact hroom) hsrc hv hyl hvl ?_ hnn ?_ hbig hK
        · intro b hb; exact ⟨k2, p2, List.mem_singleton.2 rfl, Ne.symm hne, hp2, hfp b hb⟩
        · intro h; simp only [Bool.or_eq_false_iff] at h; exact ⟨h.1, hn2 h.2⟩
      · split at hc
        · obtain ⟨⟨hne, hss, hsz, hroom⟩, hK⟩ := hc
          obtain ⟨hbig, hK⟩ := ev_app hK
          obtain ⟨vs, p2, nest, hp2, hsrc, hv, hyl, hvl, hn2, _, hfp, hnn⟩ := srcOwn rfl hk2 (by rw [← hss, hsz, hes])
          subst hss
          rw [hn2 rfl] at hv
          exact app_core r hd hn hop hu hei hz hzs hs hk (hsz.trans hes.symm) (by rw [heb]; exact hroom) hsrc hv hyl hvl (by simp) List.nodup_nil (fun h => ⟨h, rfl⟩) hbig hK
        · exact hc.elim
    · rename_i ys
      obtain ⟨⟨hyl, hsz, hroom⟩, hK⟩ := hc
      obtain ⟨hbig, hK⟩ := ev_app hK
      simp only [AV.rep, D.rep] at hxv
      obtain ⟨_, _, a0, c, hxe, hcap, hrows⟩ := hxv
      rcases hrows with rfl | ⟨b2, off2, sz2, hne, rfl, hsz2, hrows, hX⟩
      · exact app_core r hd hn hop hu hei hz hzs hs hk (hsz.trans hes.symm) (by rw [heb]; exact hroom) (ys := []) (vs := []) (bs2 := []) (srcNil hxe) (by simp [repL]) (by simp) (by simp) (by simp) List.nodup_nil (fun h => ⟨h, rfl⟩) hbig hK
      · obtain ⟨us, q1, q2, q3, q4⟩ := repRows_inv hrows
        have hs2 : sz2 = sz := by
          cases ys with
          | nil => exact absurd rfl hne
          | cons y ys => rw [← q2 y (List.mem_cons_self ..), hyl y (List.mem_cons_self ..)]
        subst hs2
        exact app_core r hd hn hop hu hei hz hzs hs hk (hsz.trans hes.symm) (by rw [heb]; exact hroom) (srcOf hxe (rangeAt_flat (fun u hu => (q3 u hu).1) q4) q1 q3 (hsz.trans hes.symm)) q1 q2 q3 (by simp) List.nodup_nil (fun h => ⟨h, rfl⟩) hbig hK
    · obtain ⟨⟨hsz, hroom⟩, hK⟩ := hc
      obtain ⟨hbig, hK⟩ := ev_app hK
      simp only [AV.rep] at hxv
      exact app_core r hd hn hop hu hei hz hzs hs hk (hsz.trans hes.symm) (by rw [heb]; exact hroom) (ys := []) (vs := []) (bs2 := []) (srcNil hxv) (by simp [repL]) (by simp) (by simp) (by simp) List.nodup_nil (fun h => ⟨h, rfl⟩) hbig (by rw [List.append_nil]; exact hK)
    · exact hc.elim
  ·
    have hsv := r.ev hs
    simp only [AV.rep] at hsv
    split at hc
    case h_2 => exact hc.elim
    rename_i k2
    split at hc
    case h_2 => exact hc.elim
    rename_i sz2 d2 ys hk2
    have main : ∀ {ks : List Nat} {d' : Bool}, sz2 = (tdOf P e).size ∧ ys ≠ [] ∧ room ys.length (tdOf P e).bytes → evCmd P cx o.dst (.newArr sz2 d' ys ks) st K → (d2 = false ∨ k2 ∈ ks ∧ (d' = false → d2 = false)) → o.wp P a w next Q := by
      rintro ks d' ⟨hsz, hne, hroom⟩ hc hks
      obtain ⟨vs, p2, nest, hp2, hsrc, hv, hyl, hvl, hn2, h0, hfp, hnn⟩ := srcOwn rfl hk2 (hsz.trans hes.symm)
      have hvsl := repL_length hv
      have hl2 : (flat vs).length = ys.length * ei.size := by rw [flat_length (fun u hu => (hvl u hu).1), ← hvsl, hsz, hes]
      have hpos : 0 < ys.length := List.length_pos_iff.2 hne
      obtain ⟨hr63, hrb⟩ := hroom
      have hrun := run_append_grow_src (P := P) w t t o.type e ei z hu hei hz none 0 0 [] (by simp [Builtin.firstCells]) (a.eval x) ys.length (flat vs) hsrc (by omega) (by simp only [maxLen] at hr63; omega) (by rw [Nat.zero_add, nextslicecap_zero hpos, heb]; omega)
      rw [Nat.zero_add, List.nil_append] at hrun
      have hge := grownCap_ge w ys.length 0 e
      have s1 : Same w w.drew := ⟨rfl, rfl, rfl, Nat.le_refl _, fun _ _ => rfl⟩
      refine wp_newArr r hd hn (cs := (flat vs).toArray ++ Builtin.zeroCells z.cells (grownCap w ys.length 0 e - ys.length)) (t := e) (len := ys.length) (cap := grownCap w ys.length 0 e) hc (s1.trans (Same.push w.drew _)) (heap_push w.drew _)
        (by simp [execOp, hop, resolve, invoke, builtin, hsv, hrun]; rfl) (bs := nest) ?_ hnn ?_ h0 rfl hge ?_ hv hyl hvl ?_
      · intro b hb
        rcases hks with h | h
        · rw [hn2 h] at hb; cases hb
        · exact ⟨k2, p2, h.1, hp2, hfp b hb⟩
      · intro h
        rcases hks with h' | h'
        · exact hn2 h'
        · exact hn2 (h'.2 h)
      · simp only [Array.size_append, List.size_toArray, size_zeroCells, hzs, hl2, hsz, ← hes, ← Nat.add_mul]
        congr 1; simp only [Nat.add_sub_cancel' hge]
      · refine rangeAt_rows (off := 0) (fun u hu => (hvl u hu).1) (fun j u hu => ?_) |> fun h i u hu => by simpa using h i u hu
        have hh : (w.drew.alloc (.cells ((flat vs).toArray ++ Builtin.zeroCells z.cells (grownCap w ys.length 0 e - ys.length)) e)).heap[w.heap.size]? = _ := heap_push w.drew _
        have hj : j < (flat vs).length := (List.getElem?_eq_some_iff.1 hu).1
        have : ((flat vs).toArray ++ Builtin.zeroCells z.cells (grownCap w ys.length 0 e - ys.length))[j]? = some u := by
          rw [Array.getElem?_append_left (by simpa using hj)]; simpa using hu
        simp only [World.cell?]
        erw [hh]
        simpa using this
    split at hc
    · obtain ⟨hnd, hc⟩ := hc
      exact main hnd hc (.inr ⟨List.mem_singleton.2 rfl, fun h => h⟩)
    · split at hc
      · obtain ⟨hnd, hc⟩ := hc
        exact main hnd hc (.inl rfl)
      · exact hc.elim
  · exact hc.elim
theorem op_convert (r : Rel X0 J st a w) (hd : ∀ d, o.dst = some d → d < a.tmps.size) (hn : Leads P X0 J a w K next) (tok : TOk P cx.T) {src dst : TypeId} {x : Operand} (hop : o.op = .convert src dst x)
    (hc : evCmd P cx o.dst (opCmd cx.T o st) st K) : o.wp P a w next Q := by
  simp only [opCmd, hop] at hc
  split at hc
  case h_2 => exact hc.elim
  rename_i v hx
  have hxv := r.ev hx
  unfold convC at hc
  split at hc
  case h_1 => exact hc.elim
  rename_i is his
  have hts := tok src is his
  subst hts
  split at hc
  case h_1 => exact hc.elim
  rename_i id hid
  have htd := tok dst id hid
  subst htd
  split at hc
  · rename_i k hk
    have hu := kind_int (P := P) (t := dst) hk
    split at hc
    case h_2 => exact hc.elim
    rename_i k' n hks
    have hus := kind_int (P := P) (t := src) hks
    split at hc
    case h_2 => exact hc.elim
    rename_i k2 n2
    simp only [AV.rep, D.rep] at hxv
    refine wp_val r hd hn hc (u := .int k (k.wrap n2)) (w' := w) ?_ (Same.refl w) (by simp [AV.rep, D.rep])
    simp [execOp, hop, hxv.1, convert, run_underlying hu, run_underlying hus, Conv.intToInt]
  · rename_i hk
    have hu := kind_str (P := P) (t := dst) hk
    split at hc
    · rename_i hks
      have hus := kind_str (P := P) (t := src) hks
      split at hc
      case h_2 => exact hc.elim
      rename_i l
      simp only [AV.rep, D.rep] at hxv
      refine wp_val r hd hn hc (u := .string ⟨l.toArray⟩) (w' := w) ?_ (Same.refl w) (by simp [AV.rep, D.rep])
      simp [execOp, hop, hxv.1, convert, run_underlying hu, run_underlying hus]
    · rename_i e hks
      have hus := kind_slice (P := P) (t := src) hks
      split at hc
      case h_2 => exact hc.elim
      rename_i ie hie
      have hte := tok e ie hie
      subst hte
      split at hc
      case h_2 => exact hc.elim
      rename_i hke
      have hue := kind_int (P := P) (t := e) hke
      have go : ∀ {a0 : Option Addr} {n c : Nat} {l : List UInt8}, a.eval x = .slice a0 n c → K (st.put o.dst (.d (.s l))) → (Conv.bytesToString (.slice a0 n c)).run P w = .ok (.string ⟨l.toArray⟩) w → o.wp P a w next Q := by
        intro a0 n c l hv hK hrun
        refine wp_val r hd hn hK (u := .string ⟨l.toArray⟩) (w' := w) ?_ (Same.refl w) (by simp [AV.rep, D.rep])
        simp [execOp, hop, hv, run_convert_bytes_string (P := P) w src dst e a0 n c hus hue hu, hrun]
      split at hc
      · rename_i xs
        simp only [evCmd] at hc
        obtain ⟨l, rfl, hK⟩ := hc
        simp only [AV.rep, D.rep] at hxv
        obtain ⟨_, _, a0, c, hv, hcap, hrows⟩ := hxv
        rcases hrows with h0 | ⟨b, off, sz, hne, rfl, hsz, hrows, hX⟩
        · have hl0 : l = [] := by cases l with | nil => rfl | cons _ _ => simp [u8s] at h0
          subst hl0
          refine go hv hK ?_
          cases a0 with
          | none => simp [Conv.bytesToString]; rfl
          | some ad => simp [Conv.bytesToString, u8s, loadCells, loadCellsFrom]; rfl
        · obtain ⟨us, q1, q2, q3, q4⟩ := repRows_inv hrows
          have := bytes_vals q1
          subst this
          have hr := rangeAt_flat (fun u hu => (q3 u hu).1) q4
          rw [flat_ints] at hr
          have hlen : (u8s l).length = l.length := by simp [u8s]
          rw [hlen] at hv
          exact go hv hK (run_str hr)
      · simp only [AV.rep] at hxv
        exact go hxv hc (by simp [Conv.bytesToString]; rfl)
      · rename_i k
        simp only [AV.rep] at hxv
        obtain ⟨p, hp, hv, _⟩ := hxv
        split at hc
        case h_2 => exact hc.elim
        rename_i dd xs hk2
        simp only [evCmd] at hc
        obtain ⟨l, rfl, hK⟩ := hc
        obtain ⟨p', hp', g0, a1, c1, g1, g2, ⟨hh, hx0, rfl⟩ | ⟨hh, rfl, g3, g4, g5⟩⟩ := r.mem.ob _ _ hk2
        · rw [hp] at hp'; cases hp'
          have hl0 : l = [] := by cases l with | nil => rfl | cons _ _ => simp [u8s] at hx0
          subst hl0
          refine go (hv.trans g1) hK ?_
          cases a1 with
          | none => simp [Conv.bytesToString]; rfl
          | some ad => simp [Conv.bytesToString, u8s, loadCells, loadCellsFrom]; rfl
        rw [hp] at hp'; cases hp'
        obtain ⟨us, q1, q2, q3, q4⟩ := repRows_inv g4
        have := bytes_vals q1
        subst this
        have hr := rangeAt_flat (off := 0) (fun u hu => (q3 u hu).1) q4
        rw [flat_ints] at hr
        have hlen : (u8s l).length = l.length := by simp [u8s]
        rw [g1, hlen] at hv
        exact go hv hK (run_str hr)
      · exact hc.elim
    · exact hc.elim
  · exact hc.elim
theorem fill_ok {w : World} {X : Nat → Prop} {J : Nat → Option Place} {place : Nat → Option (Nat × Nat)} {place' : Nat → Option (Nat × Nat)} (hpl : ∀ j x, place j = some x → place' j = some x) :
    ∀ {ps : List (Nat × AV)} {cells cs : List AV} {us : List (Nat × Value)} {c0 : Array Value}, fillParts place cells ps = some cs → ps.map (·.1) = us.map (·.1) → AV.repL w X J (ps.map (·.2)) (us.map (·.2)) → AV.repL w X J cells c0.toList →
      ∃ c1, Instr.fill place' c0 us = some c1 ∧ AV.repL w X J cs c1.toList
  | [], cells, cs, us, c0, h, h1, h2, h3 => by
    simp only [fillParts, Option.some.injEq] at h; subst h
    cases us with
    | nil => exact ⟨c0, rfl, h3⟩
    | cons u us => simp at h1
  | (j, v) :: ps, cells, cs, us, c0, h, h1, h2, h3 => by
    cases us with
    | nil => simp at h1
    | cons u us =>
      obtain ⟨j', u⟩ := u
      simp only [List.map_cons, List.cons.injEq] at h1
      obtain ⟨rfl, h1⟩ := h1
      simp only [List.map_cons, AV.repL] at h2
      obtain ⟨u', us', he, hv, h2⟩ := h2
      simp only [List.cons.injEq] at he
      obtain ⟨rfl, rfl⟩ := he
      simp only [fillParts] at h
      split at h
      case h_2 => cases h
      rename_i off size hp
      split at h
      case h_2 => cases h
      rename_i hlen
      simp only [Bool.and_eq_true] at hlen
      obtain ⟨hlen, hpos⟩ := hlen
      have hlen := Nat.eq_of_beq_eq_true hlen
      have hpos : 0 < size := by simpa [Nat.blt_eq] using hpos
      split at h
      case h_2 => cases h
      rename_i cs' hset
      have hcr := cells_rep hv
      have hcl := AV.repL_length hcr
      have hc0 := AV.repL_length h3
      simp only [Array.length_toList] at hcl hc0
      have hr := setCells_rep (w' := w) hset hcr h3
      obtain ⟨_, hl⟩ := setCells_some hset
      have key : ∀ (l : List Value) (off s : Nat) (c : Array Value), (l.zipIdx s).foldl (fun cs (x : Value × Nat) => cs.setIfInBounds (off + x.2) x.1) c = putAt c (off + s) l := by
        intro l
        induction l with
        | nil => intro off s c; rfl
        | cons y l ih => intro off s c; simp only [List.zipIdx_cons, List.foldl_cons, putAt]; rw [ih]; rfl
      by_cases hfit : off + u.cells.size ≤ c0.size
      · obtain ⟨c1, hf, hr1⟩ := fill_ok hpl (c0 := putAt c0 off u.cells.toList) h h1 h2 hr
        refine ⟨c1, ?_, hr1⟩
        have hp' := hpl _ _ hp
        simp only [Instr.fill, hp']
        rw [if_neg (by simp only [Bool.or_eq_true, decide_eq_true_eq, not_or]; omega)]
        have := key u.cells.toList off 0 c0
        simp only [Nat.add_zero] at this
        rw [← Array.foldl_toList, Array.toList_zipIdx, this]
        exact hf
      · exfalso
        rcases hl with hl | hl
        · rw [hl] at hlen; simp at hlen; omega
        · omega
theorem op_build (r : Rel X0 J st a w) (hd : ∀ d, o.dst = some d → d < a.tmps.size) (hn : Leads P X0 J a w K next) (tok : TOk P cx.T) {t : TypeId} {parts : Array (Nat × Operand)} (hop : o.op = .build t parts)
    (hc : evCmd P cx o.dst (opCmd cx.T o st) st K) : o.wp P a w next Q := by
  simp only [opCmd, hop] at hc
  split at hc
  case h_2 => exact hc.elim
  rename_i i hi
  have hti := tok t i hi
  subst hti
  split at hc
  case h_2 => exact hc.elim
  rename_i fs hk
  obtain ⟨fds, hu, rfl, hinfo⟩ := kind_struct' (P := P) (t := t) hk
  split at hc
  case h_2 => exact hc.elim
  rename_i zc hzc
  obtain ⟨ti, z, hti, hz, hzc'⟩ := zero_some hzc
  split at hc
  case h_2 => exact hc.elim
  rename_i ps hps
  split at hc
  case h_2 => exact hc.elim
  rename_i cs hcs
  obtain ⟨g1, g2⟩ := r.pairs hps
  have hplaces : ∀ (l : List Field), (∀ f ∈ l, (P.info? f.type).isSome = true) → l.mapM (fun f => (P.info? f.type).map fun i => (f.offset, i.size)) = some (l.map fun f => (f.offset, P.cellsOf f.type)) := by
    intro l
    induction l with
    | nil => intro _; rfl
    | cons f l ih =>
      intro h
      obtain ⟨fi, hfi⟩ := Option.isSome_iff_exists.1 (h f (List.mem_cons_self ..))
      simp [List.mapM_cons, hfi, ih fun g hg => h g (List.mem_cons_of_mem _ hg), Program.cellsOf]
  have s1 : ∀ j x, placeOf (fds.toList.map fun f => (f.offset, f.type, P.cellsOf f.type)) j = some x → (fds.toList.map fun f => (f.offset, P.cellsOf f.type)).toArray[j]? = some x := by
    intro j y hy
    simp only [placeOf, List.getElem?_map] at hy
    cases hfd : fds.toList[j]? with
    | none => rw [hfd] at hy; cases hy
    | some fd =>
      rw [hfd] at hy
      simp only [Option.map_some, Option.some.injEq] at hy
      subst hy
      simp only [List.getElem?_toArray, List.getElem?_map, hfd, Option.map_some]
  have s2 : ps.map (·.1) = ((parts.map fun (i, x) => (i, a.eval x)).toList).map (·.1) := by rw [g2]; simp
  have s3 : AV.repL w (Xof X0 J) J (ps.map (·.2)) (((parts.map fun (i, x) => (i, a.eval x)).toList).map (·.2)) := by simpa [Function.comp_def] using g1
  obtain ⟨c1, hf, hr1⟩ := fill_ok (w := w) (X := Xof X0 J) (J := J) (place' := fun j => (fds.toList.map fun f => (f.offset, P.cellsOf f.type)).toArray[j]?) (c0 := z.cells) s1 hcs s2 s3 (constsOf_rep hzc')
  have hb : P.built t (parts.map fun (i, x) => (i, a.eval x)).toList = some c1 := by
    unfold Program.built
    simp only [hti, hu, hz, hplaces fds.toList hinfo]
    exact hf
  have hrun := run_build (P := P) w t _ c1 hb
  exact wp_val r hd hn hc (u := .agg c1) (w' := w) (by simp only [execOp, hop, Sem.run_bind, hrun, Result.andThen_ok, Sem.run_pure]) (Same.refl w) (mkAgg_rep hr1)
end
end Go.Pm
namespace Go.Pm
open Go
set_option linter.unusedVariables false
variable {P : Program}
section
variable {cx : Cx} {X0 : Nat → Prop} {J : Nat → Option Place} {st : St} {a : Act} {w : World} {o : Oper} {K : St → Prop} {next : Act → World → Prop} {Q : Exit → Act → World → Prop}
mutual
theorem flat_rep {w w' : World} {X X' : Nat → Prop} {J J' : Nat → Option Place} : ∀ (x : AV) (v : Value), x.flat = true → x.rep w X J v → x.rep w' X' J' v
  | .d x, v, hf, h => by simp only [AV.flat] at hf; simp only [AV.rep] at h ⊢; exact D.flat_rep x v [] hf h
  | .c u, v, hf, h => by simp only [AV.rep] at h ⊢; exact h
  | .tup vs, v, hf, h => by
    simp only [AV.flat] at hf
    simp only [AV.rep] at h ⊢
    obtain ⟨us, hv, hr⟩ := h
    exact ⟨us, hv, flatV_rep vs _ hf hr⟩
  | .snil, v, hf, h => by cases hf
  | .agg _, v, hf, h => by cases hf
  | .ptr .., v, hf, h => by cases hf
  | .eptr .., v, hf, h => by cases hf
  | .own _, v, hf, h => by cases hf
  | .win .., v, hf, h => by cases hf
  | .rd _, v, hf, h => by cases hf
  | .fn .., v, hf, h => by cases hf
  | .bot, v, hf, h => by cases hf
theorem flatV_rep {w w' : World} {X X' : Nat → Prop} {J J' : Nat → Option Place} : ∀ (xs : List AV) (vs : List Value), flatV xs = true → AV.repL w X J xs vs → AV.repL w' X' J' xs vs
  | [], vs, _, h => by simp only [AV.repL] at h ⊢; exact h
  | x :: xs, vs, hf, h => by
    simp only [flatV] at hf
    split at hf
    · rename_i hx
      simp only [AV.repL] at h ⊢
      obtain ⟨v, vs', rfl, h1, h2⟩ := h
      exact ⟨v, vs', rfl, flat_rep x v hx h1, flatV_rep xs vs' hf h2⟩
    · cases hf
theorem D.flat_rep {w w' : World} {X X' : Nat → Prop} : ∀ (x : D) (v : Value) (bs : List Nat), x.flat = true → x.rep w X v bs → x.rep w' X' v bs
  | .b x, v, bs, _, h => by simp only [D.rep] at h ⊢; exact h
  | .i k n, v, bs, _, h => by simp only [D.rep] at h ⊢; exact h
  | .s l, v, bs, _, h => by simp only [D.rep] at h ⊢; exact h
  | .agg cs, v, bs, hf, h => by
    simp only [D.flat] at hf
    simp only [D.rep] at h ⊢
    obtain ⟨vs, hv, hr⟩ := h
    exact ⟨vs, hv, flatL_rep cs _ _ hf hr⟩
  | .sl u (_ :: _), v, bs, hf, h => by simp only [D.flat] at hf; cases hf
  | .sl u [], v, bs, hf, h => by
    simp only [D.rep] at h ⊢
    obtain ⟨h4, h5, a, cap, h1, h2, h3⟩ := h
    exact ⟨h4, h5, a, cap, h1, h2, .inl trivial⟩
  | .os .., v, bs, hf, h => by simp only [D.flat] at hf; cases hf
  | .junk, v, bs, _, h => by simp only [D.rep] at h ⊢; exact h
theorem flatL_rep {w w' : World} {X X' : Nat → Prop} : ∀ (xs : List D) (vs : List Value) (bs : List Nat), flatL xs = true → repL w X xs vs bs → repL w' X' xs vs bs
  | [], vs, bs, _, h => by simp only [repL] at h ⊢; exact h
  | x :: xs, vs, bs, hf, h => by
    simp only [flatL] at hf
    split at hf
    · rename_i hx
      simp only [repL] at h ⊢
      obtain ⟨v, vs', b1, b2, rfl, rfl, h1, h2⟩ := h
      exact ⟨v, vs', b1, b2, rfl, rfl, D.flat_rep x v b1 hx h1, flatL_rep xs vs' b2 hf h2⟩
    · cases hf
end
mutual
theorem loose_ren {w w' : World} {X X' : Nat → Prop} {J J' : Nat → Option Place} {f : Nat → Option Nat} (hJ : ∀ k p j, J k = some p → f k = some j → ∃ p', J' j = some p' ∧ p.like p') :
    ∀ (x : AV) (v : Value), x.loose = true → x.rep w X J v → (x.ren f).rep w' X' J' v
  | .d x, v, hf, h => by simp only [AV.loose] at hf; simp only [AV.ren, AV.rep] at h ⊢; exact D.flat_rep x v [] hf h
  | .c u, v, _, h => by simp only [AV.ren, AV.rep] at h ⊢; exact h
  | .snil, v, _, h => by simp only [AV.ren, AV.rep] at h ⊢; exact h
  | .agg cs, v, hf, h => by
    simp only [AV.loose] at hf
    simp only [AV.ren, AV.rep] at h ⊢
    obtain ⟨vs, hv, hr⟩ := h
    exact ⟨vs, hv, looseV_ren hJ cs _ hf hr⟩
  | .tup cs, v, hf, h => by
    simp only [AV.loose] at hf
    simp only [AV.ren, AV.rep] at h ⊢
    obtain ⟨vs, hv, hr⟩ := h
    exact ⟨vs, hv, looseV_ren hJ cs _ hf hr⟩
  | .ptr k off, v, _, h => by
    simp only [AV.rep] at h
    obtain ⟨p, hp, hv⟩ := h
    simp only [AV.ren]
    cases hf : f k with
    | none => simp only [AV.rep]; rw [hv]; rfl
    | some j => simp only [AV.rep]; obtain ⟨p', hp', hl⟩ := hJ k p j hp hf; exact ⟨p', hp', by rw [hl.1]; exact hv⟩
  | .eptr k sz i off, v, _, h => by
    simp only [AV.rep] at h
    obtain ⟨p, hp, hv⟩ := h
    simp only [AV.ren]
    cases hf : f k with
    | none => simp only [AV.rep]; rw [hv]; rfl
    | some j => simp only [AV.rep]; obtain ⟨p', hp', hl⟩ := hJ k p j hp hf; exact ⟨p', hp', by rw [hl.1]; exact hv⟩
  | .own k, v, _, h => by
    simp only [AV.rep] at h
    obtain ⟨p, hp, hv, h1⟩ := h
    simp only [AV.ren]
    cases hf : f k with
    | none => simp only [AV.rep]; rw [hv]; exact h1
    | some j => simp only [AV.rep]; obtain ⟨p', hp', hl⟩ := hJ k p j hp hf; exact ⟨p', hp', by rw [hl.2]; exact hv, by rw [hl.2]; exact h1⟩
  | .win k sz lo hi, v, _, h => by
    simp only [AV.rep] at h
    obtain ⟨p, a0, n0, c0, a, c, hp, hpv, h1, h2, h3, hv, h4, h5⟩ := h
    simp only [AV.ren]
    cases hf : f k with
    | none => simp only [AV.rep]; rw [hv]; rfl
    | some j => simp only [AV.rep]; obtain ⟨p', hp', hl⟩ := hJ k p j hp hf; exact ⟨p', a0, n0, c0, a, c, hp', by rw [hl.2]; exact hpv, h1, h2, h3, hv, h4, by rw [hl.1]; exact h5⟩
  | .rd cs, v, hf, h => by cases hf
  | .fn g caps, v, hf, h => by
    simp only [AV.loose] at hf
    simp only [AV.ren, AV.rep] at h ⊢
    obtain ⟨cs, hv, hr⟩ := h
    exact ⟨cs, hv, looseV_ren hJ caps _ hf hr⟩
  | .bot, v, _, h => by simp only [AV.ren, AV.rep] at h ⊢; exact h
theorem looseV_ren {w w' : World} {X X' : Nat → Prop} {J J' : Nat → Option Place} {f : Nat → Option Nat} (hJ : ∀ k p j, J k = some p → f k = some j → ∃ p', J' j = some p' ∧ p.like p') :
    ∀ (xs : List AV) (vs : List Value), looseV xs = true → AV.repL w X J xs vs → AV.repL w' X' J' (renL f xs) vs
  | [], vs, _, h => by simp only [renL, AV.repL] at h ⊢; exact h
  | x :: xs, vs, hf, h => by
    simp only [looseV] at hf
    split at hf
    · rename_i hx
      simp only [renL, AV.repL] at h ⊢
      obtain ⟨v, vs', rfl, h1, h2⟩ := h
      exact ⟨v, vs', rfl, loose_ren hJ x v hx h1, looseV_ren hJ xs vs' hf h2⟩
    · cases hf
end
mutual
theorem D.loose_rep {w : World} {X X' : Nat → Prop} : ∀ (x : D) (v : Value) (bs : List Nat), x.loose = true → x.rep w X v bs → x.rep w X' v bs
  | .b x, v, bs, _, h => by simp only [D.rep] at h ⊢; exact h
  | .i k n, v, bs, _, h => by simp only [D.rep] at h ⊢; exact h
  | .s l, v, bs, _, h => by simp only [D.rep] at h ⊢; exact h
  | .junk, v, bs, _, h => by simp only [D.rep] at h ⊢; exact h
  | .agg cs, v, bs, hf, h => by
    simp only [D.loose] at hf
    simp only [D.rep] at h ⊢
    obtain ⟨vs, hv, hr⟩ := h
    exact ⟨vs, hv, looseL_rep cs _ _ hf hr⟩
  | .sl u (_ :: _), v, bs, hf, h => by simp only [D.loose] at hf; cases hf
  | .sl u [], v, bs, hf, h => by
    simp only [D.rep] at h ⊢
    obtain ⟨h4, h5, a, cap, h1, h2, h3⟩ := h
    exact ⟨h4, h5, a, cap, h1, h2, .inl trivial⟩
  | .os sz dp xs, v, bs, hf, h => by
    simp only [D.loose] at hf
    simp only [D.rep] at h ⊢
    obtain ⟨h0, a, cap, h1, h2, h3⟩ := h
    refine ⟨h0, a, cap, h1, h2, h3.imp id ?_⟩
    rintro ⟨b, bs', g1, g2, g3, g4, g5⟩
    exact ⟨b, bs', g1, g2, looseRows_rep xs _ _ hf g3, g4, g5⟩
theorem looseL_rep {w : World} {X X' : Nat → Prop} : ∀ (xs : List D) (vs : List Value) (bs : List Nat), looseL xs = true → repL w X xs vs bs → repL w X' xs vs bs
  | [], vs, bs, _, h => by simp only [repL] at h ⊢; exact h
  | x :: xs, vs, bs, hf, h => by
    simp only [looseL] at hf
    split at hf
    · rename_i hx
      simp only [repL] at h ⊢
      obtain ⟨v, vs', b1, b2, rfl, rfl, h1, h2⟩ := h
      exact ⟨v, vs', b1, b2, rfl, rfl, D.loose_rep x v b1 hx h1, looseL_rep xs vs' b2 hf h2⟩
    · cases hf
theorem looseRows_rep {w : World} {X X' : Nat → Prop} {b sz : Nat} : ∀ (xs : List D) (off : Nat) (bs : List Nat), looseL xs = true → repRows w X b sz xs off bs → repRows w X' b sz xs off bs
  | [], off, bs, _, h => by simp only [repRows] at h ⊢; exact h
  | x :: xs, off, bs, hf, h => by
    simp only [looseL] at hf
    split at hf
    · rename_i hx
      simp only [repRows] at h ⊢
      obtain ⟨v, b1, b2, e, h1, h2, h3, h4, h5⟩ := h
      exact ⟨v, b1, b2, e, D.loose_rep x v b1 hx h1, h2, h3, h4, looseRows_rep xs _ _ hf h5⟩
    · cases hf
end
mutual
theorem flat_ren {f : Nat → Option Nat} : ∀ x : AV, x.flat = true → x.ren f = x
  | .d _, _ => rfl
  | .c _, _ => rfl
  | .tup vs, h => by simp only [AV.flat] at h; simp only [AV.ren, flatV_ren vs h]
  | .snil, h => by cases h
  | .agg _, h => by cases h
  | .ptr .., h => by cases h
  | .eptr .., h => by cases h
  | .own _, h => by cases h
  | .win .., h => by cases h
  | .rd _, h => by cases h
  | .fn .., h => by cases h
  | .bot, h => by cases h
theorem flatV_ren {f : Nat → Option Nat} : ∀ xs : List AV, flatV xs = true → renL f xs = xs
  | [], _ => rfl
  | x :: xs, h => by
    simp only [flatV] at h
    split at h
    · rename_i hx; simp only [renL, flat_ren x hx, flatV_ren xs h]
    · cases h
end
theorem idx_some : ∀ {ks : List Nat} {k j i : Nat}, idx k ks j = some i → j ≤ i ∧ ks[i - j]? = some k
  | [], k, j, i, h => by cases h
  | k' :: ks, k, j, i, h => by
    simp only [idx] at h
    split at h
    · rename_i hb
      cases h
      have := Nat.eq_of_beq_eq_true hb
      subst this
      simp
    · obtain ⟨h1, h2⟩ := idx_some h
      refine ⟨by omega, ?_⟩
      rw [show i - j = (i - (j + 1)) + 1 by omega]
      simpa using h2
theorem idx_none : ∀ {ks : List Nat} {k j : Nat}, idx k ks j = none → k ∉ ks
  | [], k, j, h => by simp
  | k' :: ks, k, j, h => by
    simp only [idx] at h
    split at h
    · cases h
    · rename_i hb
      intro hm
      rcases List.mem_cons.1 hm with rfl | hm
      · rw [show Nat.beq k k = true by simp] at hb; cases hb
      · exact idx_none h hm
theorem idx_get : ∀ {ks : List Nat} {i k j : Nat}, ks.Nodup → ks[i]? = some k → idx k ks j = some (j + i)
  | [], i, k, j, _, h => by simp at h
  | k' :: ks, i, k, j, hn, h => by
    simp only [idx]
    cases i with
    | zero => simp at h; subst h; simp
    | succ i =>
      simp only [List.getElem?_cons_succ] at h
      have hne : Nat.beq k' k = false := by
        refine Bool.eq_false_iff.2 fun e => ?_
        have := Nat.eq_of_beq_eq_true e
        subst this
        exact (List.nodup_cons.1 hn).1 (List.mem_of_getElem? h)
      rw [hne]
      have := idx_get (j := j + 1) (List.nodup_cons.1 hn).2 h
      rw [this, show j + 1 + i = j + (i + 1) by omega]
theorem nodup_ok : ∀ {l : List Nat}, nodup l = true → l.Nodup
  | [], _ => List.nodup_nil
  | k :: l, h => by
    simp only [nodup] at h
    split at h
    · cases h
    · rename_i hk
      exact List.nodup_cons.2 ⟨fun hm => by { rw [(has_iff k l).2 hm] at hk; cases hk }, nodup_ok h⟩
theorem apart_ok : ∀ {bs ks : List Nat}, apart bs ks = true → ∀ k, k ∈ bs → k ∉ ks
  | [], ks, _, k, h => by cases h
  | j :: bs, ks, hh, k, h => by
    simp only [apart] at hh
    split at hh
    · cases hh
    · rename_i hj
      rcases List.mem_cons.1 h with e | h
      · subst e; intro hm; rw [(has_iff _ _).2 hm] at hj; cases hj
      · exact apart_ok hh k h
theorem inside_ok : ∀ {l ks : List Nat}, inside l ks = true → ∀ k, k ∈ l → k ∈ ks
  | [], ks, _, k, h => by cases h
  | j :: l, ks, hh, k, h => by
    simp only [inside] at hh
    split at hh
    · rename_i hj
      rcases List.mem_cons.1 h with rfl | h
      · exact (has_iff _ _).1 hj
      · exact inside_ok hh k h
    · cases hh
theorem pickObs_ok {σ : Nat → Option Ob} {f : Nat → Option Nat} : ∀ {ks : List Nat} {objs : List Ob}, pickObs σ f ks = some objs → objs.length = ks.length ∧ ∀ (i k : Nat), ks[i]? = some k → ∃ o, σ k = some o ∧ objs[i]? = some (o.ren f)
  | [], objs, h => by simp only [pickObs, Option.some.injEq] at h; subst h; simp
  | k :: ks, objs, h => by
    simp only [pickObs] at h
    split at h
    case h_2 => cases h
    rename_i o ho
    split at h
    case h_2 => cases h
    rename_i l hl
    cases h
    obtain ⟨h1, h2⟩ := pickObs_ok hl
    refine ⟨by simp [h1], fun i k' hk => ?_⟩
    cases i with
    | zero => simp at hk; subst hk; exact ⟨o, ho, rfl⟩
    | succ i => exact h2 i k' (by simpa using hk)
def namesOf (ks : List Nat) (d n : Nat) : List Nat := (List.range n).map fun i => (nameOf ks d i).getD 0
theorem nameOf_lt {ks : List Nat} {d i : Nat} (h : i < ks.length) : nameOf ks d i = some ks[i] := by
  simp [nameOf, List.getElem?_eq_getElem h]
theorem nameOf_ge {ks : List Nat} {d i : Nat} (h : ks.length ≤ i) : nameOf ks d i = some (10000 * (i - ks.length + 1) + d) := by
  simp [nameOf, List.getElem?_eq_none h]
theorem nameOf_isSome (ks : List Nat) (d i : Nat) : nameOf ks d i = some ((nameOf ks d i).getD 0) := by
  unfold nameOf; split <;> rfl
theorem freshOk_ok {obj : List (Nat × Ob)} {ks : List Nat} {d : Nat} : ∀ {n i : Nat}, freshOk obj ks d i n = true → ∀ j, i ≤ j → j < i + n → look (10000 * (j + 1) + d) obj = none
  | 0, i, _, j, h1, h2 => by omega
  | n + 1, i, h, j, h1, h2 => by
    simp only [freshOk] at h
    split at h
    · rename_i hl
      by_cases e : j = i
      · subst e; exact hl
      · exact freshOk_ok h j (by omega) (by omega)
    · cases h
theorem namesOf_get {ks : List Nat} {d n i : Nat} (h : i < n) : (namesOf ks d n)[i]? = nameOf ks d i := by
  simp only [namesOf, List.getElem?_map, List.getElem?_range, h, Option.map_some]
  exact (nameOf_isSome ks d i).symm
theorem namesOf_nodup {ks : List Nat} {d n : Nat} (hn : ks.Nodup) (hl : ∀ i, ks.length ≤ i → i < n → 10000 * (i - ks.length + 1) + d ∉ ks) : (namesOf ks d n).Nodup := by
  rw [List.Nodup, namesOf, List.pairwise_map]
  refine List.Pairwise.imp_of_mem ?_ (List.pairwise_lt_range (n := n))
  intro i j hi hj hij e
  have hi' := List.mem_range.1 hi
  have hj' := List.mem_range.1 hj
  have e' : nameOf ks d i = nameOf ks d j := by rw [nameOf_isSome ks d i, nameOf_isSome ks d j, e]
  by_cases h1 : i < ks.length
  · rw [nameOf_lt h1] at e'
    by_cases h2 : j < ks.length
    · rw [nameOf_lt h2] at e'
      have := (List.pairwise_iff_getElem.1 hn) i j h1 h2 hij
      exact this (Option.some.inj e')
    · rw [nameOf_ge (by omega)] at e'
      exact hl j (by omega) hj' (by rw [← Option.some.inj e']; exact List.getElem_mem h1)
  · rw [nameOf_ge (by omega), nameOf_ge (by omega)] at e'
    have := Option.some.inj e'
    omega
theorem setAll_env (g : Nat → Option Nat) : ∀ (O : List Ob) (i : Nat) (st : St), (setAll st g i O).env = st.env
  | [], i, st => rfl
  | o :: O, i, st => by
    simp only [setAll]
    split
    · rw [setAll_env g O]; rfl
    · rfl
theorem setAll_look {ks : List Nat} {d : Nat} : ∀ (O : List Ob) (i : Nat) (st : St) (k : Nat), ((namesOf ks d (i + O.length)).drop i).Nodup →
    look k (setAll st (nameOf ks d) i O).obj = match idx k ((namesOf ks d (i + O.length)).drop i) 0 with | some j => (O[j]?).map (Ob.ren (nameOf ks d)) | none => look k st.obj
  | [], i, st, k, hn => by
    have : (namesOf ks d (i + ([] : List Ob).length)).drop i = [] := by simp [namesOf]
    rw [this]; rfl
  | o :: O, i, st, k, hn => by
    have hd : (namesOf ks d (i + (o :: O).length)).drop i = (nameOf ks d i).getD 0 :: (namesOf ks d (i + 1 + O.length)).drop (i + 1) := by
      have hlt : i < (namesOf ks d (i + (o :: O).length)).length := by simp [namesOf]
      rw [List.drop_eq_getElem_cons hlt]
      have := namesOf_get (ks := ks) (d := d) (n := i + (o :: O).length) (i := i) (by simp)
      rw [List.getElem?_eq_getElem hlt, nameOf_isSome ks d i] at this
      rw [Option.some.inj this]
      congr 2
      simp [Nat.add_comm, Nat.add_left_comm]
    rw [hd] at hn ⊢
    have hn' := (List.nodup_cons.1 hn).2
    simp only [setAll]
    rw [nameOf_isSome ks d i]
    simp only
    rw [setAll_look O (i + 1) _ k hn', St.set_look]
    simp only [idx]
    by_cases e : (nameOf ks d i).getD 0 = k
    · subst e
      have hni : idx ((nameOf ks d i).getD 0) ((namesOf ks d (i + 1 + O.length)).drop (i + 1)) 0 = none := by
        cases hi : idx ((nameOf ks d i).getD 0) ((namesOf ks d (i + 1 + O.length)).drop (i + 1)) 0 with
        | none => rfl
        | some j => exact absurd (List.mem_of_getElem? (idx_some hi).2) (List.nodup_cons.1 hn).1
      rw [hni, if_pos rfl]
      simp
    · rw [if_neg e]
      have hb : Nat.beq ((nameOf ks d i).getD 0) k = false := Bool.eq_false_iff.2 fun h => e (Nat.eq_of_beq_eq_true h)
      simp only [Option.getD_some, hb]
      have shift : ∀ (l : List Nat) (j : Nat), idx k l (j + 1) = (idx k l j).map (· + 1) := by
        intro l
        induction l with
        | nil => intro j; rfl
        | cons y l ih => intro j; simp only [idx]; split <;> simp [ih]
      rw [shift]
      cases hi : idx k ((namesOf ks d (i + 1 + O.length)).drop (i + 1)) 0 with
      | none => rfl
      | some j => simp
end
end Go.Pm
namespace Go.Pm
open Go
set_option linter.unusedVariables false
variable {P : Program}
theorem eraseL_length : ∀ xs : List D, (eraseL xs).length = xs.length
  | [] => rfl
  | x :: xs => by simp only [eraseL, List.length_cons, eraseL_length xs]
theorem erase_cells : ∀ x : D, x.erase.cells.length = x.cells.length
  | .b _ | .i .. | .s _ | .sl .. | .os .. | .junk => rfl
  | .agg cs => by simp only [D.erase, D.cells, eraseL_length]
mutual
theorem D.rep_erase {w : World} {X X' : Nat → Prop} (hX : ∀ b, X' b → X b) : ∀ (x : D) (v : Value) (bs : List Nat), x.rep w X v bs → (∀ b ∈ bs, ¬ X' b) → x.erase.rep w X' v []
  | .b x, v, bs, h, _ => by simp only [D.rep, D.erase] at h ⊢; exact ⟨h.1, trivial⟩
  | .i k n, v, bs, h, _ => by simp only [D.rep, D.erase] at h ⊢; exact ⟨h.1, trivial⟩
  | .s l, v, bs, h, _ => by simp only [D.rep, D.erase] at h ⊢; exact ⟨h.1, trivial⟩
  | .agg cs, v, bs, h, hb => by
    simp only [D.rep, D.erase] at h ⊢
    obtain ⟨vs, hv, hr⟩ := h
    exact ⟨vs, hv, repL_erase hX cs _ _ hr hb⟩
  | .junk, v, bs, h, _ => by simp only [D.rep, D.erase] at h ⊢; exact ⟨h.1, trivial⟩
  | .sl u xs, v, bs, h, hb => by
    simp only [D.rep, D.erase, eraseL_length] at h ⊢
    obtain ⟨hu, hbs, a, cap, hv, hc, hr⟩ := h
    refine ⟨trivial, trivial, a, cap, hv, hc, ?_⟩
    rcases hr with h1 | ⟨b, off, sz, hne, ha, hsz, hrows, hx⟩
    · subst h1; exact .inl rfl
    · refine .inr ⟨b, off, sz, ?_, ha, hsz, repRows_erase hX b sz xs off [] hrows (by simp), fun h => hx (hX b h)⟩
      intro e
      have := eraseL_length xs
      rw [e] at this
      exact hne (List.eq_nil_of_length_eq_zero this.symm)
  | .os sz deep xs, v, bs, h, hb => by
    simp only [D.rep, D.erase, eraseL_length] at h ⊢
    obtain ⟨h0, a, cap, hv, hc, hr⟩ := h
    refine ⟨trivial, trivial, a, cap, hv, hc, ?_⟩
    by_cases hn : xs = []
    · subst hn; exact .inl rfl
    · rcases hr with ⟨h1, _⟩ | ⟨b, bs', ha, hp, hrows, hbs, hd⟩
      · exact absurd h1 hn
      · subst hbs
        refine .inr ⟨b, 0, sz, ?_, ha, h0, repRows_erase hX b sz xs 0 bs' hrows (fun c hc => hb c (List.mem_cons_of_mem _ hc)), hb b (List.mem_cons_self ..)⟩
        intro e
        have := eraseL_length xs
        rw [e] at this
        exact hn (List.eq_nil_of_length_eq_zero this.symm)
theorem repL_erase {w : World} {X X' : Nat → Prop} (hX : ∀ b, X' b → X b) : ∀ (xs : List D) (vs : List Value) (bs : List Nat), repL w X xs vs bs → (∀ b ∈ bs, ¬ X' b) → repL w X' (eraseL xs) vs []
  | [], vs, bs, h, _ => by simp only [repL, eraseL] at h ⊢; exact ⟨h.1, trivial⟩
  | x :: xs, vs, bs, h, hb => by
    simp only [repL, eraseL] at h ⊢
    obtain ⟨v, vs', b1, b2, hv, rfl, h1, h2⟩ := h
    exact ⟨v, vs', [], [], hv, rfl, D.rep_erase hX x v b1 h1 (fun c hc => hb c (List.mem_append_left _ hc)), repL_erase hX xs vs' b2 h2 (fun c hc => hb c (List.mem_append_right _ hc))⟩
theorem repRows_erase {w : World} {X X' : Nat → Prop} (hX : ∀ b, X' b → X b) (b sz : Nat) : ∀ (xs : List D) (off : Nat) (bs : List Nat), repRows w X b sz xs off bs → (∀ b ∈ bs, ¬ X' b) → repRows w X' b sz (eraseL xs) off []
  | [], off, bs, h, _ => by simp only [repRows, eraseL] at h ⊢
  | x :: xs, off, bs, h, hb => by
    simp only [repRows, eraseL] at h ⊢
    obtain ⟨v, b1, b2, rfl, h1, h2, h3, h4, h5⟩ := h
    exact ⟨v, [], [], rfl, D.rep_erase hX x v b1 h1 (fun c hc => hb c (List.mem_append_left _ hc)), h2, by rw [erase_cells]; exact h3, h4, repRows_erase hX b sz xs (off + sz) b2 h5 (fun c hc => hb c (List.mem_append_right _ hc))⟩
end
theorem repRows_less {w : World} {X X' : Nat → Prop} (hX : ∀ b, X' b → X b) {b sz : Nat} {xs : List D} {off : Nat} {bs : List Nat} (h : repRows w X b sz xs off bs) : repRows w X' b sz xs off bs :=
  repRows_mono (fun b _ hx h => hx (hX b h)) b sz xs off bs (fun _ _ _ => rfl) (fun _ => rfl) h
section
variable {X0 : Nat → Prop} {J : Nat → Option Place} {σ : Nat → Option Ob} {w : World}
mutual
theorem show_rep (m : Mem X0 J σ w) {X' : Nat → Prop} (hX : ∀ b, X' b → Xof X0 J b) : ∀ (v : AV) (u : Value) (x : D) (ks : List Nat), v.show σ = some (x, ks) → v.rep w (Xof X0 J) J u →
    (∀ k, k ∈ ks → ∀ p, J k = some p → ∀ b, b ∈ p.fp → ¬ X' b) → x.rep w X' u []
  | .d y, u, x, ks, h, hr, hb => by
    simp only [AV.show, Option.some.injEq, Prod.mk.injEq] at h; obtain ⟨rfl, rfl⟩ := h
    simp only [AV.rep] at hr
    exact D.rep_mono (fun b _ hx h => hx (hX b h)) y u [] (fun _ _ _ => rfl) hr
  | .snil, u, x, ks, h, hr, hb => by
    simp only [AV.show, Option.some.injEq, Prod.mk.injEq] at h; obtain ⟨rfl, rfl⟩ := h
    simp only [AV.rep] at hr
    simp only [D.rep]
    exact ⟨trivial, trivial, none, 0, hr, Nat.le_refl _, .inl trivial⟩
  | .own k, u, x, ks, h, hr, hb => by
    simp only [AV.rep] at hr
    obtain ⟨p, hp, hu, _⟩ := hr
    have go : ∀ {sz : Nat} {deep : Bool} {xs : List D}, σ k = some (.arr sz deep xs) → (k ∈ ks) → (D.sl false (eraseL xs)).rep w X' u [] ∧ (deep = false → (D.sl false xs).rep w X' u []) := by
      intro sz deep xs ho hk
      obtain ⟨p', hp', hr'⟩ := m.ob k _ ho
      rw [hp] at hp'; cases hp'
      have hbk := hb k hk p hp
      have hos := arr_place hr'
      rw [← hu] at hos
      refine ⟨?_, fun hd => ?_⟩
      · have := D.rep_erase hX (.os sz deep xs) u p.fp hos hbk
        simpa [D.erase] using this
      · obtain ⟨h0, a, cap, h1, h2, h3⟩ := hr'
        simp only [D.rep]
        refine ⟨trivial, trivial, a, cap, hu.trans h1, h2, ?_⟩
        rcases h3 with ⟨_, h3, _⟩ | ⟨hh, ha, h3, h4, h5⟩
        · exact .inl h3
        · by_cases hn : xs = []
          · exact .inl hn
          · rw [h5 hd] at h4
            exact .inr ⟨p.blk, 0, sz, hn, ha, h0, repRows_less hX h4, hbk p.blk (p.blk_fp hh)⟩
    simp only [AV.show] at h
    split at h
    · rename_i sz xs ho
      simp only [Option.some.injEq, Prod.mk.injEq] at h; obtain ⟨rfl, rfl⟩ := h
      exact (go ho (List.mem_cons_self ..)).2 rfl
    · rename_i sz xs ho
      simp only [Option.some.injEq, Prod.mk.injEq] at h; obtain ⟨rfl, rfl⟩ := h
      exact (go ho (List.mem_cons_self ..)).1
    · cases h
  | .win k s lo hi, u, x, ks, h, hr, hb => by
    simp only [AV.rep] at hr
    obtain ⟨p, a0, n0, c0, a, c, hp, hpv, q1, q2, q3, hu, q4, q5⟩ := hr
    simp only [AV.show] at h
    split at h
    case h_2 => cases h
    rename_i sz d xs ho
    split at h
    case h_2 => cases h
    rename_i hbq
    have hss := Nat.eq_of_beq_eq_true hbq
    subst hss
    obtain ⟨p', hp', g0, a1, cap, g1, g2, g3⟩ := m.ob k _ ho
    rw [hp] at hp'; cases hp'
    rw [g1] at hpv
    cases hpv
    have hkk : k ∈ ks := by split at h <;> (simp only [Option.some.injEq, Prod.mk.injEq] at h; rw [← h.2]; exact List.mem_cons_self ..)
    have hbk := hb k hkk p hp
    have hlen : ((xs.take hi).drop lo).length = hi - lo := by rw [List.length_drop, List.length_take, Nat.min_eq_left q2]
    have rows : lo < hi → p.hd = true → a0 = some ⟨p.blk, 0, none⟩ → repRows w (Xof X0 J) p.blk s xs 0 p.nest → ∃ bs, (∀ b ∈ bs, b ∈ p.nest) ∧ repRows w (Xof X0 J) p.blk s ((xs.take hi).drop lo) (lo * s) bs := by
      intro hlt _ _ g4
      have take : ∀ {xs : List D} {n off : Nat} {bs : List Nat}, repRows w (Xof X0 J) p.blk s xs off bs → ∃ bs', (∀ b ∈ bs', b ∈ bs) ∧ repRows w (Xof X0 J) p.blk s (xs.take n) off bs' := by
        intro xs
        induction xs with
        | nil => intro n off bs h; exact ⟨[], by simp, by simp [repRows]⟩
        | cons x xs ih =>
          intro n off bs h
          cases n with
          | zero => exact ⟨[], by simp, by simp [repRows]⟩
          | succ n =>
            simp only [repRows] at h
            obtain ⟨v, b1, b2, rfl, k1, k2, k3, k4, k5⟩ := h
            obtain ⟨bs', m1, m2⟩ := ih (n := n) k5
            refine ⟨b1 ++ bs', fun b hb => ?_, ?_⟩
            · rcases List.mem_append.1 hb with hb | hb
              · exact List.mem_append_left _ hb
              · exact List.mem_append_right _ (m1 b hb)
            · simp only [List.take_succ_cons, repRows]
              exact ⟨v, b1, bs', rfl, k1, k2, k3, k4, m2⟩
      have drp : ∀ {xs : List D} {n off : Nat} {bs : List Nat}, repRows w (Xof X0 J) p.blk s xs off bs → ∃ bs', (∀ b ∈ bs', b ∈ bs) ∧ repRows w (Xof X0 J) p.blk s (xs.drop n) (off + n * s) bs' := by
        intro xs
        induction xs with
        | nil => intro n off bs h; exact ⟨[], by simp, by simp [repRows]⟩
        | cons x xs ih =>
          intro n off bs h
          cases n with
          | zero => exact ⟨bs, fun _ h => h, by simpa using h⟩
          | succ n =>
            simp only [repRows] at h
            obtain ⟨v, b1, b2, rfl, k1, k2, k3, k4, k5⟩ := h
            obtain ⟨bs', m1, m2⟩ := ih (n := n) k5
            refine ⟨bs', fun b hb => List.mem_append_right _ (m1 b hb), ?_⟩
            rw [show off + (n + 1) * s = off + s + n * s by rw [Nat.add_mul, Nat.one_mul]; omega]
            simpa using m2
      obtain ⟨bs1, m1, m2⟩ := take (n := hi) g4
      obtain ⟨bs2, m3, m4⟩ := drp (n := lo) m2
      exact ⟨bs2, fun b hb => m1 b (m3 b hb), by simpa using m4⟩
    have main : (D.sl false (eraseL ((xs.take hi).drop lo))).rep w X' u [] ∧ (d = false → (D.sl false ((xs.take hi).drop lo)).rep w X' u []) := by
      rcases Nat.eq_or_lt_of_le q1 with e | hlt
      · have hnil : (xs.take hi).drop lo = [] := List.eq_nil_of_length_eq_zero (by rw [hlen]; omega)
        rw [hnil]
        have : (D.sl false []).rep w X' u [] := by
          simp only [D.rep]
          exact ⟨trivial, trivial, a, c, by rw [hu, show hi - lo = 0 by omega]; rfl, Nat.zero_le _, .inl trivial⟩
        exact ⟨this, fun _ => this⟩
      · obtain ⟨e1, e2⟩ := q5 hlt
        rcases g3 with ⟨_, g3, _⟩ | ⟨hh, ha, g3, g4, g5⟩
        · have q2' := q2; rw [g3, List.length_nil] at q2'; omega
        · obtain ⟨bs, m1, m2⟩ := rows hlt hh ha g4
          have hne : (xs.take hi).drop lo ≠ [] := by intro e; rw [e] at hlen; simp at hlen; omega
          refine ⟨?_, fun hd => ?_⟩
          · simp only [D.rep, eraseL_length, hlen]
            refine ⟨trivial, trivial, a, c, hu, q4, .inr ⟨p.blk, lo * s, s, ?_, e2, g0, repRows_erase hX _ _ _ _ _ m2 (fun b hb => hbk b (p.nest_fp hh (m1 b hb))), hbk p.blk (p.blk_fp hh)⟩⟩
            intro e
            have := eraseL_length ((xs.take hi).drop lo)
            rw [e] at this
            exact hne (List.eq_nil_of_length_eq_zero this.symm)
          · have hb0 : bs = [] := by
              cases bs with
              | nil => rfl
              | cons b bs => have := m1 b (List.mem_cons_self ..); rw [g5 hd] at this; cases this
            subst hb0
            simp only [D.rep, hlen]
            exact ⟨trivial, trivial, a, c, hu, q4, .inr ⟨p.blk, lo * s, s, hne, e2, g0, repRows_less hX m2, hbk p.blk (p.blk_fp hh)⟩⟩
    split at h
    · simp only [Option.some.injEq, Prod.mk.injEq] at h; obtain ⟨rfl, rfl⟩ := h
      exact main.2 rfl
    · simp only [Option.some.injEq, Prod.mk.injEq] at h; obtain ⟨rfl, rfl⟩ := h
      exact main.1
  | .agg cs, u, x, ks, h, hr, hb => by
    simp only [AV.show] at h
    split at h
    · rename_i l k1 hl
      simp only [Option.some.injEq, Prod.mk.injEq] at h; obtain ⟨rfl, rfl⟩ := h
      simp only [AV.rep] at hr
      obtain ⟨vs, hv, hr⟩ := hr
      simp only [D.rep]
      exact ⟨vs, hv, showL_rep m hX cs _ _ _ hl hr hb⟩
    · cases h
  | .c _, u, x, ks, h, _, _ => by simp [AV.show] at h
  | .tup _, u, x, ks, h, _, _ => by simp [AV.show] at h
  | .ptr .., u, x, ks, h, _, _ => by simp [AV.show] at h
  | .eptr .., u, x, ks, h, _, _ => by simp [AV.show] at h
  | .rd _, u, x, ks, h, _, _ => by simp [AV.show] at h
  | .fn .., u, x, ks, h, _, _ => by simp [AV.show] at h
  | .bot, u, x, ks, h, _, _ => by simp [AV.show] at h
theorem showL_rep (m : Mem X0 J σ w) {X' : Nat → Prop} (hX : ∀ b, X' b → Xof X0 J b) : ∀ (vs : List AV) (us : List Value) (xs : List D) (ks : List Nat), showL σ vs = some (xs, ks) → AV.repL w (Xof X0 J) J vs us →
    (∀ k, k ∈ ks → ∀ p, J k = some p → ∀ b, b ∈ p.fp → ¬ X' b) → repL w X' xs us []
  | [], us, xs, ks, h, hr, hb => by
    simp only [showL, Option.some.injEq, Prod.mk.injEq] at h; obtain ⟨rfl, rfl⟩ := h
    simp only [AV.repL] at hr
    simp only [repL]
    exact ⟨hr, trivial⟩
  | v :: vs, us, xs, ks, h, hr, hb => by
    simp only [showL] at h
    split at h
    case h_2 => cases h
    rename_i x k1 hx
    split at h
    case h_2 => cases h
    rename_i l k2 hl
    simp only [Option.some.injEq, Prod.mk.injEq] at h; obtain ⟨rfl, rfl⟩ := h
    simp only [AV.repL] at hr
    obtain ⟨u, us', rfl, h1, h2⟩ := hr
    simp only [repL]
    exact ⟨u, us', [], [], rfl, rfl, show_rep m hX v u x k1 hx h1 (fun k hk => hb k (List.mem_append_left _ hk)), showL_rep m hX vs us' l k2 hl h2 (fun k hk => hb k (List.mem_append_right _ hk))⟩
end
end
section
variable {X0 : Nat → Prop} {J : Nat → Option Place} {σ : Nat → Option Ob} {w : World}
theorem lend_rep (m : Mem X0 J σ w) {X' : Nat → Prop} (hX : ∀ b, X' b → Xof X0 J b) : ∀ (vs : List AV) (us : List Value) (l : List AV) (ks : List Nat), lend σ vs = (l, ks) → AV.repL w (Xof X0 J) J vs us →
    (∀ k, k ∈ ks → ∀ p, J k = some p → ∀ b, b ∈ p.fp → ¬ X' b) → AV.repL w X' J l us
  | [], us, l, ks, h, hr, hb => by
    simp only [lend, Prod.mk.injEq] at h; obtain ⟨rfl, rfl⟩ := h
    simp only [AV.repL] at hr ⊢
    exact hr
  | v :: vs, us, l, ks, h, hr, hb => by
    simp only [lend] at h
    simp only [AV.repL] at hr
    obtain ⟨u, us', rfl, h1, h2⟩ := hr
    obtain ⟨l', k2, hl⟩ : ∃ l' k2, lend σ vs = (l', k2) := ⟨_, _, rfl⟩
    rw [hl] at h
    simp only at h
    split at h
    · rename_i x k1 hx
      simp only [Prod.mk.injEq] at h; obtain ⟨rfl, rfl⟩ := h
      simp only [AV.repL]
      refine ⟨u, us', rfl, ?_, lend_rep m hX vs us' l' k2 hl h2 (fun k hk => hb k (List.mem_append_right _ hk))⟩
      simp only [AV.rep]
      exact show_rep m hX v u x k1 hx h1 (fun k hk => hb k (List.mem_append_left _ hk))
    · simp only [Prod.mk.injEq] at h; obtain ⟨rfl, rfl⟩ := h
      simp only [AV.repL]
      exact ⟨u, us', rfl, AV.rep_mono (fun b _ hx h => hx (hX b h)) (fun _ _ _ => rfl) (fun _ p hp => ⟨p, hp, p.like_refl⟩) h1, lend_rep m hX vs us' l' _ hl h2 hb⟩
theorem mem_callee (m : Mem X0 J σ w) {ks bs : List Nat} {objs : List Ob} (hn : ks.Nodup) (hap : ∀ k, k ∈ bs → k ∉ ks) (ho : pickObs σ (idx · ks 0) ks = some objs) {X0c : Nat → Prop} {Jc : Nat → Option Place}
    (hX0c : ∀ b, X0c b ↔ (Xof X0 J b ∧ (∀ k, k ∈ bs → ∀ p, J k = some p → b ∉ p.fp) ∧ ∀ k, k ∈ ks → ∀ p, J k = some p → b ∉ p.fp))
    (hJc : ∀ i, Jc i = (ks[i]?).bind J) :
    (∀ b, Xof X0c Jc b ↔ (Xof X0 J b ∧ ∀ k, k ∈ bs → ∀ p, J k = some p → b ∉ p.fp)) ∧ Mem X0c Jc (objs[·]?) w ∧
      ∀ vs us, AV.repL w (Xof X0c Jc) J vs us → AV.repL w (Xof X0c Jc) Jc (renL (idx · ks 0) vs) us := by
  have hJi : ∀ k p i, J k = some p → idx k ks 0 = some i → Jc i = some p := by
    intro k p i hp hi
    have := (idx_some hi).2
    rw [Nat.sub_zero] at this
    rw [hJc, this]; exact hp
  have hJk : ∀ i p, Jc i = some p → ∃ k, ks[i]? = some k ∧ J k = some p := by
    intro i p hp
    rw [hJc] at hp
    cases hk : ks[i]? with
    | none => rw [hk] at hp; cases hp
    | some k => rw [hk] at hp; exact ⟨k, rfl, hp⟩
  have hX : ∀ b, Xof X0c Jc b ↔ (Xof X0 J b ∧ ∀ k, k ∈ bs → ∀ p, J k = some p → b ∉ p.fp) := by
    intro b
    constructor
    · rintro (h | ⟨i, p, hp, hb⟩)
      · exact ⟨((hX0c b).1 h).1, ((hX0c b).1 h).2.1⟩
      · obtain ⟨k, hk, hp'⟩ := hJk i p hp
        refine ⟨.inr ⟨k, p, hp', hb⟩, fun k2 hk2 p2 hp2 hb2 => m.sep k k2 p p2 hp' hp2 ?_ b hb hb2⟩
        rintro rfl
        exact hap _ hk2 (List.mem_of_getElem? hk)
    · rintro ⟨h1, h2⟩
      by_cases hk : ∃ k, k ∈ ks ∧ ∃ p, J k = some p ∧ b ∈ p.fp
      · obtain ⟨k, hk, p, hp, hb⟩ := hk
        obtain ⟨i, hi⟩ := List.mem_iff_getElem?.1 hk
        exact .inr ⟨i, p, by rw [hJc, hi]; exact hp, hb⟩
      · exact .inl ((hX0c b).2 ⟨h1, h2, fun k hk' p hp hb => hk ⟨k, hk', p, hp, hb⟩⟩)
  obtain ⟨hlen, hpick⟩ := pickObs_ok ho
  refine ⟨hX, ⟨?_, ?_, ?_, ?_, ?_⟩, fun vs us h => AV.repL_ren (fun _ _ hx => hx) (fun _ _ _ => rfl) (fun k p i hp hi => ⟨p, hJi k p i hp hi, p.like_refl⟩) vs us h⟩
  · intro i o hi
    have hi' : i < ks.length := by
      have := (List.getElem?_eq_some_iff.1 hi).1; omega
    obtain ⟨o', ho', h2⟩ := hpick i ks[i] (List.getElem?_eq_getElem hi')
    have h3 : o = o'.ren (idx · ks 0) := by
      have : objs[i]? = some o := hi
      rw [h2] at this; exact (Option.some.inj this).symm
    obtain ⟨p, hp, hr⟩ := m.ob _ o' ho'
    refine ⟨p, by rw [hJc, List.getElem?_eq_getElem hi']; exact hp, ?_⟩
    rw [h3]
    exact Ob.rep_ren (fun b _ hx h => hx ((hX b).1 h).1) (fun _ _ _ => rfl) (fun k p i hp hi => ⟨p, hJi k p i hp hi, p.like_refl⟩) hr
  · intro i p hp
    obtain ⟨k, hk, hp'⟩ := hJk i p hp
    obtain ⟨o', ho', h2⟩ := hpick i k hk
    exact ⟨_, h2⟩
  · intro i i' p p' hp hp' hne b hb hb'
    obtain ⟨k, hk, h1⟩ := hJk i p hp
    obtain ⟨k', hk', h2⟩ := hJk i' p' hp'
    refine m.sep k k' p p' h1 h2 ?_ b hb hb'
    rintro rfl
    have e1 := idx_get (j := 0) hn hk
    have e2 := idx_get (j := 0) hn hk'
    rw [e1] at e2
    have := Option.some.inj e2
    omega
  · intro i p hp
    obtain ⟨k, hk, h1⟩ := hJk i p hp
    exact m.nd k p h1
  · intro b hb
    have hb' := (hX0c b).1 hb
    refine ⟨m.lt b hb'.1, fun i p hp hbp => ?_⟩
    obtain ⟨k, hk, h1⟩ := hJk i p hp
    exact hb'.2.2 k (List.mem_of_getElem? hk) p h1 hbp
end
theorem flatObs_rep {w : World} {X X' : Nat → Prop} {J J' : Nat → Option Place} {p : Place} {f : Nat → Option Nat} (hJ : ∀ k p j, J k = some p → f k = some j → ∃ p', J' j = some p' ∧ p.like p') :
    ∀ {O : List Ob} {i : Nat} {o : Ob}, flatObs O = true → O[i]? = some o → o.rep w X J p → (o.ren f).rep w X' J' p
  | [], i, o, _, h, _ => by simp at h
  | .var cells :: O, i, o, hf, h, hr => by
    simp only [flatObs] at hf
    split at hf
    · rename_i hc
      cases i with
      | zero =>
        simp at h; subst h
        obtain ⟨hh, hn, cs, t, h1, h2⟩ := hr
        exact ⟨hh, hn, cs, t, h1, looseV_ren hJ cells _ hc h2⟩
      | succ i => exact flatObs_rep hJ hf (by simpa using h) hr
    · cases hf
  | .arr sz dp xs :: O, i, o, hf, h, hr => by
    simp only [flatObs] at hf
    split at hf
    · rename_i hc
      cases i with
      | zero =>
        simp at h; subst h
        obtain ⟨h0, a, cap, h1, h2, h3⟩ := hr
        refine ⟨h0, a, cap, h1, h2, h3.imp id ?_⟩
        rintro ⟨hh, ha, h3, h4, h5⟩
        exact ⟨hh, ha, h3, looseRows_rep xs _ _ hc h4, h5⟩
      | succ i => exact flatObs_rep hJ hf (by simpa using h) hr
    · cases hf
  | .bld _ e l :: O, i, o, hf, h, hr => by
    simp only [flatObs] at hf
    cases i with
    | zero => simp at h; subst h; exact hr
    | succ i => exact flatObs_rep hJ hf (by simpa using h) hr
  | .mp _ :: O, i, o, hf, h, hr => by simp only [flatObs] at hf; cases hf
  | .opn .. :: O, i, o, hf, h, hr => by simp only [flatObs] at hf; cases hf
  | .gone :: O, i, o, hf, h, hr => by
    simp only [flatObs] at hf
    cases i with
    | zero => simp at h; subst h; exact hr
    | succ i => exact flatObs_rep hJ hf (by simpa using h) hr
section
variable {X0 : Nat → Prop} {J : Nat → Option Place} {st : St} {a : Act} {w w' : World}
theorem after_rel (r : Rel X0 J st a w) {ks : List Nat} {d : Nat} {O : List Ob} {R : AV} {X0c : Nat → Prop} {Jc J' : Nat → Option Place} {v : Value}
    (hd : d < a.tmps.size) (hn : ks.Nodup) (hks : ∀ k, k ∈ ks → ∃ p, J k = some p) (hlen : ks.length ≤ O.length) (hfresh : ∀ i, ks.length ≤ i → i < O.length → J (10000 * (i - ks.length + 1) + d) = none)
    (hx0 : ∀ b, X0 b → X0c b) (hJc : ∀ i, Jc i = (ks[i]?).bind J)
    (hflat : (R.loose = true ∧ flatObs O = true) ∨ ∀ k p b, J k = some p → k ∉ ks → b ∈ p.fp → X0c b)
    (hR : R.rep w' (Xof X0c J') J' v) (m' : Mem X0c J' (O[·]?) w') (hk : Kept (Fps Jc) w w')
    (hown : ∀ k p b, J' k = some p → b ∈ p.fp → Fps Jc b ∨ w.heap.size ≤ b) (hstay : ∀ k p, Jc k = some p → ∃ p', J' k = some p' ∧ p.like p') :
    ∃ J'', Rel X0 J'' (after st ks d O R) (a.put (some d) v) w' ∧ Step J w J'' w' := by
  have hnn : (namesOf ks d O.length).Nodup := namesOf_nodup hn fun i h1 h2 hm => by
    obtain ⟨p, hp⟩ := hks _ hm
    rw [hfresh i h1 h2] at hp; cases hp
  have hname : ∀ i, i < O.length → (namesOf ks d O.length)[i]? = nameOf ks d i := fun i h => namesOf_get h
  have hnlen : (namesOf ks d O.length).length = O.length := by simp [namesOf]
  have hin : ∀ k, k ∈ ks → k ∈ namesOf ks d O.length := by
    intro k hk
    obtain ⟨i, hi⟩ := List.mem_iff_getElem?.1 hk
    have hi' := (List.getElem?_eq_some_iff.1 hi).1
    refine List.mem_iff_getElem?.2 ⟨i, ?_⟩
    rw [hname i (by omega), nameOf_lt hi', ← (List.getElem?_eq_some_iff.1 hi).2]
  have hidx : ∀ {k i}, idx k (namesOf ks d O.length) 0 = some i → i < O.length ∧ nameOf ks d i = some k := by
    intro k i h
    have := (idx_some h).2
    rw [Nat.sub_zero] at this
    have hi := (List.getElem?_eq_some_iff.1 this).1
    rw [hnlen] at hi
    exact ⟨hi, by rw [← hname i hi]; exact this⟩
  have hidx' : ∀ {k i}, i < O.length → nameOf ks d i = some k → idx k (namesOf ks d O.length) 0 = some i := by
    intro k i hi h
    have := idx_get (j := 0) hnn (i := i) (k := k) (by rw [hname i hi]; exact h)
    simpa using this
  have hJ'lt : ∀ {i p}, J' i = some p → i < O.length := by
    intro i p hp
    obtain ⟨o, ho⟩ := m'.dom i p hp
    exact (List.getElem?_eq_some_iff.1 ho).1
  let J'' : Nat → Option Place := fun k => match idx k (namesOf ks d O.length) 0 with | some i => J' i | none => J k
  have hJ1 : ∀ {k i}, idx k (namesOf ks d O.length) 0 = some i → J'' k = J' i := by intro k i h; show (match _ with | some i => J' i | none => J k) = _; rw [h]
  have hJ2 : ∀ {k}, idx k (namesOf ks d O.length) 0 = none → J'' k = J k := by intro k h; show (match _ with | some i => J' i | none => J k) = _; rw [h]
  have hJk : ∀ {i p}, Jc i = some p → ∃ k, ks[i]? = some k ∧ J k = some p := by
    intro i p hp
    rw [hJc] at hp
    cases hk : ks[i]? with
    | none => rw [hk] at hp; cases hp
    | some k => rw [hk] at hp; exact ⟨k, rfl, hp⟩
  have hFps : ∀ b, Fps Jc b → ∃ k p, k ∈ ks ∧ J k = some p ∧ b ∈ p.fp := by
    rintro b ⟨i, p, hp, hb⟩
    obtain ⟨k, hk, hp'⟩ := hJk hp
    exact ⟨k, p, List.mem_of_getElem? hk, hp', hb⟩
  have hX'' : ∀ b, b < w.heap.size → ¬ Xof X0 J b → ¬ Xof X0 J'' b := by
    rintro b hb hx (h0 | ⟨k, p, hp, hbp⟩)
    · exact hx (.inl h0)
    · cases hi : idx k (namesOf ks d O.length) 0 with
      | none => rw [hJ2 hi] at hp; exact hx (.inr ⟨k, p, hp, hbp⟩)
      | some i =>
        rw [hJ1 hi] at hp
        rcases hown i p b hp hbp with h | h
        · obtain ⟨k', p', _, hp', hb'⟩ := hFps b h
          exact hx (.inr ⟨k', p', hp', hb'⟩)
        · omega
  have hA : ∀ bs : List Nat, (∀ b ∈ bs, ¬ Fps Jc b) → Agree w w' (Xof X0 J) bs := by
    intro bs hbs b hb hx
    refine hk.block b hb fun hF => ?_
    rcases hx with h | h
    · exact hbs b h hF
    · obtain ⟨k', p', _, hp', hb'⟩ := hFps b hF
      exact h (.inr ⟨k', p', hp', hb'⟩)
  have hJJ : ∀ k p, J k = some p → ∃ p', J'' k = some p' ∧ p.like p' := by
    intro k p hp
    cases hi : idx k (namesOf ks d O.length) 0 with
    | none => exact ⟨p, by rw [hJ2 hi]; exact hp, p.like_refl⟩
    | some i =>
      rw [hJ1 hi]
      obtain ⟨hlt, hnm⟩ := hidx hi
      by_cases hlk : i < ks.length
      · rw [nameOf_lt hlk] at hnm
        have e := Option.some.inj hnm
        exact hstay i p (by rw [hJc, List.getElem?_eq_getElem hlk]; show J ks[i] = _; rw [e]; exact hp)
      · rw [nameOf_ge (by omega)] at hnm
        have e := Option.some.inj hnm
        have := hfresh i (by omega) hlt
        rw [e, hp] at this; cases this
  have hX3 : (∀ k p b, J k = some p → k ∉ ks → b ∈ p.fp → X0c b) → ∀ b, ¬ Xof X0c J' b → ¬ Xof X0 J'' b := by
    rintro hall b hx (h0 | ⟨k, p, hp, hbp⟩)
    · exact hx (.inl (hx0 b h0))
    · cases hi : idx k (namesOf ks d O.length) 0 with
      | none =>
        rw [hJ2 hi] at hp
        exact hx (.inl (hall k p b hp (fun hm => idx_none hi (hin k hm)) hbp))
      | some i => rw [hJ1 hi] at hp; exact hx (.inr ⟨i, p, hp, hbp⟩)
  have hren : ∀ k p j, J' k = some p → nameOf ks d k = some j → ∃ p', J'' j = some p' ∧ p.like p' := by
    intro i p k hp hnm
    exact ⟨p, by rw [hJ1 (hidx' (hJ'lt hp) hnm)]; exact hp, p.like_refl⟩
  have hobj : ∀ k, look k (after st ks d O R).obj = match idx k (namesOf ks d O.length) 0 with | some j => (O[j]?).map (Ob.ren (nameOf ks d)) | none => look k st.obj := by
    intro k
    have := setAll_look (ks := ks) (d := d) O 0 st k (by simpa using hnn)
    simp only [Nat.zero_add, List.drop_zero] at this
    show look k (setAll st (nameOf ks d) 0 O).obj = _
    rw [this]
    first | done | (cases idx k (namesOf ks d O.length) 0 <;> rfl)
  refine ⟨J'', ⟨?_, ⟨?_, ?_, ?_, ?_, ?_⟩, by rw [Act.put_defers]; exact r.defers⟩, ?_⟩
  · intro t x ht
    simp only [after] at ht
    rw [St.put_look, setAll_env] at ht
    rw [Act.put_get hd]
    by_cases e : d = t
    · rw [if_pos e] at ht ⊢
      cases ht
      refine ⟨v, rfl, ?_⟩
      rcases hflat with ⟨hf, _⟩ | hall
      · exact loose_ren hren R v hf hR
      · exact AV.rep_ren (fun b _ hx => hX3 hall b hx) (fun _ _ _ => rfl) hren R v hR
    · rw [if_neg e] at ht ⊢
      obtain ⟨u, hu, hr⟩ := r.env t x ht
      exact ⟨u, hu, AV.rep_mono hX'' (hA [] (by simp)) hJJ hr⟩
  · intro k o ho
    rw [hobj] at ho
    cases hi : idx k (namesOf ks d O.length) 0 with
    | none =>
      rw [hi] at ho
      obtain ⟨p, hp, hr⟩ := r.mem.ob k o ho
      refine ⟨p, by rw [hJ2 hi]; exact hp, ?_⟩
      have := Ob.rep_ren (f := some) hX'' (hA p.fp ?_) (fun k p j hp hj => by cases hj; exact hJJ k p hp) hr
      · rwa [Ob.ren_some] at this
      · intro b hb hF
        obtain ⟨k', p', hk', hp', hb'⟩ := hFps b hF
        refine r.mem.sep k k' p p' hp hp' ?_ b hb hb'
        rintro rfl
        exact idx_none hi (hin _ hk')
    | some i =>
      rw [hi] at ho
      simp only at ho
      cases hoi : O[i]? with
      | none => rw [hoi] at ho; cases ho
      | some o' =>
        rw [hoi] at ho
        simp only [Option.map_some, Option.some.injEq] at ho
        subst ho
        obtain ⟨p, hp, hr⟩ := m'.ob i o' hoi
        refine ⟨p, by rw [hJ1 hi]; exact hp, ?_⟩
        rcases hflat with ⟨_, hf⟩ | hall
        · exact flatObs_rep hren hf hoi hr
        · exact Ob.rep_ren (fun b _ hx => hX3 hall b hx) (fun _ _ _ => rfl) hren hr
  · intro k p hp
    rw [hobj]
    cases hi : idx k (namesOf ks d O.length) 0 with
    | none => rw [hJ2 hi] at hp; exact r.mem.dom k p hp
    | some i =>
      rw [hJ1 hi] at hp
      obtain ⟨o, ho⟩ := m'.dom i p hp
      exact ⟨o.ren (nameOf ks d), by simp only; rw [show O[i]? = some o from ho]; rfl⟩
  · have mixed : ∀ {k k' i p p' b}, idx k (namesOf ks d O.length) 0 = some i → idx k' (namesOf ks d O.length) 0 = none → J' i = some p → J k' = some p' → b ∈ p.fp → b ∈ p'.fp → False := by
      intro k k' i p p' b hi hi' hp hp' hb hb'
      rcases hown i p b hp hb with h | h
      · obtain ⟨k2, p2, hk2, hp2, hb2⟩ := hFps b h
        refine r.mem.sep k2 k' p2 p' hp2 hp' ?_ b hb2 hb'
        rintro rfl
        exact idx_none hi' (hin _ hk2)
      · exact absurd (r.mem.lt b (.inr ⟨k', p', hp', hb'⟩)) (by omega)
    intro k k' p p' hp hp' hne b hb hb'
    cases hi : idx k (namesOf ks d O.length) 0 with
    | none =>
      rw [hJ2 hi] at hp
      cases hi' : idx k' (namesOf ks d O.length) 0 with
      | none => rw [hJ2 hi'] at hp'; exact r.mem.sep k k' p p' hp hp' hne b hb hb'
      | some i' => rw [hJ1 hi'] at hp'; exact mixed hi' hi hp' hp hb' hb
    | some i =>
      rw [hJ1 hi] at hp
      cases hi' : idx k' (namesOf ks d O.length) 0 with
      | none => rw [hJ2 hi'] at hp'; exact mixed hi hi' hp hp' hb hb'
      | some i' =>
        rw [hJ1 hi'] at hp'
        refine m'.sep i i' p p' hp hp' ?_ b hb hb'
        rintro rfl
        have h1 := (hidx hi).2
        rw [(hidx hi').2] at h1
        exact hne (Option.some.inj h1).symm
  · intro k p hp
    cases hi : idx k (namesOf ks d O.length) 0 with
    | none => rw [hJ2 hi] at hp; exact r.mem.nd k p hp
    | some i => rw [hJ1 hi] at hp; exact m'.nd i p hp
  · intro b hb
    refine ⟨Nat.lt_of_lt_of_le (r.mem.x0 b hb).1 hk.size, fun k p hp hbp => ?_⟩
    cases hi : idx k (namesOf ks d O.length) 0 with
    | none => rw [hJ2 hi] at hp; exact (r.mem.x0 b hb).2 k p hp hbp
    | some i => rw [hJ1 hi] at hp; exact (m'.x0 b (hx0 b hb)).2 i p hp hbp
  · refine ⟨⟨hk.os, hk.tape, hk.output, hk.size, fun b hb hF => hk.block b hb fun h => ?_⟩, fun k p b hp hb => ?_, fun k p _ hp => hJJ k p hp⟩
    · obtain ⟨k', p', _, hp', hb'⟩ := hFps b h
      exact hF ⟨k', p', hp', hb'⟩
    · cases hi : idx k (namesOf ks d O.length) 0 with
      | none => rw [hJ2 hi] at hp; exact .inl ⟨k, p, hp, hb⟩
      | some i =>
        rw [hJ1 hi] at hp
        refine (hown i p b hp hb).imp (fun h => ?_) id
        obtain ⟨k', p', _, hp', hb'⟩ := hFps b h
        exact ⟨k', p', hp', hb'⟩
end
end Go.Pm
