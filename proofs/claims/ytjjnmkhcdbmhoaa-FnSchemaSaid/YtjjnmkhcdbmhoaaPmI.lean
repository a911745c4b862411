/-
A walk of Go's code over values: append.
-/
import Derived.Test.YtjjnmkhcdbmhoaaPmH
import Derived.Laws.BytesString
import Derived.Deep.AppendSrc
namespace Go.Pm
open Go
set_option linter.unusedVariables false
variable {P : Program}
section
variable {cx : Cx} {X0 : Nat → Prop} {J : Nat → Option Place} {st : St} {a : Act} {w : World} {o : Oper} {K : St → Prop} {next : Act → World → Prop} {Q : Exit → Act → World → Prop}

/-- The rows' values. -/
theorem repRows_inv {w : World} {X : Nat → Prop} {b sz : Nat} : ∀ {xs : List D} {off : Nat} {bs : List Nat}, repRows w X b sz xs off bs →
    ∃ us, repL w X xs us bs ∧ (∀ x ∈ xs, x.cells.length = sz) ∧ (∀ u ∈ us, u.cells.size = sz ∧ ∀ c ∈ u.cells.toList, c.oneCell' = true) ∧ ∀ i u, us[i]? = some u → w.rangeAt b (off + i * sz) u.cells.toList
  | [], off, bs, h => by simp only [repRows] at h; exact ⟨[], by simp [repL, h], by simp, by simp, by simp⟩
  | x :: xs, off, bs, h => by
    simp only [repRows] at h
    obtain ⟨v, b1, b2, rfl, h1, h2, h3, h4, h5⟩ := h
    obtain ⟨us, g1, g2, g3, g4⟩ := repRows_inv h5
    refine ⟨v :: us, ?_, ?_, ?_, ?_⟩
    · simp only [repL]; exact ⟨v, us, b1, b2, rfl, rfl, h1, g1⟩
    · intro y hy; rcases List.mem_cons.1 hy with rfl | hy
      · exact h3.1
      · exact g2 y hy
    · intro y hy; rcases List.mem_cons.1 hy with rfl | hy
      · exact ⟨h2, h3.2⟩
      · exact g3 y hy
    · intro i u hu
      cases i with
      | zero => simp at hu; subst hu; simpa using h4
      | succ i =>
        have := g4 i u (by simpa using hu)
        rwa [show off + (i + 1) * sz = off + sz + i * sz by rw [Nat.add_mul, Nat.one_mul]; omega]

def flat (us : List Value) : List Value := us.flatMap fun u => u.cells.toList
theorem flat_length {sz : Nat} : ∀ {us : List Value}, (∀ u ∈ us, u.cells.size = sz) → (flat us).length = us.length * sz
  | [], _ => by simp [flat]
  | u :: us, h => by
    have := flat_length (us := us) fun v hv => h v (List.mem_cons_of_mem _ hv)
    simp only [flat] at this
    simp only [flat, List.flatMap_cons, List.length_append, this, List.length_cons, Array.length_toList, h u (List.mem_cons_self ..), Nat.add_mul, Nat.one_mul]; omega
theorem flat_append (us vs : List Value) : flat (us ++ vs) = flat us ++ flat vs := by simp [flat]
theorem rangeAt_cons {b off : Nat} {xs ys : List Value} (h1 : w.rangeAt b off xs) (h2 : w.rangeAt b (off + xs.length) ys) : w.rangeAt b off (xs ++ ys) := by
  intro j v hv
  by_cases hj : j < xs.length
  · rw [List.getElem?_append_left hj] at hv; exact h1 j v hv
  · rw [List.getElem?_append_right (by omega)] at hv
    have := h2 _ v hv
    rwa [show off + xs.length + (j - xs.length) = off + j by omega] at this
theorem rangeAt_left {b off : Nat} {xs ys : List Value} (h : w.rangeAt b off (xs ++ ys)) : w.rangeAt b off xs := by
  intro j v hv
  refine h j v ?_
  rw [List.getElem?_append_left (List.getElem?_eq_some_iff.1 hv).1]; exact hv
theorem rangeAt_right {b off : Nat} {xs ys : List Value} (h : w.rangeAt b off (xs ++ ys)) : w.rangeAt b (off + xs.length) ys := by
  intro j v hv
  have := h (xs.length + j) v (by rw [List.getElem?_append_right (by omega)]; simpa using hv)
  rwa [← Nat.add_assoc] at this
theorem rangeAt_flat {b sz : Nat} : ∀ {us : List Value} {off : Nat}, (∀ u ∈ us, u.cells.size = sz) → (∀ i u, us[i]? = some u → w.rangeAt b (off + i * sz) u.cells.toList) → w.rangeAt b off (flat us)
  | [], off, _, _ => by intro j v hv; simp [flat] at hv
  | u :: us, off, h, hr => by
    simp only [flat, List.flatMap_cons]
    refine rangeAt_cons (by simpa using hr 0 u rfl) ?_
    rw [Array.length_toList, h u (List.mem_cons_self ..)]
    refine rangeAt_flat (fun v hv => h v (List.mem_cons_of_mem _ hv)) fun i v hv => ?_
    have := hr (i + 1) v (by simpa using hv)
    rwa [show off + (i + 1) * sz = off + sz + i * sz by rw [Nat.add_mul, Nat.one_mul]; omega] at this
theorem rangeAt_rows {b sz : Nat} : ∀ {us : List Value} {off : Nat}, (∀ u ∈ us, u.cells.size = sz) → w.rangeAt b off (flat us) → ∀ i u, us[i]? = some u → w.rangeAt b (off + i * sz) u.cells.toList
  | [], off, _, _, i, u, hu => by simp at hu
  | v :: us, off, h, hr, i, u, hu => by
    simp only [flat, List.flatMap_cons] at hr
    cases i with
    | zero => simp at hu; subst hu; simpa using rangeAt_left hr
    | succ i =>
      have := rangeAt_right hr
      rw [Array.length_toList, h v (List.mem_cons_self ..)] at this
      have := rangeAt_rows (fun y hy => h y (List.mem_cons_of_mem _ hy)) this i u (by simpa using hu)
      rwa [show off + (i + 1) * sz = off + sz + i * sz by rw [Nat.add_mul, Nat.one_mul]; omega]
theorem repL_append {w : World} {X : Nat → Prop} : ∀ {xs ys : List D} {us vs : List Value} {b1 b2 : List Nat}, repL w X xs us b1 → repL w X ys vs b2 → repL w X (xs ++ ys) (us ++ vs) (b1 ++ b2)
  | [], ys, us, vs, b1, b2, h1, h2 => by simp only [repL] at h1; obtain ⟨rfl, rfl⟩ := h1; simpa using h2
  | x :: xs, ys, us, vs, b1, b2, h1, h2 => by
    simp only [repL] at h1
    obtain ⟨u, us', c1, c2, rfl, rfl, g1, g2⟩ := h1
    simp only [List.cons_append, repL, List.append_assoc]
    exact ⟨u, _, c1, _, rfl, rfl, g1, repL_append g2 h2⟩

theorem flat_ones : ∀ {us : List Value}, (∀ u ∈ us, ∀ c ∈ u.cells.toList, c.oneCell' = true) → ∀ u ∈ flat us, u.oneCell' = true := by
  intro us h u hu
  obtain ⟨v, hv, hu⟩ := List.mem_flatMap.1 hu
  exact h v hv u hu

theorem run_append_zero (t ty e : TypeId) (i : TypeInfo) (ht : P.underlying t = some (.slice e)) (hi : P.info? e = some i) (base a0 : Option Addr) (sLen sCap c : Nat) (hle : sLen ≤ sCap) :
    (Builtin.append_ #[t, t] ty #[.slice base sLen sCap, .slice a0 0 c]).run P w = .ok (.slice base sLen sCap) w := by
  cases a0 <;> cases base <;> simp [Builtin.append_, run_underlying ht, sizeOf, typeInfo, hi, Builtin.lenOf, hle, Builtin.firstCells, loadCells, loadCellsFrom, storeCells]

theorem ev_app {k sz : Nat} {d : Bool} {xs : List D} {ks : List Nat} (h : evCmd P cx o.dst (.app k sz d xs ks) st K) : bigs (k :: ks) = true ∧ K (((st.ren (without (k :: ks))).set k (.arr sz d xs)).put o.dst (.own k)) := by
  simp only [evCmd] at h
  split at h
  · rename_i hb; exact ⟨hb, h⟩
  · exact h.elim

/-- An array that grows: it takes in the rows of another one. -/
theorem app_core (r : Rel X0 J st a w) (hd : ∀ d, o.dst = some d → d < a.tmps.size) (hn : Leads P X0 J a w K next) {s x : Operand} {t tx e : TypeId} {ei : TypeInfo} {z : Value}
    (hop : o.op = .call { callee := .builtin .append, args := #[s, x], argTypes := #[t, tx] }) (hu : P.underlying t = some (.slice e)) (hei : P.info? e = some ei) (hz : ei.zero = some z) (hzs : z.cells.size = ei.size)
    {k sz : Nat} {d : Bool} {xs ys : List D} {ks : List Nat} (hs : st.ev s = some (.own k)) (hk : look k st.obj = some (.arr sz d xs)) (hsz : sz = ei.size)
    (hroom : room (xs.length + ys.length) ei.bytes)
    {vs : List Value} {bs2 : List Nat} (hsrc : Src P ei.size tx (a.eval x) ys.length (flat vs) w)
    (hv : repL w (Xof X0 J) ys vs bs2) (hyl : ∀ y ∈ ys, y.cells.length = sz) (hvl' : ∀ u ∈ vs, u.cells.size = sz ∧ ∀ c ∈ u.cells.toList, c.oneCell' = true)
    (hbs : ∀ b ∈ bs2, ∃ k' q, k' ∈ ks ∧ k' ≠ k ∧ J k' = some q ∧ b ∈ q.fp) (hbnd : bs2.Nodup) {d' : Bool} (hd' : d' = false → d = false ∧ bs2 = []) (hbig : bigs (k :: ks) = true)
    (hK : K (((st.ren (without (k :: ks))).set k (.arr sz d' (xs ++ ys))).put o.dst (.own k))) : o.wp P a w next Q := by
  have hsv := r.ev hs
  simp only [AV.rep] at hsv
  obtain ⟨p, hp, hsv, hone0⟩ := hsv
  obtain ⟨p', hp', g0, a0, cap0, g1, g2, grest⟩ := r.mem.ob _ _ hk
  rw [hp] at hp'; cases hp'
  have hvl := fun u hu => (hvl' u hu).1
  have hones := flat_ones fun u hu => (hvl' u hu).2
  have hvsl := repL_length hv
  have hfv := flat_length hvl
  have hapart : ∀ b ∈ bs2, b ∉ p.fp := by
    intro b hb hbp
    obtain ⟨k', q, _, hne, hq, hbq⟩ := hbs b hb
    exact r.mem.sep k' k q p hq hp hne b hbq hbp
  have hndp := r.mem.nd k p hp
  -- what the call hands back
  have exec : ∀ {u : Value} {w1 : World}, (Builtin.append_ #[t, tx] o.type #[.slice a0 xs.length cap0, a.eval x]).run P w = .ok u w1 → (execOp a.eval o).run P w = .ok (.value u) w1 := by
    intro u w1 h
    rw [g1] at hsv
    simp [execOp, hop, resolve, invoke, builtin, hsv, h]
  -- the end, where there is a block
  have fin : ∀ {w1 : World} {blk cap : Nat} {us : List Value} {nest : List Nat}, (Builtin.append_ #[t, tx] o.type #[.slice a0 xs.length cap0, a.eval x]).run P w = .ok (.slice (some ⟨blk, 0, none⟩) (xs.length + ys.length) cap) w1 →
      Kept (fun b => b = p.blk ∧ p.hd = true) w w1 → (blk = p.blk ∧ p.hd = true ∨ w.heap.size ≤ blk) → xs.length + ys.length ≤ cap → Plain w1 blk (cap * sz) → w1.rangeAt blk 0 (flat (us ++ vs)) →
      repL w (Xof X0 J) xs us nest → (∀ x ∈ xs, x.cells.length = sz) → (∀ u ∈ us, u.cells.size = sz ∧ ∀ c ∈ u.cells.toList, c.oneCell' = true) → (∀ b ∈ nest, b ∈ p.fp ∧ b ≠ p.blk) → nest.Nodup → (d = false → nest = []) → o.wp P a w next Q := by
    intro w1 blk cap us nest hrun hkept hblk hcap hplain hrg q1 q2 q3 hnest hnnd hnd0
    have hall := repL_append q1 hv
    have hblk2 : blk ∉ nest ++ bs2 := by
      intro hm
      rcases List.mem_append.1 hm with hm | hm
      · obtain ⟨h1, h2⟩ := hnest _ hm
        rcases hblk with ⟨h, _⟩ | h
        · exact h2 h
        · have := r.mem.lt _ (.inr ⟨k, p, hp, h1⟩); omega
      · rcases hblk with ⟨h, hh⟩ | h
        · exact hapart _ hm (by rw [h]; exact p.blk_fp hh)
        · obtain ⟨k', q, _, _, hq, hbq⟩ := hbs _ hm
          have := r.mem.lt _ (.inr ⟨k', q, hq, hbq⟩); omega
    have hin : ∀ b, b ∈ blk :: (nest ++ bs2) → (∃ k2 p2, J k2 = some p2 ∧ without (k :: ks) k2 = none ∧ b ∈ p2.fp) ∨ w.heap.size ≤ b := by
      intro b hb
      rcases List.mem_cons.1 hb with hbe | hb
      · subst hbe
        rcases hblk with ⟨h, hh⟩ | h
        · exact .inl ⟨k, p, hp, without_none (List.mem_cons_self ..), by rw [h]; exact p.blk_fp hh⟩
        · exact .inr h
      · rcases List.mem_append.1 hb with hb | hb
        · exact .inl ⟨k, p, hp, without_none (List.mem_cons_self ..), (hnest b hb).1⟩
        · obtain ⟨k', q, hk', _, hq, hbq⟩ := hbs b hb
          exact .inl ⟨k', q, hq, without_none (List.mem_cons_of_mem _ hk'), hbq⟩
    refine wp_new r hd hn (f := without (k :: ks)) (F := fun b => b = p.blk ∧ p.hd = true) (k0 := k) (p := ⟨blk, nest ++ bs2, .slice (some ⟨blk, 0, none⟩) (xs.length + ys.length) cap, true⟩) (ob := .arr sz d' (xs ++ ys)) (w1 := w1) (u := .slice (some ⟨blk, 0, none⟩) (xs.length + ys.length) cap)
      (st1 := (st.ren (without (k :: ks))).set k (.arr sz d' (xs ++ ys))) (fun k j h => without_id h) (without_none (List.mem_cons_self ..)) (bigs_le hbig k (List.mem_cons_self ..)) (fun j hj => without_small hbig hj) hkept ?_ (exec hrun) ?_ hin ?_ ?_ (fun t => look_renEnv _ t) (fun k => St.ren_set_look (fun k j h => without_id h) k) hK
    · rintro b ⟨rfl, hh⟩
      exact ⟨k, p, hp, without_none (List.mem_cons_self ..), p.blk_fp hh⟩
    · show (blk :: (nest ++ bs2)).Nodup
      refine List.nodup_cons.2 ⟨hblk2, List.nodup_append.2 ⟨hnnd, hbnd, ?_⟩⟩
      rintro b hb1 b' hb2 rfl
      exact hapart _ hb2 (hnest b hb1).1
    · intro J' hJ'
      refine ⟨g0, _, cap, by simp, by simpa using hcap, .inr ⟨rfl, rfl, hplain, ?_, fun h => by obtain ⟨h1, h2⟩ := hd' h; show nest ++ bs2 = []; rw [h2, hnd0 h1]; rfl⟩⟩
      refine repRows_of (us := us ++ vs) (off := 0) ?_ ?_ ?_ (rangeAt_rows ?_ hrg)
      · refine repL_mono ?_ _ _ _ ?_ hall
        · rintro b hb hx (h0 | ⟨k2, p2, hp2, hbp⟩)
          · exact hx (.inl h0)
          · rw [hJ'] at hp2
            split at hp2
            · cases hp2
              rcases hin b hbp with ⟨k3, p3, h1, _, h3⟩ | h
              · exact hx (.inr ⟨k3, p3, h1, h3⟩)
              · omega
            · split at hp2
              · exact hx (.inr ⟨k2, p2, hp2, hbp⟩)
              · cases hp2
        · intro b hb hx
          refine hkept.block b hb fun ⟨e, hh⟩ => ?_
          subst e
          rcases hx with hx | hx
          · rcases List.mem_append.1 hx with hx | hx
            · exact (hnest _ hx).2 rfl
            · exact hapart _ hx (p.blk_fp hh)
          · exact hx (.inr ⟨k, p, hp, p.blk_fp hh⟩)
      · intro y hy; rcases List.mem_append.1 hy with hy | hy
        · exact q2 y hy
        · exact hyl y hy
      · intro y hy; rcases List.mem_append.1 hy with hy | hy
        · exact q3 y hy
        · exact hvl' y hy
      · intro y hy; rcases List.mem_append.1 hy with hy | hy
        · exact (q3 y hy).1
        · exact hvl y hy
    · intro J' hJ'
      simp only [AV.rep]
      exact ⟨_, hJ', rfl, rfl⟩
  obtain ⟨hr63, hrb⟩ := hroom
  have hr63' : ((xs.length + ys.length : Nat) : Int) ≤ 9223372036854775807 := by simp only [maxLen] at hr63; omega
  -- a new block
  have grow : ∀ {us : List Value} {nest : List Nat}, cap0 < xs.length + ys.length → (Builtin.firstCells ei.size xs.length (.slice a0 xs.length cap0)).run P w.drew = .ok (flat us).toArray w.drew →
      repL w (Xof X0 J) xs us nest → (∀ x ∈ xs, x.cells.length = sz) → (∀ u ∈ us, u.cells.size = sz ∧ ∀ c ∈ u.cells.toList, c.oneCell' = true) → (∀ b ∈ nest, b ∈ p.fp ∧ b ≠ p.blk) → nest.Nodup → (d = false → nest = []) → o.wp P a w next Q := by
    intro us nest hfit hold q1 q2 q3 hnest hnnd hnd0
    have husl := repL_length q1
    have hfu := flat_length fun u hu => (q3 u hu).1
    have hrun := run_append_grow_src (P := P) w t tx o.type e ei z hu hei hz a0 xs.length cap0 (flat us) hold (a.eval x) ys.length (flat vs) hsrc hfit hr63' (growslice_fits (by omega) hrb)
    have hge := grownCap_ge w (xs.length + ys.length) cap0 e
    refine fin (blk := w.heap.size) (cap := grownCap w (xs.length + ys.length) cap0 e) (us := us) hrun ?_ (.inr (Nat.le_refl _)) hge ?_ ?_ q1 q2 q3 hnest hnnd hnd0
    · have s1 : Same w w.drew := ⟨rfl, rfl, rfl, Nat.le_refl _, fun _ _ => rfl⟩
      exact (s1.trans (Same.push w.drew _)).kept _
    · refine ⟨_, e, heap_push w.drew _, ?_⟩
      simp only [Array.size_append, List.size_toArray, size_zeroCells, hzs, List.length_append, hfu, hfv, ← husl, ← hvsl, hsz, ← Nat.add_mul]
      congr 1; omega
    · rw [flat_append]
      intro j v hv
      have hh : (w.drew.alloc (.cells ((flat us ++ flat vs).toArray ++ Builtin.zeroCells z.cells (grownCap w (xs.length + ys.length) cap0 e - (xs.length + ys.length))) e)).heap[w.heap.size]? = _ := heap_push w.drew _
      simp only [World.cell?, hh]
      have hj : j < (flat us ++ flat vs).length := (List.getElem?_eq_some_iff.1 hv).1
      simp only [Nat.zero_add, Option.isSome_none, Bool.false_eq_true, if_false]
      rw [← hv, Array.getElem?_append_left (by simpa using hj)]
      simp
  rcases grest with ⟨hh, rfl, rfl⟩ | ⟨hh, rfl, g3, g4, g5⟩
  · -- no block yet
    by_cases hy0 : ys = []
    · subst hy0
      have hv0 : vs = [] := List.eq_nil_of_length_eq_zero (by rw [← hvsl]; rfl)
      subst hv0
      simp only [repL] at hv
      obtain ⟨_, rfl⟩ := hv
      have hrun : (Builtin.append_ #[t, tx] o.type #[.slice a0 0 0, a.eval x]).run P w = .ok (.slice a0 0 0) w := by
        have hcl : (Builtin.firstCells ei.size 0 (a.eval x)).run P w = .ok #[] w := hsrc.cells
        have hln : ∀ w' : World, (Builtin.lenOf (a.eval x)).run P w' = .ok 0 w' := hsrc.len
        rcases hsrc.kind with ⟨e', hk'⟩ | hk' <;> cases a0 <;>
          simp [Builtin.append_, run_underlying hu, run_underlying hk', sizeOf, typeInfo, hei, hln, hcl, storeCells]
      refine wp_new r hd hn (f := without (k :: ks)) (F := fun _ => False) (k0 := k) (p := ⟨p.blk, [], .slice a0 0 0, false⟩) (ob := .arr sz d' ([] ++ [])) (w1 := w) (u := .slice a0 0 0)
        (st1 := (st.ren (without (k :: ks))).set k (.arr sz d' ([] ++ []))) (fun k j h => without_id h) (without_none (List.mem_cons_self ..)) (bigs_le hbig k (List.mem_cons_self ..)) (fun j hj => without_small hbig hj) (Kept.refl _ w) (fun _ h => h.elim) (exec hrun) ?_ ?_ ?_ ?_ (fun t => look_renEnv _ t) (fun k => St.ren_set_look (fun k j h => without_id h) k) hK
      · exact List.nodup_nil
      · intro b hb; cases hb
      · intro J' hJ'
        exact ⟨g0, a0, 0, rfl, Nat.le_refl _, .inl ⟨rfl, rfl, rfl⟩⟩
      · intro J' hJ'
        simp only [AV.rep]
        exact ⟨_, hJ', rfl, rfl⟩
    · have hpos : 0 < ys.length := List.length_pos_iff.2 hy0
      refine grow (us := []) (nest := []) (by simp only [List.length_nil]; omega) ?_ (by simp [repL]) (by simp) (by simp) (by simp) List.nodup_nil (fun _ => rfl)
      cases a0 with
      | none => simp [Builtin.firstCells, flat]
      | some ad => simp [Builtin.firstCells, flat, loadCells, loadCellsFrom]
  · obtain ⟨us, q1, q2, q3, q4⟩ := repRows_inv g4
    have husl := repL_length q1
    have hfu := flat_length fun u hu => (q3 u hu).1
    have hru := rangeAt_flat (off := 0) (fun u hu => (q3 u hu).1) q4
    rw [p.fp_hd hh] at hndp
    obtain ⟨hnb, hnn⟩ := List.nodup_cons.1 hndp
    have hnest : ∀ b ∈ p.nest, b ∈ p.fp ∧ b ≠ p.blk := fun b hb => ⟨p.nest_fp hh hb, fun e => hnb (e ▸ hb)⟩
    obtain ⟨c0, tt, hcs, hcn⟩ := g3
    by_cases hfit : xs.length + ys.length ≤ cap0
    · have hl2 : (flat vs).length = ys.length * ei.size := by rw [hfv, ← hvsl, hsz]
      have hle : xs.length * sz + (flat vs).length ≤ cap0 * sz := by
        rw [hl2, ← hsz, ← Nat.add_mul]; exact Nat.mul_le_mul_right _ hfit
      have hth : w.there p.blk (xs.length * sz) (flat vs).length := plain_there ⟨c0, tt, hcs, hcn⟩ hle
      have hrun := run_append_room_src (P := P) w t tx o.type e ei hu hei p.blk 0 xs.length cap0 (a.eval x) ys.length (flat vs) hsrc hfit
        (fun j hj => by rw [Nat.zero_add, ← hsz]; exact (hth j hj).1) (fun j hj => by rw [Nat.zero_add, ← hsz]; exact (hth j hj).2)
      rw [Nat.zero_add, ← hsz] at hrun
      have hk0 := kept_setCells p.blk (xs.length * sz) (flat vs) w
      refine fin (blk := p.blk) (cap := cap0) (us := us) hrun ⟨hk0.os, hk0.tape, hk0.output, hk0.size, fun b hb hF => hk0.block b hb fun e => hF ⟨e, hh⟩⟩ (.inl ⟨rfl, hh⟩) hfit (plain_setCells ⟨c0, tt, hcs, hcn⟩) ?_ q1 q2 q3 hnest hnn g5
      rw [flat_append]
      refine rangeAt_cons (rangeAt_apart hru (.inr (.inl ?_))) ?_
      · rw [hfu, ← husl]; omega
      · rw [Nat.zero_add, hfu, ← husl]
        exact World.rangeAt_setCells_same w p.blk _ _ hth
    · refine grow (us := us) (nest := p.nest) (by omega) ?_ q1 q2 q3 hnest hnn g5
      exact run_firstCells_some (P := P) w.drew ei.size xs.length ⟨p.blk, 0, none⟩ xs.length cap0 (flat us) (by rw [hfu, ← husl, hsz]) (fun j u hj => by rw [Addr.add_mid]; exact hru j u hj)

theorem bytes_vals {X : Nat → Prop} : ∀ {l : List UInt8} {us : List Value} {bs : List Nat}, repL w X (u8s l) us bs → us = l.map fun c => Value.int .u8 (c.toNat : Int)
  | [], us, bs, h => by simp only [u8s, List.map_nil, repL] at h; rw [h.1]; rfl
  | c :: l, us, bs, h => by
    simp only [u8s, List.map_cons, repL, D.rep] at h
    obtain ⟨v, vs', b1, b2, rfl, _, ⟨rfl, _⟩, h2⟩ := h
    have := bytes_vals (l := l) h2
    rw [this]; rfl
theorem flat_ints : ∀ l : List UInt8, flat (l.map fun c => Value.int .u8 (c.toNat : Int)) = l.map fun c => Value.int .u8 (c.toNat : Int)
  | [] => rfl
  | c :: l => by
    have := flat_ints l
    simp only [flat] at this
    simp only [flat, List.map_cons, List.flatMap_cons, this]; rfl
theorem fold_bytes : ∀ (l : List UInt8) (s : ByteArray), (l.map fun c => (c.toNat : Int)).foldl (fun r n => r.push (UInt8.ofNat n.toNat)) s = ⟨(s.data.toList ++ l).toArray⟩
  | [], s => by apply ByteArray.ext; simp
  | c :: l, s => by
    simp only [List.map_cons, List.foldl_cons]
    rw [fold_bytes l]
    apply ByteArray.ext
    simp [ByteArray.data_push]
theorem run_str {b off cap : Nat} {l : List UInt8} (h : w.rangeAt b off (l.map fun c => Value.int .u8 (c.toNat : Int))) : (Conv.bytesToString (.slice (some ⟨b, off, none⟩) l.length cap)).run P w = .ok (.string ⟨l.toArray⟩) w := by
  have hl := run_loadCells_list (P := P) w ⟨b, off, none⟩ (l.map fun c => Value.int .u8 (c.toNat : Int)) (fun j v hv => by rw [Addr.add_mid]; exact h j v hv)
  rw [List.length_map] at hl
  have := run_bytesToString (P := P) w ⟨b, off, none⟩ l.length cap (l.map fun c => (c.toNat : Int)) (by rw [hl, List.map_map]; rfl)
  rw [this, fold_bytes]
  have h0 : ByteArray.empty.data.toList = [] := rfl
  rw [h0, List.nil_append]

theorem op_len (r : Rel X0 J st a w) (hd : ∀ d, o.dst = some d → d < a.tmps.size) (hn : Leads P X0 J a w K next) (tok : TOk P cx.T) {args : Array Operand} {ts : Array TypeId} (hop : o.op = .call { callee := .builtin .len, args := args, argTypes := ts })
    (hc : evCmd P cx o.dst (builtinC cx.T st .len ts.toList args.toList) st K) : o.wp P a w next Q := by
  unfold builtinC at hc
  split at hc
  case h_1 => exact hc.elim
  rename_i vs hvs
  simp only at hc
  split at hc
  case h_2 => exact hc.elim
  rename_i t hts
  split at hc
  case h_2 => exact hc.elim
  rename_i i hi
  have hti := tok t i hi
  subst hti
  have hts' : ts = #[t] := by apply Array.ext'; simpa using hts
  subst hts'
  have hr := r.evs hvs
  have one : ∀ {v : AV}, vs = [v] → ∃ x, args = #[x] ∧ v.rep w (Xof X0 J) J (a.eval x) := by
    rintro v rfl
    have hl := AV.repL_length hr
    simp only [List.length_map, List.length_cons, List.length_nil] at hl
    obtain ⟨x, hx⟩ := List.length_eq_one_iff.1 hl.symm
    rw [hx] at hr
    simp only [List.map_cons, List.map_nil, AV.repL] at hr
    obtain ⟨u, us', he, h1, _⟩ := hr
    simp only [List.cons.injEq] at he
    rw [← he.1] at h1
    exact ⟨x, by apply Array.ext'; simpa using hx, h1⟩
  have sl : ∀ {e : Nat} {n : Nat} {x : Operand} {b : Option Addr} {c : Nat}, P.underlying t = some (.slice e) → args = #[x] → a.eval x = .slice b n c → K (st.put o.dst (.d (.i .i64 n))) → o.wp P a w next Q := by
    intro e n x b c hu hargs hx hK
    subst hargs
    refine wp_val r hd hn hK (u := .int .i64 n) (w' := w) ?_ (Same.refl w) (by simp [AV.rep, D.rep])
    simp [execOp, hop, resolve, invoke, builtin, hx, Builtin.len_, run_underlying hu, goInt]
  split at hc
  · rename_i e hk
    have hu := kind_slice (P := P) (t := t) hk
    split at hc
    · rename_i u xs
      obtain ⟨x, hargs, hx⟩ := one rfl
      simp only [AV.rep, D.rep] at hx
      obtain ⟨_, _, b, c, hx, _⟩ := hx
      exact sl hu hargs hx hc
    · obtain ⟨x, hargs, hx⟩ := one rfl
      simp only [AV.rep] at hx
      exact sl (n := 0) hu hargs hx hc
    · rename_i k
      obtain ⟨x, hargs, hx⟩ := one rfl
      simp only [AV.rep] at hx
      obtain ⟨p, hp, hx, _⟩ := hx
      split at hc
      · rename_i sz dd xs hk2
        obtain ⟨p', hp', g0, a0, c0, g1, _⟩ := r.mem.ob _ _ hk2
        rw [hp] at hp'; cases hp'
        rw [g1] at hx
        exact sl hu hargs hx hc
      · rename_i sz xs els hk2
        obtain ⟨p', hp', g0, c0, g1, _⟩ := r.mem.ob _ _ hk2
        rw [hp] at hp'; cases hp'
        rw [g1] at hx
        exact sl hu hargs hx hc
      · exact hc.elim
    · rename_i k s lo hi
      obtain ⟨x, hargs, hx⟩ := one rfl
      simp only [AV.rep] at hx
      obtain ⟨p, a0, n0, c0, a1, c1, _, _, _, _, _, hx, _⟩ := hx
      exact sl hu hargs hx hc
    · exact hc.elim
  · rename_i hk
    have hu := kind_str (P := P) (t := t) hk
    split at hc
    · rename_i l
      obtain ⟨x, hargs, hx⟩ := one rfl
      simp only [AV.rep, D.rep] at hx
      subst hargs
      refine wp_val r hd hn hc (u := .int .i64 l.length) (w' := w) ?_ (Same.refl w) (by simp [AV.rep, D.rep])
      have hsz : (ByteArray.mk l.toArray).size = l.length := by simp [ByteArray.size]
      simp [execOp, hop, resolve, invoke, builtin, hx.1, Builtin.len_, run_underlying hu, goInt, hsz]
    · exact hc.elim
  · exact hc.elim

theorem op_append (r : Rel X0 J st a w) (hd : ∀ d, o.dst = some d → d < a.tmps.size) (hn : Leads P X0 J a w K next) (tok : TOk P cx.T) {args : Array Operand} {ts : Array TypeId} (hop : o.op = .call { callee := .builtin .append, args := args, argTypes := ts })
    (hc : evCmd P cx o.dst (builtinC cx.T st .append ts.toList args.toList) st K) : o.wp P a w next Q := by
  unfold builtinC at hc
  split at hc
  case h_1 => exact hc.elim
  rename_i vs hvs
  simp only at hc
  split at hc
  case h_2 => exact hc.elim
  rename_i t t' hts
  split at hc
  case h_2 => exact hc.elim
  rename_i i hi
  have hti := tok t i hi
  subst hti
  split at hc
  case h_2 => exact hc.elim
  rename_i e hk
  have hu := kind_slice (P := P) (t := t) hk
  split at hc
  case h_2 => exact hc.elim
  rename_i ie hie
  have hte := tok e ie hie
  subst hte
  -- the operands
  have two : ∀ {av xv : AV} {s x : Operand}, vs = [av, xv] → args.toList = [s, x] → args = #[s, x] ∧ st.ev s = some av ∧ st.ev x = some xv := by
    rintro av xv s x rfl hargs
    have hargs' : args = #[s, x] := by apply Array.ext'; simpa using hargs
    subst hargs'
    refine ⟨rfl, ?_⟩
    simp only [St.evs] at hvs
    split at hvs
    · rename_i v1 h1
      split at hvs
      · rename_i l1 hl1
        split at hl1
        · rename_i v2 h2
          simp only [Option.some.injEq] at hl1 hvs
          subst hl1
          simp only [List.cons.injEq] at hvs
          exact ⟨by rw [h1, hvs.1], by rw [h2, hvs.2.1]⟩
        · cases hl1
      · cases hvs
    · cases hvs
  have hts' : ts = #[t, t'] := by apply Array.ext'; simpa using hts
  split at hc
  · -- a string's bytes
    rename_i av l s x hargs
    obtain ⟨hargs', hs, hx⟩ := two rfl hargs
    subst hts'
    subst hargs'
    split at hc
    case h_2 => exact hc.elim
    rename_i hke
    have hue := kind_int (P := P) (t := e) hke
    split at hc
    case h_2 => exact hc.elim
    rename_i hkt
    have hut : P.underlying t' = some .string := by
      cases hi2 : cx.T[t']? with
      | none => rw [hi2] at hkt; cases hkt
      | some i2 =>
        rw [hi2] at hkt
        have := tok t' i2 hi2
        subst this
        exact kind_str (P := P) (t := t') hkt
    split at hc
    case h_2 => exact hc.elim
    rename_i zc hzc
    obtain ⟨ei, z, hei, hz, hzc'⟩ := zero_some hzc
    have hes : ei.size = (tdOf P e).size := by simp [tdOf, Program.cellsOf, hei]
    have heb : ei.bytes = (tdOf P e).bytes := by simp [tdOf, Program.bytesOf, hei]
    split at hc
    case h_2 => exact hc.elim
    rename_i hzl
    have hzs : z.cells.size = ei.size := by
      have := AV.repL_length (constsOf_rep (w := w) (X := fun _ => False) (J := fun _ => none) hzc')
      rw [hes, ← Nat.eq_of_beq_eq_true hzl, this, Array.length_toList]
    have hxv := r.ev hx
    simp only [AV.rep, D.rep] at hxv
    unfold appendStr at hc
    split at hc
    case h_2 => exact hc.elim
    rename_i k
    split at hc
    case h_2 => exact hc.elim
    rename_i sz d xs hk
    obtain ⟨⟨hsz, hsz1, hroom⟩, hK⟩ := hc
    obtain ⟨hbig, hK⟩ := ev_app hK
    have he1 : ei.size = 1 := by rw [hes]; exact hsz ▸ hsz1
    have hsrc := Src.ofString (P := P) w hut ⟨l.toArray⟩
    have hbl : byteCells ⟨l.toArray⟩ = flat (l.map fun c => Value.int .u8 (c.toNat : Int)) := by rw [flat_ints]; simp [byteCells]
    have hsl : (ByteArray.mk l.toArray).size = (u8s l).length := by simp [ByteArray.size, u8s]
    rw [hbl, hsl, ← hxv.1, ← he1] at hsrc
    refine app_core r hd hn hop hu hei hz hzs hs hk (hsz.trans hes.symm) (by rw [heb]; simpa [u8s] using hroom) hsrc (bs2 := []) ?_ ?_ ?_ (by simp) List.nodup_nil (fun h => ⟨h, rfl⟩) hbig hK
    · have key : ∀ l : List UInt8, repL w (Xof X0 J) (u8s l) (l.map fun c => Value.int .u8 (c.toNat : Int)) [] := by
        intro l
        induction l with
        | nil => simp [u8s, repL]
        | cons c l ih =>
          simp only [u8s, List.map_cons, repL, D.rep]
          exact ⟨_, _, [], [], rfl, rfl, ⟨rfl, rfl⟩, ih⟩
      exact key l
    · intro y hy
      simp only [u8s, List.mem_map] at hy
      obtain ⟨c, _, rfl⟩ := hy
      rw [hsz1]; rfl
    · intro u hu'
      simp only [List.mem_map] at hu'
      obtain ⟨c, _, rfl⟩ := hu'
      rw [hsz1]
      exact ⟨rfl, by simp [Value.cells, Value.oneCell']⟩
  case h_3 => exact hc.elim
  rename_i av xv s x hnstr hargs
  clear hnstr
  obtain ⟨hargs', hs, hx⟩ := two rfl hargs
  split at hc
  case h_2 => exact hc.elim
  rename_i hbt
  have hbt := Nat.eq_of_beq_eq_true hbt
  subst hbt
  subst hts'
  subst hargs'
  split at hc
  case h_2 => exact hc.elim
  rename_i zc hzc
  obtain ⟨ei, z, hei, hz, hzc'⟩ := zero_some hzc
  have hes : ei.size = (tdOf P e).size := by simp [tdOf, Program.cellsOf, hei]
  have heb : ei.bytes = (tdOf P e).bytes := by simp [tdOf, Program.bytesOf, hei]
  split at hc
  case h_2 => exact hc.elim
  rename_i hzl
  have hzs : z.cells.size = ei.size := by
    have := AV.repL_length (constsOf_rep (w := w) (X := fun _ => False) (J := fun _ => none) hzc')
    rw [hes, ← Nat.eq_of_beq_eq_true hzl, this, Array.length_toList]
  have hxv := r.ev hx
  -- nothing that is appended
  have srcNil : ∀ {a0 : Option Addr} {c : Nat}, a.eval x = .slice a0 0 c → Src P ei.size t (a.eval x) ([] : List D).length (flat ([] : List Value)) w := by
    intro a0 c h
    rw [h]
    cases a0 with
    | none => exact Src.ofNil (P := P) w hu c
    | some ad => exact Src.ofSlice (P := P) w hu ad 0 c [] (by simp) (by simp) (by simp)
  have srcOf : ∀ {b2 off2 c : Nat} {ys : List D} {vs : List Value} {bs : List Nat} {sz2 : Nat}, a.eval x = .slice (some ⟨b2, off2, none⟩) ys.length c → w.rangeAt b2 off2 (flat vs) → repL w (Xof X0 J) ys vs bs → (∀ u ∈ vs, u.cells.size = sz2 ∧ ∀ c ∈ u.cells.toList, c.oneCell' = true) → sz2 = ei.size →
      Src P ei.size t (a.eval x) ys.length (flat vs) w := by
    intro b2 off2 c ys vs bs sz2 hxe hrg hv hvl h2
    rw [hxe]
    refine Src.ofSlice (P := P) w hu ⟨b2, off2, none⟩ ys.length c (flat vs) ?_ (fun j u hj => by rw [Addr.add_mid]; exact hrg j u hj) (flat_ones fun u hu => (hvl u hu).2)
    rw [flat_length (fun u hu => (hvl u hu).1), ← repL_length hv, h2]
  -- a source that is another array of the walk
  have srcOwn : ∀ {k2 sz2 : Nat} {d2 : Bool} {ys : List D}, xv = .own k2 → look k2 st.obj = some (.arr sz2 d2 ys) → sz2 = ei.size → ∃ (vs : List Value) (p2 : Place) (nest : List Nat), J k2 = some p2 ∧ Src P ei.size t (a.eval x) ys.length (flat vs) w ∧
      repL w (Xof X0 J) ys vs nest ∧ (∀ y ∈ ys, y.cells.length = sz2) ∧ (∀ u ∈ vs, u.cells.size = sz2 ∧ ∀ c ∈ u.cells.toList, c.oneCell' = true) ∧ (d2 = false → nest = []) ∧ 0 < sz2 ∧ (∀ b ∈ nest, b ∈ p2.fp) ∧ nest.Nodup := by
    rintro k2 sz2 d2 ys rfl hk2 hsz2
    simp only [AV.rep] at hxv
    obtain ⟨p2, hp2, hxv, _⟩ := hxv
    obtain ⟨p', hp', g0, a1, c1, g1, g2, ⟨hh, rfl, rfl⟩ | ⟨hh, rfl, g3, g4, g5⟩⟩ := r.mem.ob _ _ hk2
    · rw [hp2] at hp'; cases hp'
      exact ⟨[], p2, [], hp2, srcNil (hxv.trans g1), by simp [repL], by simp, by simp, fun _ => rfl, g0, by simp, List.nodup_nil⟩
    · rw [hp2] at hp'; cases hp'
      obtain ⟨us, q1, q2, q3, q4⟩ := repRows_inv g4
      refine ⟨us, p2, p2.nest, hp2, srcOf (hxv.trans g1) (rangeAt_flat (off := 0) (fun u hu => (q3 u hu).1) q4) q1 q3 hsz2, q1, q2, q3, g5, g0, fun b hb => p2.nest_fp hh hb, ?_⟩
      have := r.mem.nd k2 p2 hp2
      rw [p2.fp_hd hh] at this
      exact (List.nodup_cons.1 this).2
  unfold appendC at hc
  split at hc
  · -- onto an array of the walk
    rename_i k
    split at hc
    case h_2 => exact hc.elim
    rename_i sz d xs hk
    split at hc
    · rename_i k2
      split at hc
      case h_2 => exact hc.elim
      rename_i sz2 d2 ys hk2
      split at hc
      · obtain ⟨⟨hne, hss, hsz, hroom⟩, hK⟩ := hc
        obtain ⟨hbig, hK⟩ := ev_app hK
        obtain ⟨vs, p2, nest, hp2, hsrc, hv, hyl, hvl, hn2, _, hfp, hnn⟩ := srcOwn rfl hk2 (by rw [← hss, hsz, hes])
        subst hss
        refine app_core r hd hn hop hu hei hz hzs hs hk (hsz.trans hes.symm) (by rw [heb]; exact hroom) hsrc hv hyl hvl ?_ hnn ?_ hbig hK
        · intro b hb; exact ⟨k2, p2, List.mem_singleton.2 rfl, Ne.symm hne, hp2, hfp b hb⟩
        · intro h; simp only [Bool.or_eq_false_iff] at h; exact ⟨h.1, hn2 h.2⟩
      · split at hc
        · obtain ⟨⟨hne, hss, hsz, hroom⟩, hK⟩ := hc
          obtain ⟨hbig, hK⟩ := ev_app hK
          obtain ⟨vs, p2, nest, hp2, hsrc, hv, hyl, hvl, hn2, _, hfp, hnn⟩ := srcOwn rfl hk2 (by rw [← hss, hsz, hes])
          subst hss
          rw [hn2 rfl] at hv
          exact app_core r hd hn hop hu hei hz hzs hs hk (hsz.trans hes.symm) (by rw [heb]; exact hroom) hsrc hv hyl hvl (by simp) List.nodup_nil (fun h => ⟨h, rfl⟩) hbig hK
        · exact hc.elim
    · rename_i ys
      obtain ⟨⟨hyl, hsz, hroom⟩, hK⟩ := hc
      obtain ⟨hbig, hK⟩ := ev_app hK
      simp only [AV.rep, D.rep] at hxv
      obtain ⟨_, _, a0, c, hxe, hcap, hrows⟩ := hxv
      rcases hrows with rfl | ⟨b2, off2, sz2, hne, rfl, hsz2, hrows, hX⟩
      · exact app_core r hd hn hop hu hei hz hzs hs hk (hsz.trans hes.symm) (by rw [heb]; exact hroom) (ys := []) (vs := []) (bs2 := []) (srcNil hxe) (by simp [repL]) (by simp) (by simp) (by simp) List.nodup_nil (fun h => ⟨h, rfl⟩) hbig hK
      · obtain ⟨us, q1, q2, q3, q4⟩ := repRows_inv hrows
        have hs2 : sz2 = sz := by
          cases ys with
          | nil => exact absurd rfl hne
          | cons y ys => rw [← q2 y (List.mem_cons_self ..), hyl y (List.mem_cons_self ..)]
        subst hs2
        exact app_core r hd hn hop hu hei hz hzs hs hk (hsz.trans hes.symm) (by rw [heb]; exact hroom) (srcOf hxe (rangeAt_flat (fun u hu => (q3 u hu).1) q4) q1 q3 (hsz.trans hes.symm)) q1 q2 q3 (by simp) List.nodup_nil (fun h => ⟨h, rfl⟩) hbig hK
    · obtain ⟨⟨hsz, hroom⟩, hK⟩ := hc
      obtain ⟨hbig, hK⟩ := ev_app hK
      simp only [AV.rep] at hxv
      exact app_core r hd hn hop hu hei hz hzs hs hk (hsz.trans hes.symm) (by rw [heb]; exact hroom) (ys := []) (vs := []) (bs2 := []) (srcNil hxv) (by simp [repL]) (by simp) (by simp) (by simp) List.nodup_nil (fun h => ⟨h, rfl⟩) hbig (by rw [List.append_nil]; exact hK)
    · exact hc.elim
  · -- onto nothing
    have hsv := r.ev hs
    simp only [AV.rep] at hsv
    split at hc
    case h_2 => exact hc.elim
    rename_i k2
    split at hc
    case h_2 => exact hc.elim
    rename_i sz2 d2 ys hk2
    have main : ∀ {ks : List Nat} {d' : Bool}, sz2 = (tdOf P e).size ∧ ys ≠ [] ∧ room ys.length (tdOf P e).bytes → evCmd P cx o.dst (.newArr sz2 d' ys ks) st K → (d2 = false ∨ k2 ∈ ks ∧ (d' = false → d2 = false)) → o.wp P a w next Q := by
      rintro ks d' ⟨hsz, hne, hroom⟩ hc hks
      obtain ⟨vs, p2, nest, hp2, hsrc, hv, hyl, hvl, hn2, h0, hfp, hnn⟩ := srcOwn rfl hk2 (hsz.trans hes.symm)
      have hvsl := repL_length hv
      have hl2 : (flat vs).length = ys.length * ei.size := by rw [flat_length (fun u hu => (hvl u hu).1), ← hvsl, hsz, hes]
      have hpos : 0 < ys.length := List.length_pos_iff.2 hne
      obtain ⟨hr63, hrb⟩ := hroom
      have hrun := run_append_grow_src (P := P) w t t o.type e ei z hu hei hz none 0 0 [] (by simp [Builtin.firstCells]) (a.eval x) ys.length (flat vs) hsrc (by omega) (by simp only [maxLen] at hr63; omega) (by rw [Nat.zero_add, nextslicecap_zero hpos, heb]; omega)
      rw [Nat.zero_add, List.nil_append] at hrun
      have hge := grownCap_ge w ys.length 0 e
      have s1 : Same w w.drew := ⟨rfl, rfl, rfl, Nat.le_refl _, fun _ _ => rfl⟩
      refine wp_newArr r hd hn (cs := (flat vs).toArray ++ Builtin.zeroCells z.cells (grownCap w ys.length 0 e - ys.length)) (t := e) (len := ys.length) (cap := grownCap w ys.length 0 e) hc (s1.trans (Same.push w.drew _)) (heap_push w.drew _)
        (by simp [execOp, hop, resolve, invoke, builtin, hsv, hrun]; rfl) (bs := nest) ?_ hnn ?_ h0 rfl hge ?_ hv hyl hvl ?_
      · intro b hb
        rcases hks with h | h
        · rw [hn2 h] at hb; cases hb
        · exact ⟨k2, p2, h.1, hp2, hfp b hb⟩
      · intro h
        rcases hks with h' | h'
        · exact hn2 h'
        · exact hn2 (h'.2 h)
      · simp only [Array.size_append, List.size_toArray, size_zeroCells, hzs, hl2, hsz, ← hes, ← Nat.add_mul]
        congr 1; simp only [Nat.add_sub_cancel' hge]
      · refine rangeAt_rows (off := 0) (fun u hu => (hvl u hu).1) (fun j u hu => ?_) |> fun h i u hu => by simpa using h i u hu
        have hh : (w.drew.alloc (.cells ((flat vs).toArray ++ Builtin.zeroCells z.cells (grownCap w ys.length 0 e - ys.length)) e)).heap[w.heap.size]? = _ := heap_push w.drew _
        have hj : j < (flat vs).length := (List.getElem?_eq_some_iff.1 hu).1
        have : ((flat vs).toArray ++ Builtin.zeroCells z.cells (grownCap w ys.length 0 e - ys.length))[j]? = some u := by
          rw [Array.getElem?_append_left (by simpa using hj)]; simpa using hu
        simp only [World.cell?]
        erw [hh]
        simpa using this
    split at hc
    · obtain ⟨hnd, hc⟩ := hc
      exact main hnd hc (.inr ⟨List.mem_singleton.2 rfl, fun h => h⟩)
    · split at hc
      · obtain ⟨hnd, hc⟩ := hc
        exact main hnd hc (.inl rfl)
      · exact hc.elim
  · exact hc.elim

theorem op_convert (r : Rel X0 J st a w) (hd : ∀ d, o.dst = some d → d < a.tmps.size) (hn : Leads P X0 J a w K next) (tok : TOk P cx.T) {src dst : TypeId} {x : Operand} (hop : o.op = .convert src dst x)
    (hc : evCmd P cx o.dst (opCmd cx.T o st) st K) : o.wp P a w next Q := by
  simp only [opCmd, hop] at hc
  split at hc
  case h_2 => exact hc.elim
  rename_i v hx
  have hxv := r.ev hx
  unfold convC at hc
  split at hc
  case h_1 => exact hc.elim
  rename_i is his
  have hts := tok src is his
  subst hts
  split at hc
  case h_1 => exact hc.elim
  rename_i id hid
  have htd := tok dst id hid
  subst htd
  split at hc
  · rename_i k hk
    have hu := kind_int (P := P) (t := dst) hk
    split at hc
    case h_2 => exact hc.elim
    rename_i k' n hks
    have hus := kind_int (P := P) (t := src) hks
    split at hc
    case h_2 => exact hc.elim
    rename_i k2 n2
    simp only [AV.rep, D.rep] at hxv
    refine wp_val r hd hn hc (u := .int k (k.wrap n2)) (w' := w) ?_ (Same.refl w) (by simp [AV.rep, D.rep])
    simp [execOp, hop, hxv.1, convert, run_underlying hu, run_underlying hus, Conv.intToInt]
  · rename_i hk
    have hu := kind_str (P := P) (t := dst) hk
    split at hc
    · rename_i hks
      have hus := kind_str (P := P) (t := src) hks
      split at hc
      case h_2 => exact hc.elim
      rename_i l
      simp only [AV.rep, D.rep] at hxv
      refine wp_val r hd hn hc (u := .string ⟨l.toArray⟩) (w' := w) ?_ (Same.refl w) (by simp [AV.rep, D.rep])
      simp [execOp, hop, hxv.1, convert, run_underlying hu, run_underlying hus]
    · rename_i e hks
      have hus := kind_slice (P := P) (t := src) hks
      split at hc
      case h_2 => exact hc.elim
      rename_i ie hie
      have hte := tok e ie hie
      subst hte
      split at hc
      case h_2 => exact hc.elim
      rename_i hke
      have hue := kind_int (P := P) (t := e) hke
      have go : ∀ {a0 : Option Addr} {n c : Nat} {l : List UInt8}, a.eval x = .slice a0 n c → K (st.put o.dst (.d (.s l))) → (Conv.bytesToString (.slice a0 n c)).run P w = .ok (.string ⟨l.toArray⟩) w → o.wp P a w next Q := by
        intro a0 n c l hv hK hrun
        refine wp_val r hd hn hK (u := .string ⟨l.toArray⟩) (w' := w) ?_ (Same.refl w) (by simp [AV.rep, D.rep])
        simp [execOp, hop, hv, run_convert_bytes_string (P := P) w src dst e a0 n c hus hue hu, hrun]
      split at hc
      · rename_i xs
        simp only [evCmd] at hc
        obtain ⟨l, rfl, hK⟩ := hc
        simp only [AV.rep, D.rep] at hxv
        obtain ⟨_, _, a0, c, hv, hcap, hrows⟩ := hxv
        rcases hrows with h0 | ⟨b, off, sz, hne, rfl, hsz, hrows, hX⟩
        · have hl0 : l = [] := by cases l with | nil => rfl | cons _ _ => simp [u8s] at h0
          subst hl0
          refine go hv hK ?_
          cases a0 with
          | none => simp [Conv.bytesToString]; rfl
          | some ad => simp [Conv.bytesToString, u8s, loadCells, loadCellsFrom]; rfl
        · obtain ⟨us, q1, q2, q3, q4⟩ := repRows_inv hrows
          have := bytes_vals q1
          subst this
          have hr := rangeAt_flat (fun u hu => (q3 u hu).1) q4
          rw [flat_ints] at hr
          have hlen : (u8s l).length = l.length := by simp [u8s]
          rw [hlen] at hv
          exact go hv hK (run_str hr)
      · simp only [AV.rep] at hxv
        exact go hxv hc (by simp [Conv.bytesToString]; rfl)
      · rename_i k
        simp only [AV.rep] at hxv
        obtain ⟨p, hp, hv, _⟩ := hxv
        split at hc
        case h_2 => exact hc.elim
        rename_i dd xs hk2
        simp only [evCmd] at hc
        obtain ⟨l, rfl, hK⟩ := hc
        obtain ⟨p', hp', g0, a1, c1, g1, g2, ⟨hh, hx0, rfl⟩ | ⟨hh, rfl, g3, g4, g5⟩⟩ := r.mem.ob _ _ hk2
        · rw [hp] at hp'; cases hp'
          have hl0 : l = [] := by cases l with | nil => rfl | cons _ _ => simp [u8s] at hx0
          subst hl0
          refine go (hv.trans g1) hK ?_
          cases a1 with
          | none => simp [Conv.bytesToString]; rfl
          | some ad => simp [Conv.bytesToString, u8s, loadCells, loadCellsFrom]; rfl
        rw [hp] at hp'; cases hp'
        obtain ⟨us, q1, q2, q3, q4⟩ := repRows_inv g4
        have := bytes_vals q1
        subst this
        have hr := rangeAt_flat (off := 0) (fun u hu => (q3 u hu).1) q4
        rw [flat_ints] at hr
        have hlen : (u8s l).length = l.length := by simp [u8s]
        rw [g1, hlen] at hv
        exact go hv hK (run_str hr)
      · exact hc.elim
    · exact hc.elim
  · exact hc.elim

theorem fill_ok {w : World} {X : Nat → Prop} {J : Nat → Option Place} {place : Nat → Option (Nat × Nat)} {place' : Nat → Option (Nat × Nat)} (hpl : ∀ j x, place j = some x → place' j = some x) :
    ∀ {ps : List (Nat × AV)} {cells cs : List AV} {us : List (Nat × Value)} {c0 : Array Value}, fillParts place cells ps = some cs → ps.map (·.1) = us.map (·.1) → AV.repL w X J (ps.map (·.2)) (us.map (·.2)) → AV.repL w X J cells c0.toList →
      ∃ c1, Instr.fill place' c0 us = some c1 ∧ AV.repL w X J cs c1.toList
  | [], cells, cs, us, c0, h, h1, h2, h3 => by
    simp only [fillParts, Option.some.injEq] at h; subst h
    cases us with
    | nil => exact ⟨c0, rfl, h3⟩
    | cons u us => simp at h1
  | (j, v) :: ps, cells, cs, us, c0, h, h1, h2, h3 => by
    cases us with
    | nil => simp at h1
    | cons u us =>
      obtain ⟨j', u⟩ := u
      simp only [List.map_cons, List.cons.injEq] at h1
      obtain ⟨rfl, h1⟩ := h1
      simp only [List.map_cons, AV.repL] at h2
      obtain ⟨u', us', he, hv, h2⟩ := h2
      simp only [List.cons.injEq] at he
      obtain ⟨rfl, rfl⟩ := he
      simp only [fillParts] at h
      split at h
      case h_2 => cases h
      rename_i off size hp
      split at h
      case h_2 => cases h
      rename_i hlen
      simp only [Bool.and_eq_true] at hlen
      obtain ⟨hlen, hpos⟩ := hlen
      have hlen := Nat.eq_of_beq_eq_true hlen
      have hpos : 0 < size := by simpa [Nat.blt_eq] using hpos
      split at h
      case h_2 => cases h
      rename_i cs' hset
      have hcr := cells_rep hv
      have hcl := AV.repL_length hcr
      have hc0 := AV.repL_length h3
      simp only [Array.length_toList] at hcl hc0
      have hr := setCells_rep (w' := w) hset hcr h3
      obtain ⟨_, hl⟩ := setCells_some hset
      have key : ∀ (l : List Value) (off s : Nat) (c : Array Value), (l.zipIdx s).foldl (fun cs (x : Value × Nat) => cs.setIfInBounds (off + x.2) x.1) c = putAt c (off + s) l := by
        intro l
        induction l with
        | nil => intro off s c; rfl
        | cons y l ih => intro off s c; simp only [List.zipIdx_cons, List.foldl_cons, putAt]; rw [ih]; rfl
      by_cases hfit : off + u.cells.size ≤ c0.size
      · obtain ⟨c1, hf, hr1⟩ := fill_ok hpl (c0 := putAt c0 off u.cells.toList) h h1 h2 hr
        refine ⟨c1, ?_, hr1⟩
        have hp' := hpl _ _ hp
        simp only [Instr.fill, hp']
        rw [if_neg (by simp only [Bool.or_eq_true, decide_eq_true_eq, not_or]; omega)]
        have := key u.cells.toList off 0 c0
        simp only [Nat.add_zero] at this
        rw [← Array.foldl_toList, Array.toList_zipIdx, this]
        exact hf
      · exfalso
        rcases hl with hl | hl
        · rw [hl] at hlen; simp at hlen; omega
        · omega

theorem op_build (r : Rel X0 J st a w) (hd : ∀ d, o.dst = some d → d < a.tmps.size) (hn : Leads P X0 J a w K next) (tok : TOk P cx.T) {t : TypeId} {parts : Array (Nat × Operand)} (hop : o.op = .build t parts)
    (hc : evCmd P cx o.dst (opCmd cx.T o st) st K) : o.wp P a w next Q := by
  simp only [opCmd, hop] at hc
  split at hc
  case h_2 => exact hc.elim
  rename_i i hi
  have hti := tok t i hi
  subst hti
  split at hc
  case h_2 => exact hc.elim
  rename_i fs hk
  obtain ⟨fds, hu, rfl, hinfo⟩ := kind_struct' (P := P) (t := t) hk
  split at hc
  case h_2 => exact hc.elim
  rename_i zc hzc
  obtain ⟨ti, z, hti, hz, hzc'⟩ := zero_some hzc
  split at hc
  case h_2 => exact hc.elim
  rename_i ps hps
  split at hc
  case h_2 => exact hc.elim
  rename_i cs hcs
  obtain ⟨g1, g2⟩ := r.pairs hps
  have hplaces : ∀ (l : List Field), (∀ f ∈ l, (P.info? f.type).isSome = true) → l.mapM (fun f => (P.info? f.type).map fun i => (f.offset, i.size)) = some (l.map fun f => (f.offset, P.cellsOf f.type)) := by
    intro l
    induction l with
    | nil => intro _; rfl
    | cons f l ih =>
      intro h
      obtain ⟨fi, hfi⟩ := Option.isSome_iff_exists.1 (h f (List.mem_cons_self ..))
      simp [List.mapM_cons, hfi, ih fun g hg => h g (List.mem_cons_of_mem _ hg), Program.cellsOf]
  have s1 : ∀ j x, placeOf (fds.toList.map fun f => (f.offset, f.type, P.cellsOf f.type)) j = some x → (fds.toList.map fun f => (f.offset, P.cellsOf f.type)).toArray[j]? = some x := by
    intro j y hy
    simp only [placeOf, List.getElem?_map] at hy
    cases hfd : fds.toList[j]? with
    | none => rw [hfd] at hy; cases hy
    | some fd =>
      rw [hfd] at hy
      simp only [Option.map_some, Option.some.injEq] at hy
      subst hy
      simp only [List.getElem?_toArray, List.getElem?_map, hfd, Option.map_some]
  have s2 : ps.map (·.1) = ((parts.map fun (i, x) => (i, a.eval x)).toList).map (·.1) := by rw [g2]; simp
  have s3 : AV.repL w (Xof X0 J) J (ps.map (·.2)) (((parts.map fun (i, x) => (i, a.eval x)).toList).map (·.2)) := by simpa [Function.comp_def] using g1
  obtain ⟨c1, hf, hr1⟩ := fill_ok (w := w) (X := Xof X0 J) (J := J) (place' := fun j => (fds.toList.map fun f => (f.offset, P.cellsOf f.type)).toArray[j]?) (c0 := z.cells) s1 hcs s2 s3 (constsOf_rep hzc')
  have hb : P.built t (parts.map fun (i, x) => (i, a.eval x)).toList = some c1 := by
    unfold Program.built
    simp only [hti, hu, hz, hplaces fds.toList hinfo]
    exact hf
  have hrun := run_build (P := P) w t _ c1 hb
  exact wp_val r hd hn hc (u := .agg c1) (w' := w) (by simp only [execOp, hop, Sem.run_bind, hrun, Result.andThen_ok, Sem.run_pure]) (Same.refl w) (mkAgg_rep hr1)
end
end Go.Pm
