/-
A walk of Go's code over values: blocks that become parts of others.
-/
import Derived.Test.YtjjnmkhcdbmhoaaPmDb
namespace Go.Pm
open Go
set_option linter.unusedVariables false
variable {P : Program}
section
variable {cx : Cx} {X0 : Nat → Prop} {J : Nat → Option Place} {st : St} {a : Act} {w : World} {o : Oper} {K : St → Prop} {next : Act → World → Prop} {Q : Exit → Act → World → Prop}

/-- What a block gives up when it becomes a part of another one. -/
def given (J : Nat → Option Place) (k : Nat) : List Nat := match J k with | some p => p.fp | none => []
theorem given_some {k : Nat} {p : Place} (h : J k = some p) : given J k = p.fp := by unfold given; rw [h]
theorem given_fp {k b : Nat} (h : b ∈ given J k) : ∃ p, J k = some p ∧ b ∈ p.fp := by
  unfold given at h
  split at h
  · rename_i p hp; exact ⟨p, hp, h⟩
  · cases h

theorem given_nodup {obj : Nat → Option Ob} (m : Mem X0 J obj w) : ∀ {ks : List Nat}, nodup ks = true → (ks.flatMap (given J)).Nodup
  | [], _ => by simp
  | k :: ks, h => by
    simp only [nodup] at h
    split at h
    · cases h
    · rename_i hk
      have hk' : k ∉ ks := fun hm => by rw [(has_iff k ks).2 hm] at hk; cases hk
      simp only [List.flatMap_cons]
      rw [List.nodup_append]
      refine ⟨?_, given_nodup m h, ?_⟩
      · unfold given
        split
        · rename_i p hp; exact m.nd k p hp
        · exact List.nodup_nil
      · intro x hx y hy e
        subst e
        obtain ⟨k', hk2, hy⟩ := List.mem_flatMap.1 hy
        obtain ⟨p, hp, hxp⟩ := given_fp hx
        obtain ⟨p', hp', hyp⟩ := given_fp hy
        exact m.sep k k' p p' hp hp' (by rintro rfl; exact hk' hk2) x hxp hyp

theorem baseXs_over {xs : List D} : ∀ {els els' : List OE}, els'.map (·.i) = els.map (·.i) → (els.map (·.i)).Nodup → baseXs (baseXs xs els) els' = baseXs xs els'
  | [], [], _, _ => rfl
  | [], e' :: r', h, _ => by simp at h
  | e :: r, [], h, _ => by simp at h
  | e :: r, e' :: r', h, hn => by
    simp only [List.map_cons, List.cons.injEq] at h
    simp only [List.map_cons, List.nodup_cons] at hn
    obtain ⟨h1, h2⟩ := h
    obtain ⟨hn1, hn2⟩ := hn
    have key : ∀ (l : List OE) (L : List D) (x : D), e.i ∉ l.map (·.i) → baseXs (L.set e.i x) l = (baseXs L l).set e.i x := by
      intro l
      induction l with
      | nil => intro L x _; rfl
      | cons y l ih =>
        intro L x hy
        simp only [List.map_cons, List.mem_cons, not_or] at hy
        simp only [baseXs]
        rw [ih L x hy.2, List.set_comm _ _ hy.1]
    simp only [baseXs]
    rw [key r' _ _ (by rw [h2]; exact hn1), h1, List.set_set, baseXs_over h2 hn2]

/-- Cells of an open element that take their blocks in. -/
theorem absorbCells_rep {X : Nat → Prop} {g : Nat → Option (D × List Nat)} (hg : ∀ key y ks q, g key = some (y, ks) → J key = some q → ∃ bs, y.rep w X q.v bs ∧ bs.Perm (ks.flatMap (given J)) ∧ y.isAgg = false)
    {b sz j : Nat} {ag : Bool} (hag : ag = false → sz = 1) : ∀ {cs pre : List OC} {L : List D} {nest : List Nat} {cs' : List OC} {ks : List Nat}, repRows w X b sz L 0 nest → L[j]? = some (OE.D ⟨j, ag, pre ++ cs⟩) → (pre ++ cs).length = sz → allOneD (ocD (pre ++ cs)) = true →
      (∀ n key, cs[n]? = some (.k key) → ∃ q, J key = some q ∧ w.cell? ⟨b, j * sz + (pre.length + n), none⟩ = some q.v ∧ q.v.oneCell' = true) → absorbCells g cs = (cs', ks) →
      ∃ nest', repRows w X b sz (L.set j (OE.D ⟨j, ag, pre ++ cs'⟩)) 0 nest' ∧ nest'.Perm (nest ++ ks.flatMap (given J)) ∧ cs'.length = cs.length ∧ allOneD (ocD (pre ++ cs')) = true
  | [], pre, L, nest, cs', ks, h, hL, hlen, h1, hk, ha => by
    simp only [absorbCells, Prod.mk.injEq] at ha; obtain ⟨rfl, rfl⟩ := ha
    exact ⟨nest, by rw [set_same hL]; exact h, by simp, rfl, h1⟩
  | .d x :: cs, pre, L, nest, cs', ks, h, hL, hlen, h1, hk, ha => by
    simp only [absorbCells] at ha
    obtain ⟨l, k2, hl⟩ : ∃ l k2, absorbCells g cs = (l, k2) := ⟨_, _, rfl⟩
    rw [hl] at ha
    simp only [Prod.mk.injEq] at ha; obtain ⟨rfl, rfl⟩ := ha
    have e : ∀ l : List OC, pre ++ .d x :: l = (pre ++ [.d x]) ++ l := by intro l; simp
    rw [e] at hL hlen h1
    obtain ⟨nest', g1, g2, g3, g4⟩ := absorbCells_rep hg hag (cs := cs) (pre := pre ++ [.d x]) h hL hlen h1 (fun n key hn => by
      have := hk (n + 1) key (by simpa using hn)
      rwa [show pre.length + (n + 1) = (pre ++ [OC.d x]).length + n by simp; omega] at this) hl
    exact ⟨nest', by rw [e]; exact g1, g2, by simp [g3], by rw [e]; exact g4⟩
  | .k key :: cs, pre, L, nest, cs', ks, h, hL, hlen, h1, hk, ha => by
    obtain ⟨l, k2, hl⟩ : ∃ l k2, absorbCells g cs = (l, k2) := ⟨_, _, rfl⟩
    have e : ∀ (y : OC) (l : List OC), pre ++ y :: l = (pre ++ [y]) ++ l := by intro y l; simp
    have hlen1 : ag = false → (pre ++ .k key :: cs).length = 1 := fun h => hlen.trans (hag h)
    simp only [absorbCells] at ha
    cases hgk : g key with
    | none =>
      rw [hgk, hl] at ha
      simp only [Prod.mk.injEq] at ha; obtain ⟨rfl, rfl⟩ := ha
      have hD : (OE.D ⟨j, ag, pre ++ .k key :: cs⟩) = OE.D ⟨j, ag, (pre ++ [.d .junk]) ++ cs⟩ := by
        unfold OE.D; simp only [ocD_app, ocD, OC.D, List.append_assoc, List.cons_append, List.nil_append]
      obtain ⟨nest', g1, g2, g3, g4⟩ := absorbCells_rep hg hag (cs := cs) (pre := pre ++ [.d .junk]) h (by rw [hL, hD]) (by simpa using hlen) (by
        rw [← e]; simp only [ocD_app, ocD, OC.D] at h1 ⊢; exact h1) (fun n key' hn => by
        have := hk (n + 1) key' (by simpa using hn)
        rwa [show pre.length + (n + 1) = (pre ++ [OC.d .junk]).length + n by simp; omega] at this) hl
      exact ⟨nest', by rw [e]; exact g1, g2, by simp [g3], by rw [e]; exact g4⟩
    | some yk =>
      obtain ⟨y, k1⟩ := yk
      rw [hgk, hl] at ha
      simp only [Prod.mk.injEq] at ha; obtain ⟨rfl, rfl⟩ := ha
      obtain ⟨q, hq, hqc, hq1⟩ := hk 0 key rfl
      obtain ⟨bs, y1, y2, y3⟩ := hg key y k1 q hgk hq
      have hcells := OE.D_cells (e := ⟨j, ag, pre ++ .k key :: cs⟩) hlen1 h1
      obtain ⟨b1, bm, b2, um, hnest, hum, hone, hrg, hl0, hl1, hput⟩ := repRows_at (pre := ocD pre) (mid := [.junk]) (post := ocD cs) h hL (by rw [hcells]; simp [ocD_app, ocD, OC.D])
      simp only [repL, D.rep] at hum
      obtain ⟨u, us, c1, c2, rfl, rfl, ⟨_, rfl⟩, rfl, rfl⟩ := hum
      have hu : u = q.v := by
        have := hrg 0 u rfl
        rw [Nat.zero_add, ocD_length, Nat.add_zero] at this
        rw [Nat.add_zero] at hqc
        rw [hqc] at this
        exact (Option.some.inj this).symm
      subst hu
      have := hput (w' := w) (X' := X) (mid' := [y]) (um' := [q.v]) (bm' := bs) rfl (by cases y <;> first | rfl | cases y3) (by simp only [repL]; exact ⟨q.v, [], bs, [], rfl, by simp, y1, rfl, rfl⟩) (by simpa using hq1) (fun _ _ h => h) (fun _ _ _ => rfl) (fun _ _ => rfl) hrg
      have hD : (OE.D ⟨j, ag, pre ++ .k key :: cs⟩).withCells (ocD pre ++ [y] ++ ocD cs) = OE.D ⟨j, ag, (pre ++ [.d y]) ++ cs⟩ := by
        have := OE.D_with (i := j) (cs' := (pre ++ [.d y]) ++ cs) hlen1 h1
        rw [this]
        simp [ocD_app, ocD, OC.D]
      rw [hD] at this
      have h1' : allOneD (ocD ((pre ++ [.d y]) ++ cs)) = true := by
        refine allOneD_of fun z hz => ?_
        have h2 := allOneD_cells h1
        simp only [ocD_app, ocD, OC.D, List.append_assoc, List.cons_append, List.nil_append, List.mem_append, List.mem_cons] at hz h2
        rcases hz with hz | rfl | hz
        · exact h2 z (.inl hz)
        · exact y3
        · exact h2 z (.inr (.inr hz))
      have hjlt : j < L.length := (List.getElem?_eq_some_iff.1 hL).1
      obtain ⟨nest', g1, g2, g3, g4⟩ := absorbCells_rep hg hag (cs := cs) (pre := pre ++ [.d y]) this (List.getElem?_set_self hjlt) (by simpa using hlen) h1' (fun n key' hn => by
        have := hk (n + 1) key' (by simpa using hn)
        rwa [show pre.length + (n + 1) = (pre ++ [OC.d y]).length + n by simp; omega] at this) hl
      refine ⟨nest', by rw [e, ← List.set_set]; exact g1, g2.trans ?_, by simp [g3], by rw [e]; exact g4⟩
      rw [hnest]
      simp only [List.append_nil, List.append_assoc, List.flatMap_append]
      refine List.Perm.append_left _ ?_
      refine (List.perm_append_comm_assoc _ _ _).trans ?_
      exact List.Perm.append_left _ (List.Perm.append_right _ y2)
theorem absorbCells_noKey {g : Nat → Option (D × List Nat)} : ∀ {cs cs' : List OC} {ks : List Nat}, absorbCells g cs = (cs', ks) → cellKeys cs' = []
  | [], cs', ks, h => by simp only [absorbCells, Prod.mk.injEq] at h; obtain ⟨rfl, rfl⟩ := h; rfl
  | .d x :: cs, cs', ks, h => by
    simp only [absorbCells] at h
    obtain ⟨l, k2, hl⟩ : ∃ l k2, absorbCells g cs = (l, k2) := ⟨_, _, rfl⟩
    rw [hl] at h
    simp only [Prod.mk.injEq] at h; obtain ⟨rfl, rfl⟩ := h
    simp only [cellKeys]; exact absorbCells_noKey hl
  | .k key :: cs, cs', ks, h => by
    simp only [absorbCells] at h
    obtain ⟨l, k2, hl⟩ : ∃ l k2, absorbCells g cs = (l, k2) := ⟨_, _, rfl⟩
    cases hgk : g key with
    | none => rw [hgk, hl] at h; simp only [Prod.mk.injEq] at h; obtain ⟨rfl, rfl⟩ := h; simp only [cellKeys]; exact absorbCells_noKey hl
    | some yk => obtain ⟨y, k1⟩ := yk; rw [hgk, hl] at h; simp only [Prod.mk.injEq] at h; obtain ⟨rfl, rfl⟩ := h; simp only [cellKeys]; exact absorbCells_noKey hl

theorem absorbEls_rep {X : Nat → Prop} {g : Nat → Option (D × List Nat)} (hg : ∀ key y ks q, g key = some (y, ks) → J key = some q → ∃ bs, y.rep w X q.v bs ∧ bs.Perm (ks.flatMap (given J)) ∧ y.isAgg = false) {b sz : Nat} :
    ∀ {els : List OE} {L : List D} {nest : List Nat} {els' : List OE} {ks : List Nat}, repRows w X b sz L 0 nest → (els.map (·.i)).Nodup →
      (∀ e ∈ els, L[e.i]? = some e.D ∧ (e.cells.length = sz ∧ (e.ag = false → sz = 1) ∧ allOneD (ocD e.cells) = true) ∧ ∀ (c key : Nat), e.cells[c]? = some (.k key) → ∃ q, J key = some q ∧ w.cell? ⟨b, e.i * sz + c, none⟩ = some q.v ∧ q.v.oneCell' = true) →
      absorbEls g els = (els', ks) → ∃ nest', repRows w X b sz (baseXs L els') 0 nest' ∧ nest'.Perm (nest ++ ks.flatMap (given J)) ∧ els'.map (·.i) = els.map (·.i)
  | [], L, nest, els', ks, h, _, _, ha => by
    simp only [absorbEls, Prod.mk.injEq] at ha; obtain ⟨rfl, rfl⟩ := ha
    exact ⟨nest, h, by simp, rfl⟩
  | e :: r, L, nest, els', ks, h, hn, hk, ha => by
    simp only [absorbEls] at ha
    obtain ⟨cs, k1, hcs⟩ : ∃ cs k1, absorbCells g e.cells = (cs, k1) := ⟨_, _, rfl⟩
    obtain ⟨l, k2, hl⟩ : ∃ l k2, absorbEls g r = (l, k2) := ⟨_, _, rfl⟩
    rw [hcs, hl] at ha
    simp only [Prod.mk.injEq] at ha; obtain ⟨rfl, rfl⟩ := ha
    simp only [List.map_cons, List.nodup_cons] at hn
    obtain ⟨nest1, g1, g2, g3⟩ := absorbEls_rep hg (els := r) h hn.2 (fun e' he' => hk e' (List.mem_cons_of_mem _ he')) hl
    obtain ⟨q1, ⟨q2, q3, q4⟩, q5⟩ := hk e (List.mem_cons_self ..)
    have hget : (baseXs L l)[e.i]? = some e.D := by rw [baseXs_get (by rw [g3]; exact hn.1)]; exact q1
    obtain ⟨nest2, p1, p2, p3, p4⟩ := absorbCells_rep hg (j := e.i) (ag := e.ag) q3 (cs := e.cells) (pre := []) g1 (by rw [hget]; rfl) q2 q4 (fun n key hn => by simpa using q5 n key hn) hcs
    refine ⟨nest2, p1, p2.trans ?_, by simp [g3]⟩
    rw [List.flatMap_append]
    refine (List.Perm.append_right _ g2).trans ?_
    rw [List.append_assoc]
    exact List.Perm.append_left _ (List.perm_append_comm)
theorem absorbEls_noKey {g : Nat → Option (D × List Nat)} : ∀ {els els' : List OE} {ks : List Nat}, absorbEls g els = (els', ks) → elKeys els' = []
  | [], els', ks, h => by simp only [absorbEls, Prod.mk.injEq] at h; obtain ⟨rfl, rfl⟩ := h; rfl
  | e :: r, els', ks, h => by
    simp only [absorbEls] at h
    obtain ⟨cs, k1, hcs⟩ : ∃ cs k1, absorbCells g e.cells = (cs, k1) := ⟨_, _, rfl⟩
    obtain ⟨l, k2, hl⟩ : ∃ l k2, absorbEls g r = (l, k2) := ⟨_, _, rfl⟩
    rw [hcs, hl] at h
    simp only [Prod.mk.injEq] at h; obtain ⟨rfl, rfl⟩ := h
    simp only [elKeys, absorbCells_noKey hcs, absorbEls_noKey hl, List.append_nil]

/-- What an open array becomes: whole again. -/
theorem opn_whole {X : Nat → Prop} {g : Nat → Option (D × List Nat)} (hg : ∀ key y ks q, g key = some (y, ks) → J key = some q → ∃ bs, y.rep w X q.v bs ∧ bs.Perm (ks.flatMap (given J)) ∧ y.isAgg = false) {p : Place} {sz : Nat} {xs : List D} {els els' : List OE} {ks : List Nat}
    (hr : (Ob.opn sz xs els).rep w X J p) (ha : absorbEls g els = (els', ks)) : ∃ nest', repRows w X p.blk sz (baseXs xs els') 0 nest' ∧ nest'.Perm (p.nest ++ ks.flatMap (given J)) := by
  obtain ⟨h0, cap, h1, h2, hh, h3, h4, h5, h6⟩ := hr
  have hget : ∀ e ∈ els, (baseXs xs els)[e.i]? = some e.D := by
    have key : ∀ {l : List OE}, (l.map (·.i)).Nodup → (∀ e ∈ l, e.i < xs.length) → ∀ e ∈ l, (baseXs xs l)[e.i]? = some e.D := by
      intro l
      induction l with
      | nil => intro _ _ e he; cases he
      | cons y l ih =>
        intro hn hlt e he
        simp only [List.map_cons, List.nodup_cons] at hn
        simp only [baseXs]
        rcases List.mem_cons.1 he with rfl | he
        · exact List.getElem?_set_self (by rw [baseXs_len]; exact hlt e (List.mem_cons_self ..))
        · rw [List.getElem?_set_ne (fun e' => hn.1 (by rw [e']; exact List.mem_map_of_mem (f := fun x : OE => x.i) he))]
          exact ih hn.2 (fun e he => hlt e (List.mem_cons_of_mem _ he)) e he
    exact key h5 fun e he => (h6 e he).1.1
  obtain ⟨nest', g1, g2, g3⟩ := absorbEls_rep hg h4 h5 (fun e he => ⟨hget e he, (h6 e he).1.2, (h6 e he).2⟩) ha
  exact ⟨nest', by rw [← baseXs_over g3 h5]; exact g1, g2⟩

/-- A block as data. -/
theorem absorbK_rep {obj : Nat → Option Ob} (m : Mem X0 J obj w) : ∀ (n key : Nat) (y : D) (ks : List Nat) (q : Place), absorbK obj n key = some (y, ks) → J key = some q →
    ∃ bs, y.rep w (Xof X0 J) q.v bs ∧ bs.Perm (ks.flatMap (given J)) ∧ y.isAgg = false
  | 0, key, y, ks, q, h, _ => by cases h
  | n + 1, key, y, ks, q, h, hq => by
    simp only [absorbK] at h
    split at h
    · rename_i sz dp xs hob
      cases h
      obtain ⟨q', hq', hr⟩ := m.ob key _ hob
      rw [hq] at hq'; cases hq'
      exact ⟨q.fp, arr_place hr, by simp [given_some hq], rfl⟩
    · rename_i sz xs els hob
      obtain ⟨els', k1, he⟩ : ∃ els' k1, absorbEls (absorbK obj n) els = (els', k1) := ⟨_, _, rfl⟩
      rw [he] at h
      simp only [Option.some.injEq, Prod.mk.injEq] at h; obtain ⟨rfl, rfl⟩ := h
      obtain ⟨q', hq', hr⟩ := m.ob key _ hob
      rw [hq] at hq'; cases hq'
      obtain ⟨nest', g1, g2⟩ := opn_whole (fun key y ks q h1 h2 => absorbK_rep m n key y ks q h1 h2) hr he
      obtain ⟨h0, cap, h1, h2, hh, h3, h4, h5, h6⟩ := hr
      refine ⟨q.blk :: nest', ?_, ?_, rfl⟩
      · simp only [D.rep]
        exact ⟨h0, _, cap, by rw [baseXs_len]; exact h1, by rw [baseXs_len]; exact h2, .inr ⟨q.blk, nest', rfl, h3, g1, rfl, fun h => by cases h⟩⟩
      · simp only [List.flatMap_cons, given_some hq, q.fp_hd hh, List.cons_append]
        exact g2.cons _
    · cases h

mutual
theorem absorb_rep {obj : Nat → Option Ob} (m : Mem X0 J obj w) : ∀ (v : AV) (u : Value) (x : D) (ks : List Nat), v.absorb obj = some (x, ks) → v.rep w (Xof X0 J) J u → ∃ bs, x.rep w (Xof X0 J) u bs ∧ bs.Perm (ks.flatMap (given J))
  | .d y, u, x, ks, h, hr => by simp only [AV.absorb, Option.some.injEq, Prod.mk.injEq] at h; obtain ⟨rfl, rfl⟩ := h; exact ⟨[], hr, by simp⟩
  | .snil, u, x, ks, h, hr => by
    simp only [AV.absorb, Option.some.injEq, Prod.mk.injEq] at h; obtain ⟨rfl, rfl⟩ := h
    simp only [AV.rep] at hr
    refine ⟨[], ?_, by simp⟩
    simp only [D.rep]
    exact ⟨trivial, trivial, none, 0, hr, Nat.le_refl _, .inl trivial⟩
  | .own k, u, x, ks, h, hr => by
    simp only [AV.absorb] at h
    simp only [AV.rep] at hr
    obtain ⟨p, hp, rfl, _⟩ := hr
    obtain ⟨bs, g1, g2, _⟩ := absorbK_rep m 10 k x ks p h hp
    exact ⟨bs, g1, g2⟩
  | .agg cs, u, x, ks, h, hr => by
    simp only [AV.absorb] at h
    split at h
    · rename_i l ks' hl
      simp only [Option.some.injEq, Prod.mk.injEq] at h; obtain ⟨rfl, rfl⟩ := h
      simp only [AV.rep] at hr
      obtain ⟨vs, rfl, hr⟩ := hr
      obtain ⟨bs, g1, g2⟩ := absorbL_rep m cs vs.toList l ks' hl hr
      refine ⟨bs, ?_, g2⟩
      simp only [D.rep]
      exact ⟨vs, rfl, g1⟩
    · cases h
  | .c _, u, x, ks, h, hr => by cases h
  | .tup _, u, x, ks, h, hr => by cases h
  | .ptr .., u, x, ks, h, hr => by cases h
  | .eptr .., u, x, ks, h, hr => by cases h
  | .win .., u, x, ks, h, hr => by cases h
  | .rd _, u, x, ks, h, hr => by cases h
  | .fn .., u, x, ks, h, hr => by cases h
  | .bot, u, x, ks, h, hr => by cases h
theorem absorbL_rep {obj : Nat → Option Ob} (m : Mem X0 J obj w) : ∀ (vs : List AV) (us : List Value) (xs : List D) (ks : List Nat), absorbL obj vs = some (xs, ks) → AV.repL w (Xof X0 J) J vs us → ∃ bs, repL w (Xof X0 J) xs us bs ∧ bs.Perm (ks.flatMap (given J))
  | [], us, xs, ks, h, hr => by
    simp only [absorbL, Option.some.injEq, Prod.mk.injEq] at h; obtain ⟨rfl, rfl⟩ := h
    simp only [AV.repL] at hr; subst hr
    exact ⟨[], by simp [repL], by simp⟩
  | v :: vs, us, xs, ks, h, hr => by
    simp only [absorbL] at h
    split at h
    · rename_i x k1 hx
      split at h
      · rename_i l k2 hl
        simp only [Option.some.injEq, Prod.mk.injEq] at h; obtain ⟨rfl, rfl⟩ := h
        simp only [AV.repL] at hr
        obtain ⟨u, us', rfl, h1, h2⟩ := hr
        obtain ⟨c1, g1, g2⟩ := absorb_rep m v u x k1 hx h1
        obtain ⟨c2, g3, g4⟩ := absorbL_rep m vs us' l k2 hl h2
        refine ⟨c1 ++ c2, ?_, by rw [List.flatMap_append]; exact g2.append g4⟩
        simp only [repL]
        exact ⟨u, us', _, _, rfl, rfl, g1, g3⟩
      · cases h
    · cases h
end

theorem without_id {ks : List Nat} {k j : Nat} (h : without ks k = some j) : j = k := by
  unfold without at h; split at h <;> simp_all
theorem without_none {ks : List Nat} {k : Nat} (h : k ∈ ks) : without ks k = none := by
  unfold without; rw [(has_iff k ks).2 h]
theorem without_self {ks : List Nat} {k : Nat} (h : k ∉ ks) : without ks k = some k := by
  unfold without
  cases hk : has k ks with
  | true => exact absurd ((has_iff k ks).1 hk) h
  | false => rfl
end
end Go.Pm
