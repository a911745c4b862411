/-
A walk of Go's code over values: arrays whose elements own blocks: a part of an element read, turned, opened.
-/
import Derived.Test.YtjjnmkhcdbmhoaaPmD
namespace Go.Pm
open Go
set_option linter.unusedVariables false
variable {P : Program}

theorem repL_split {w : World} {X : Nat → Prop} : ∀ {xs ys : List D} {us : List Value} {bs : List Nat}, repL w X (xs ++ ys) us bs →
    ∃ u1 u2 b1 b2, us = u1 ++ u2 ∧ bs = b1 ++ b2 ∧ repL w X xs u1 b1 ∧ repL w X ys u2 b2
  | [], ys, us, bs, h => ⟨[], us, [], bs, rfl, rfl, by simp [repL], h⟩
  | x :: xs, ys, us, bs, h => by
    simp only [List.cons_append, repL] at h
    obtain ⟨v, vs', c1, c2, rfl, rfl, h1, h2⟩ := h
    obtain ⟨u1, u2, b1, b2, rfl, rfl, h3, h4⟩ := repL_split h2
    refine ⟨v :: u1, u2, c1 ++ b1, b2, rfl, by simp, ?_, h4⟩
    simp only [repL]
    exact ⟨v, u1, c1, b1, rfl, rfl, h1, h3⟩
theorem repL_cat {w : World} {X : Nat → Prop} : ∀ {xs ys : List D} {u1 u2 : List Value} {b1 b2 : List Nat}, repL w X xs u1 b1 → repL w X ys u2 b2 → repL w X (xs ++ ys) (u1 ++ u2) (b1 ++ b2)
  | [], ys, u1, u2, b1, b2, h1, h2 => by simp only [repL] at h1; obtain ⟨rfl, rfl⟩ := h1; simpa using h2
  | x :: xs, ys, u1, u2, b1, b2, h1, h2 => by
    simp only [repL] at h1
    obtain ⟨v, vs', c1, c2, rfl, rfl, g1, g2⟩ := h1
    simp only [List.cons_append, repL, List.append_assoc]
    exact ⟨v, _, c1, _, rfl, rfl, g1, repL_cat g2 h2⟩

/-- The element with other cells. -/
def D.withCells (x : D) (cs : List D) : D := match x.isAgg with | true => .agg cs | false => match cs with | [y] => y | _ => .junk
theorem withCells_cells {x : D} {cs : List D} (h : x.isAgg = true ∨ ∃ y, cs = [y] ∧ y.cells = [y]) : (x.withCells cs).cells = cs := by
  unfold D.withCells
  rcases h with h | ⟨y, rfl, hy⟩
  · rw [h]; rfl
  · cases x.isAgg with
    | true => rfl
    | false => exact hy
theorem allOneD_cells : ∀ {l : List D}, allOneD l = true → ∀ y ∈ l, y.isAgg = false
  | [], _, y, h => by cases h
  | x :: l, h, y, hy => by
    have key : x.isAgg = false ∧ allOneD l = true := by
      cases x <;> simp only [allOneD] at h <;> first | (cases h; done) | exact ⟨rfl, h⟩
    rcases List.mem_cons.1 hy with rfl | hy
    · exact key.1
    · exact allOneD_cells key.2 y hy
theorem allOneD_of : ∀ {l : List D}, (∀ y ∈ l, y.isAgg = false) → allOneD l = true
  | [], _ => rfl
  | x :: l, h => by
    have h1 := h x (List.mem_cons_self ..)
    have h2 := allOneD_of (l := l) fun y hy => h y (List.mem_cons_of_mem _ hy)
    cases x <;> first | (cases h1; done) | exact h2
theorem allOneD_rep {w : World} {X : Nat → Prop} : ∀ {xs : List D} {us : List Value} {bs : List Nat}, repL w X xs us bs → (∀ u ∈ us, u.oneCell' = true) → allOneD xs = true
  | [], us, bs, _, _ => rfl
  | x :: xs, us, bs, h, h1 => by
    simp only [repL] at h
    obtain ⟨v, vs', b1, b2, rfl, rfl, g1, g2⟩ := h
    have h2 := allOneD_rep g2 fun u hu => h1 u (List.mem_cons_of_mem _ hu)
    have h3 := h1 v (List.mem_cons_self ..)
    cases x with
    | agg cs => simp only [D.rep] at g1; obtain ⟨vs, rfl, _⟩ := g1; cases h3
    | _ => exact h2
theorem notAgg_cells {x : D} (h : x.isAgg = false) : x.cells = [x] := by cases x <;> first | rfl | cases h

theorem cell_range {w : World} {b o : Nat} {us : List Value} : w.rangeAt b o us ↔ ∀ j v, us[j]? = some v → w.cell? ⟨b, o + j, none⟩ = some v := Iff.rfl
theorem rangeAt_app {w : World} {b o : Nat} {xs ys : List Value} : w.rangeAt b o (xs ++ ys) ↔ w.rangeAt b o xs ∧ w.rangeAt b (o + xs.length) ys := by
  constructor
  · intro h
    refine ⟨fun j v hv => h j v ?_, fun j v hv => ?_⟩
    · rw [List.getElem?_append_left (List.getElem?_eq_some_iff.1 hv).1]; exact hv
    · have := h (xs.length + j) v (by rw [List.getElem?_append_right (by omega)]; simpa using hv)
      rwa [← Nat.add_assoc] at this
  · rintro ⟨h1, h2⟩ j v hv
    by_cases hj : j < xs.length
    · rw [List.getElem?_append_left hj] at hv; exact h1 j v hv
    · rw [List.getElem?_append_right (by omega)] at hv
      have := h2 _ v hv
      rwa [show o + xs.length + (j - xs.length) = o + j by omega] at this
theorem rangeAt_cells {w w' : World} {b o : Nat} {us : List Value} (h : w.rangeAt b o us) (hc : ∀ i, o ≤ i → i < o + us.length → w'.cell? ⟨b, i, none⟩ = w.cell? ⟨b, i, none⟩) : w'.rangeAt b o us := by
  intro j v hv
  have := (List.getElem?_eq_some_iff.1 hv).1
  rw [hc (o + j) (by omega) (by omega)]
  exact h j v hv

/-- Rows whose cells are as they were. -/
theorem repRows_cells {w w' : World} {X X' : Nat → Prop} (hX : ∀ b, b < w.heap.size → ¬ X b → ¬ X' b) {b sz : Nat} : ∀ {xs : List D} {off : Nat} {bs : List Nat}, Agree w w' X bs →
    (∀ i, off ≤ i → w'.cell? ⟨b, i, none⟩ = w.cell? ⟨b, i, none⟩) → repRows w X b sz xs off bs → repRows w' X' b sz xs off bs
  | [], off, bs, _, _, h => by simp only [repRows] at h ⊢; exact h
  | x :: xs, off, bs, hA, hb, h => by
    simp only [repRows] at h ⊢
    obtain ⟨v, b1, b2, hbs, h1, h2, h3, h4, h5⟩ := h
    subst hbs
    exact ⟨v, b1, b2, rfl, D.rep_mono hX x v b1 hA.left h1, h2, h3, rangeAt_cells h4 fun i hi _ => hb i hi, repRows_cells hX hA.right (fun i hi => hb i (by omega)) h5⟩

/-- Some cells of an element, told apart, and turned. -/
theorem repRows_at {w : World} {X : Nat → Prop} {b sz : Nat} {pre mid post : List D} : ∀ {xs : List D} {off j : Nat} {bs : List Nat} {x : D}, repRows w X b sz xs off bs → xs[j]? = some x → x.cells = pre ++ mid ++ post →
    ∃ b1 bm b2 um, bs = b1 ++ bm ++ b2 ∧ repL w X mid um bm ∧ (∀ u ∈ um, u.oneCell' = true) ∧ w.rangeAt b (off + j * sz + pre.length) um ∧ x.cells.length = sz ∧ um.length = mid.length ∧
      ∀ {w' : World} {X' : Nat → Prop} {mid' : List D} {um' : List Value} {bm' : List Nat}, mid'.length = mid.length → allOneD mid' = true → repL w' X' mid' um' bm' → (∀ u ∈ um', u.oneCell' = true) →
        (∀ c, c < w.heap.size → ¬ X c → ¬ X' c) → Agree w w' X (b1 ++ b2) → (∀ i, (i < off + j * sz + pre.length ∨ off + j * sz + pre.length + mid.length ≤ i) → w'.cell? ⟨b, i, none⟩ = w.cell? ⟨b, i, none⟩) →
        w'.rangeAt b (off + j * sz + pre.length) um' → repRows w' X' b sz (xs.set j (x.withCells (pre ++ mid' ++ post))) off (b1 ++ bm' ++ b2)
  | [], off, j, bs, x, _, h, _ => by simp at h
  | y :: xs, off, j, bs, x, h, hj, hx => by
    simp only [repRows] at h
    obtain ⟨v, c1, c2, rfl, h1, h2, h3, h4, h5⟩ := h
    cases j with
    | succ j =>
      obtain ⟨b1, bm, b2, um, rfl, g1, g2, g3, g4, g5, g6⟩ := repRows_at (j := j) h5 (by simpa using hj) hx
      have e : off + (j + 1) * sz = off + sz + j * sz := by rw [Nat.add_mul, Nat.one_mul]; omega
      refine ⟨c1 ++ b1, bm, b2, um, by simp, g1, g2, by rw [e]; exact g3, g4, g5, ?_⟩
      intro w' X' mid' um' bm' k1 k2 k3 k4 k5 k6 k7 k8
      rw [e] at k7 k8
      simp only [List.set_cons_succ, repRows]
      rw [List.append_assoc] at k6
      have hvl : v.cells.toList.length = sz := by rw [Array.length_toList, h2]
      refine ⟨v, c1, b1 ++ bm' ++ b2, by simp, D.rep_mono k5 y v c1 k6.left h1, h2, h3, rangeAt_cells h4 fun i _ hi => k7 i (.inl (by omega)), g6 k1 k2 k3 k4 k5 k6.right k7 k8⟩
    | zero =>
      simp only [List.getElem?_cons_zero, Option.some.injEq] at hj
      subst hj
      have hcr := D.cells_rep h1
      rw [hx] at hcr
      obtain ⟨u12, u3, d12, d3, hu, hd, g1, g2⟩ := repL_split hcr
      obtain ⟨u1, u2, d1, d2, rfl, rfl, g3, g4⟩ := repL_split g1
      rw [hu] at h4
      have l1 := repL_length g3
      have l2 := repL_length g4
      obtain ⟨h4a, h4c⟩ := rangeAt_app.1 h4
      obtain ⟨h4a, h4b⟩ := rangeAt_app.1 h4a
      have hvl : (u1 ++ u2 ++ u3).length = sz := by rw [← hu, Array.length_toList, h2]
      simp only [List.length_append] at hvl h4c
      have hone : ∀ u ∈ u1 ++ u2 ++ u3, u.oneCell' = true := by rw [← hu]; exact h3.2
      refine ⟨d1, d2, d3 ++ c2, u2, by rw [hd]; simp, g4, fun u hm => hone u (by simp [hm]), by rw [Nat.zero_mul, Nat.add_zero, l1]; exact h4b, h3.1, l2.symm, ?_⟩
      intro w' X' mid' um' bm' k1 k2 k3 k4 k5 k6 k7 k8
      rw [Nat.zero_mul, Nat.add_zero] at k7 k8
      have l3 := repL_length k3
      rw [l1] at k7 k8
      have k6' : Agree w w' X d1 ∧ Agree w w' X d3 ∧ Agree w w' X c2 := ⟨k6.left, k6.right.left, k6.right.right⟩
      have hnew := repL_cat (repL_cat (repL_mono k5 _ _ _ k6'.1 g3) k3) (repL_mono k5 _ _ _ k6'.2.1 g2)
      have hr1 : w'.rangeAt b off (u1 ++ um' ++ u3) := by
        refine rangeAt_app.2 ⟨rangeAt_app.2 ⟨rangeAt_cells h4a fun i _ hi => k7 i (.inl hi), k8⟩, ?_⟩
        have : off + (u1 ++ um').length = off + (u1 ++ u2).length := by simp only [List.length_append]; omega
        rw [this]
        refine rangeAt_cells (by simpa using h4c) fun i hi _ => k7 i (.inr ?_)
        simp only [List.length_append] at hi; omega
      have hnl : (u1 ++ um' ++ u3).length = sz := by simp only [List.length_append]; omega
      have hnone : ∀ u ∈ u1 ++ um' ++ u3, u.oneCell' = true := by
        intro u hm
        rcases List.mem_append.1 hm with hm | hm
        · rcases List.mem_append.1 hm with hm | hm
          · exact hone u (by simp [hm])
          · exact k4 u hm
        · exact hone u (by simp [hm])
      simp only [List.set_cons_zero, repRows]
      have tail : repRows w' X' b sz xs (off + sz) c2 := repRows_cells k5 k6'.2.2 (fun i hi => k7 i (.inr (by omega))) h5
      have hxl : (pre ++ mid ++ post).length = sz := by rw [← hx]; exact h3.1
      cases hag : y.isAgg with
      | true =>
        obtain ⟨cs, rfl⟩ : ∃ cs, y = .agg cs := by cases y <;> first | exact ⟨_, rfl⟩ | cases hag
        simp only [D.withCells, D.isAgg]
        refine ⟨.agg (u1 ++ um' ++ u3).toArray, d1 ++ bm' ++ d3, c2, by simp, ?_, ?_, ⟨?_, ?_⟩, ?_, tail⟩
        · simp only [D.rep]; exact ⟨_, rfl, by simpa using hnew⟩
        · show (u1 ++ um' ++ u3).toArray.size = sz; rw [List.size_toArray]; exact hnl
        · show (pre ++ mid' ++ post).length = sz
          simp only [List.length_append] at hxl ⊢; omega
        · show ∀ u ∈ ((u1 ++ um' ++ u3).toArray).toList, _; simpa using hnone
        · show w'.rangeAt b off ((u1 ++ um' ++ u3).toArray).toList; simpa using hr1
      | false =>
        have hyc := notAgg_cells hag
        rw [hyc] at hx
        have hsz1 : sz = 1 := by rw [← h3.1, hyc]; rfl
        have hl := congrArg List.length hx
        simp only [List.length_cons, List.length_nil, List.length_append] at hl
        have hx' : D.withCells y (pre ++ mid' ++ post) = match pre ++ mid' ++ post with | [z] => z | _ => .junk := by unfold D.withCells; rw [hag]
        rw [hx']
        obtain ⟨z, hz⟩ : ∃ z, pre ++ mid' ++ post = [z] := by
          refine List.length_eq_one_iff.1 ?_
          simp only [List.length_append]; omega
        rw [hz] at hnew ⊢
        obtain ⟨u, hu1⟩ := List.length_eq_one_iff.1 (hnl.trans hsz1)
        rw [hu1] at hnew hr1 hnone
        simp only [repL] at hnew
        obtain ⟨v1, vs1, e1, e2, e3, e4, r1, r2⟩ := hnew
        obtain ⟨rfl, rfl⟩ := r2
        simp only [List.cons.injEq, and_true] at e3
        subst e3
        have hu2 := hnone u (by simp)
        have huc := cells_one hu2
        have hz2 : z.cells = [z] := by
          cases z with
          | agg cs => simp only [D.rep] at r1; obtain ⟨vs, rfl, _⟩ := r1; cases hu2
          | _ => rfl
        refine ⟨u, d1 ++ bm' ++ d3, c2, by simp, by rw [e4]; simpa using r1, by rw [huc]; exact hsz1.symm, ⟨by rw [hz2]; exact hsz1.symm, by rw [huc]; simpa using hu2⟩, by rw [huc]; exact hr1, tail⟩

theorem ocD_ocs : ∀ cs : List D, ocD (ocsOf cs) = cs
  | [] => rfl
  | x :: r => by simp only [ocsOf, ocD, OC.D, ocD_ocs r]
theorem ocs_length : ∀ cs : List D, (ocsOf cs).length = cs.length
  | [] => rfl
  | x :: r => by simp only [ocsOf, List.length_cons, ocs_length r]
theorem ocD_length : ∀ cs : List OC, (ocD cs).length = cs.length
  | [] => rfl
  | x :: r => by simp only [ocD, List.length_cons, ocD_length r]
theorem ocD_app : ∀ xs ys : List OC, ocD (xs ++ ys) = ocD xs ++ ocD ys
  | [], ys => rfl
  | x :: xs, ys => by simp only [List.cons_append, ocD, ocD_app xs ys]
theorem ocs_app : ∀ xs ys : List D, ocsOf (xs ++ ys) = ocsOf xs ++ ocsOf ys
  | [], ys => rfl
  | x :: xs, ys => by simp only [List.cons_append, ocsOf, ocs_app xs ys]
theorem ocs_noKey : ∀ {cs : List D} {c key : Nat}, (ocsOf cs)[c]? = some (.k key) → False
  | [], c, key, h => by simp [ocsOf] at h
  | x :: r, c, key, h => by
    cases c with
    | zero => simp [ocsOf] at h
    | succ c => exact ocs_noKey (cs := r) (c := c) (key := key) (by simpa [ocsOf] using h)
theorem OE.D_new (j : Nat) (x : Pm.D) : (⟨j, x.isAgg, ocsOf x.cells⟩ : OE).D = x := by
  unfold OE.D
  simp only [ocD_ocs]
  cases x <;> rfl
/-- An open element is the closed one with other cells. -/
theorem OE.D_with {i : Nat} {ag : Bool} {cs cs' : List OC} (h : ag = false → cs.length = 1) (h1 : allOneD (ocD cs) = true) : (⟨i, ag, cs'⟩ : OE).D = (⟨i, ag, cs⟩ : OE).D.withCells (ocD cs') := by
  cases ag with
  | true => rfl
  | false =>
    obtain ⟨c, rfl⟩ := List.length_eq_one_iff.1 (h rfl)
    have hc : (c.D).isAgg = false := allOneD_cells h1 c.D (by simp [ocD])
    simp only [OE.D, ocD, Pm.D.withCells, hc]
    rfl
theorem OE.D_cells {e : OE} (h : e.ag = false → e.cells.length = 1) (h1 : allOneD (ocD e.cells) = true) : e.D.cells = ocD e.cells := by
  obtain ⟨i, ag, cs⟩ := e
  cases ag with
  | true => rfl
  | false =>
    obtain ⟨c, rfl⟩ := List.length_eq_one_iff.1 (h rfl)
    have hc : (c.D).isAgg = false := allOneD_cells h1 c.D (by simp [ocD])
    simp only [OE.D, ocD]
    exact notAgg_cells hc

theorem baseXs_len (xs : List D) : ∀ els : List OE, (baseXs xs els).length = xs.length
  | [] => rfl
  | e :: r => by simp only [baseXs, List.length_set, baseXs_len xs r]
theorem baseXs_get {xs : List D} : ∀ {els : List OE} {j : Nat}, j ∉ els.map (·.i) → (baseXs xs els)[j]? = xs[j]?
  | [], j, _ => rfl
  | e :: r, j, h => by
    simp only [List.map_cons, List.mem_cons, not_or] at h
    simp only [baseXs]
    rw [List.getElem?_set_ne (Ne.symm h.1), baseXs_get h.2]
theorem baseXs_comm {xs : List D} : ∀ {p r : List OE} {e : OE}, e.i ∉ p.map (·.i) → baseXs xs (p ++ e :: r) = baseXs xs (e :: (p ++ r))
  | [], r, e, _ => rfl
  | y :: p, r, e, h => by
    simp only [List.map_cons, List.mem_cons, not_or] at h
    have ih := baseXs_comm (xs := xs) (r := r) h.2
    simp only [List.cons_append, baseXs] at ih ⊢
    rw [ih, List.set_comm _ _ h.1]

theorem set_same {α : Type} {xs : List α} {j : Nat} {x : α} (h : xs[j]? = some x) : xs.set j x = xs := by
  obtain ⟨h1, rfl⟩ := List.getElem?_eq_some_iff.1 h
  exact List.set_getElem_self h1

section
variable {cx : Cx} {X0 : Nat → Prop} {J : Nat → Option Place} {st : St} {a : Act} {w : World} {o : Oper} {K : St → Prop} {next : Act → World → Prop} {Q : Exit → Act → World → Prop}

/-- An array of its own, an element of which there is, as an open one. -/
theorem opn_of {X : Nat → Prop} {p : Place} {ob : Ob} {sz : Nat} {xs : List D} {els : List OE} (ho : openAny ob = some (sz, xs, els)) (hr : ob.rep w X J p) (hne : xs ≠ []) : (Ob.opn sz xs els).rep w X J p := by
  unfold openAny at ho
  split at ho
  · cases ho
    obtain ⟨h0, a, cap, h1, h2, h3⟩ := hr
    rcases h3 with ⟨_, h3, _⟩ | ⟨hh, ha, h3, h4, h5⟩
    · exact absurd h3 hne
    · subst ha
      exact ⟨h0, cap, h1, h2, hh, h3, h4, by simp, by simp⟩
  · cases ho; exact hr
  · cases ho
theorem openEls_any {ob : Ob} {sz : Nat} {xs : List D} {els : List OE} (ho : openEls ob = some (sz, xs, els)) : openAny ob = some (sz, xs, els) := by
  unfold openEls at ho
  split at ho
  · cases ho; rfl
  · cases ho; rfl
  · cases ho

/-- The open element that is asked for stands first. -/
theorem pick_ok {X : Nat → Prop} {p : Place} {sz : Nat} {xs : List D} {j : Nat} {f : OE → List OE → Cmd} {dst : Option Nat} : ∀ {els passed : List OE}, (Ob.opn sz xs (passed ++ els)).rep w X J p → evCmd P cx dst (pickEl xs j f els passed) st K → j ∉ passed.map (·.i) →
    ∃ e others, e.i = j ∧ (Ob.opn sz xs (e :: others)).rep w X J p ∧ evCmd P cx dst (f e others) st K
  | [], passed, hr, hc, hp => by
    simp only [pickEl, evCmd] at hc
    obtain ⟨x, hx, hc⟩ := hc
    refine ⟨_, passed, rfl, ?_, hc⟩
    rw [List.append_nil] at hr
    obtain ⟨h0, cap, h1, h2, hh, h3, h4, h5, h6⟩ := hr
    have hb : (baseXs xs passed)[j]? = some x := by rw [baseXs_get hp]; exact hx
    refine ⟨h0, cap, h1, h2, hh, h3, ?_, ?_, ?_⟩
    · simp only [baseXs, OE.D_new]
      rw [set_same hb]; exact h4
    · simp only [List.map_cons, List.nodup_cons]; exact ⟨hp, h5⟩
    · intro e he
      rcases List.mem_cons.1 he with rfl | he
      · obtain ⟨_, _, _, um, _, g1, g2, _, g, _⟩ := repRows_at (pre := []) (mid := x.cells) (post := []) h4 hb (by simp)
        refine ⟨⟨(List.getElem?_eq_some_iff.1 hx).1, ?_, fun hag => ?_, ?_⟩, fun c key hk => (ocs_noKey hk).elim⟩
        · show (ocsOf x.cells).length = sz
          rw [ocs_length]; exact g
        · rw [notAgg_cells hag] at g; exact g.symm
        · show allOneD (ocD (ocsOf x.cells)) = true
          rw [ocD_ocs]; exact allOneD_rep g1 g2
      · exact h6 e he
  | e :: r, passed, hr, hc, hp => by
    simp only [pickEl, evCmd] at hc
    rcases hc with ⟨hj, hc⟩ | ⟨hj, hc⟩
    · refine ⟨e, passed ++ r, hj.symm, ?_, hc⟩
      obtain ⟨h0, cap, h1, h2, hh, h3, h4, h5, h6⟩ := hr
      rw [hj] at hp
      refine ⟨h0, cap, h1, h2, hh, h3, by rw [← baseXs_comm hp]; exact h4, ?_, fun e' he' => h6 e' ?_⟩
      · have : (List.map (·.i) (passed ++ e :: r)).Perm (List.map (·.i) (e :: (passed ++ r))) := List.perm_middle.map _
        exact this.nodup_iff.1 h5
      · rcases List.mem_cons.1 he' with rfl | he'
        · simp
        · rcases List.mem_append.1 he' with h | h <;> simp [h]
    · have : passed ++ e :: r = (passed ++ [e]) ++ r := by simp
      rw [this] at hr
      refine pick_ok hr hc ?_
      simp only [List.map_append, List.map_cons, List.map_nil, List.mem_append, List.mem_singleton, not_or]
      exact ⟨hp, hj⟩

/-- A slice that owns its block, as a block with a name. -/
theorem os_place {X : Nat → Prop} {sz : Nat} {dp : Bool} {ys : List D} {u : Value} {bs : List Nat} (h : (D.os sz dp ys).rep w X u bs) : ∃ q : Place, q.v = u ∧ q.fp = bs ∧ (Ob.arr sz dp ys).rep w X J q := by
  simp only [D.rep] at h
  obtain ⟨hsz, a, cap, hv, hc, hr⟩ := h
  rcases hr with ⟨h1, h2, h3⟩ | ⟨b, bs', ha, hp, hrows, hbs, hd⟩
  · exact ⟨⟨0, [], u, false⟩, rfl, by rw [h3]; rfl, hsz, a, cap, hv, hc, .inl ⟨rfl, h1, h2⟩⟩
  · exact ⟨⟨b, bs', u, true⟩, rfl, by rw [hbs]; rfl, hsz, a, cap, hv, hc, .inr ⟨rfl, ha, hp, hrows, hd⟩⟩
theorem arr_place {X : Nat → Prop} {sz : Nat} {dp : Bool} {ys : List D} {q : Place} (h : (Ob.arr sz dp ys).rep w X J q) : (D.os sz dp ys).rep w X q.v q.fp := by
  obtain ⟨hsz, a, cap, hv, hc, hr⟩ := h
  simp only [D.rep]
  refine ⟨hsz, a, cap, hv, hc, ?_⟩
  rcases hr with ⟨h1, h2, h3⟩ | ⟨hh, ha, hp, hrows, hd⟩
  · exact .inl ⟨h2, h3, q.fp_no h1⟩
  · exact .inr ⟨q.blk, q.nest, ha, hp, hrows, q.fp_hd hh, hd⟩

theorem renEls_some' (els : List OE) : renEls some els = els := renEls_some els

/-- The cells of the first open element from c on. -/
theorem opn_at {X : Nat → Prop} {p : Place} {sz : Nat} {xs : List D} {e : OE} {others : List OE} {pre mid post : List OC} (hr : (Ob.opn sz xs (e :: others)).rep w X J p) (he : e.cells = pre ++ mid ++ post) :
    ∃ b1 bm b2 um, p.nest = b1 ++ bm ++ b2 ∧ repL w X (ocD mid) um bm ∧ (∀ u ∈ um, u.oneCell' = true) ∧ w.rangeAt p.blk (e.i * sz + pre.length) um ∧ um.length = mid.length ∧
      ∀ {w' : World} {X' : Nat → Prop} {mid' : List OC} {um' : List Value} {bm' : List Nat}, mid'.length = mid.length → allOneD (ocD mid') = true → repL w' X' (ocD mid') um' bm' → (∀ u ∈ um', u.oneCell' = true) →
        (∀ c, c < w.heap.size → ¬ X c → ¬ X' c) → Agree w w' X (b1 ++ b2) → (∀ i, (i < e.i * sz + pre.length ∨ e.i * sz + pre.length + mid.length ≤ i) → w'.cell? ⟨p.blk, i, none⟩ = w.cell? ⟨p.blk, i, none⟩) →
        w'.rangeAt p.blk (e.i * sz + pre.length) um' → repRows w' X' p.blk sz (baseXs xs (⟨e.i, e.ag, pre ++ mid' ++ post⟩ :: others)) 0 (b1 ++ bm' ++ b2) := by
  obtain ⟨h0, cap, h1, h2, hh, h3, h4, h5, h6⟩ := hr
  obtain ⟨⟨g1, g2, g3, g4⟩, _⟩ := h6 e (List.mem_cons_self ..)
  have hget : (baseXs xs (e :: others))[e.i]? = some e.D := by
    simp only [baseXs]
    exact List.getElem?_set_self (by rw [baseXs_len]; exact g1)
  have hl1 : e.ag = false → e.cells.length = 1 := fun h => g2.trans (g3 h)
  have hDc := OE.D_cells hl1 g4
  rw [he, ocD_app, ocD_app] at hDc
  obtain ⟨b1, bm, b2, um, k1, k2, k3, k4, k5, k6, k7⟩ := repRows_at h4 hget hDc
  rw [Nat.zero_add, ocD_length] at k4
  refine ⟨b1, bm, b2, um, k1, k2, k3, k4, by rw [k6, ocD_length], ?_⟩
  intro w' X' mid' um' bm' q1 q2 q3 q4 q5 q6 q7 q8
  have := k7 (w' := w') (X' := X') (mid' := ocD mid') (um' := um') (bm' := bm') (by rw [ocD_length, ocD_length]; exact q1) q2 q3 q4 q5 q6 (by rw [Nat.zero_add, ocD_length, ocD_length]; exact q7) (by rw [Nat.zero_add, ocD_length]; exact q8)
  have hset : (baseXs xs (e :: others)).set e.i (e.D.withCells (ocD pre ++ ocD mid' ++ ocD post)) = baseXs xs (⟨e.i, e.ag, pre ++ mid' ++ post⟩ :: others) := by
    simp only [baseXs, List.set_set]
    congr 1
    rw [← ocD_app, ← ocD_app]
    exact (OE.D_with (i := e.i) hl1 g4).symm
  rw [hset] at this
  exact this
end
end Go.Pm
