/-
A walk of Go's code over values: elements opened, and read.
-/
import Derived.Test.YtjjnmkhcdbmhoaaPmDa
namespace Go.Pm
open Go
set_option linter.unusedVariables false
variable {P : Program}
section
variable {cx : Cx} {X0 : Nat → Prop} {J : Nat → Option Place} {st : St} {a : Act} {w : World} {o : Oper} {K : St → Prop} {next : Act → World → Prop} {Q : Exit → Act → World → Prop}

theorem ren_some_map (o : Option Ob) : o.map (Ob.ren some) = o := by cases o <;> simp [Ob.ren_some]

/-- One cell gets a name. -/
theorem open_one {obj obj' : Nat → Option Ob} (m : Mem X0 J obj w) {k : Nat} {p : Place} {sz : Nat} {xs : List D} {e : OE} {others : List OE} {pre post : List OC} {sz' : Nat} {dp : Bool} {ys : List D} {key : Nat}
    (hp : J k = some p) (hr : (Ob.opn sz xs (e :: others)).rep w (Xof X0 J) J p) (he : e.cells = pre ++ .d (.os sz' dp ys) :: post) (hfree : obj key = none)
    (ho : ∀ j, obj' j = if j = k then some (.opn sz xs (⟨e.i, e.ag, pre ++ .k key :: post⟩ :: others)) else if j = key then some (.arr sz' dp ys) else obj j) :
    ∃ J' p', Mem X0 J' obj' w ∧ (∀ x v, AV.rep w (Xof X0 J) J x v → x.rep w (Xof X0 J') J' v) ∧ Step J w J' w ∧ J' k = some p' ∧ p.like p' ∧ (∀ j, J j = none → j ≠ key → J' j = none) := by
  have hkey : J key = none := by
    cases hj : J key with
    | none => rfl
    | some q => obtain ⟨o, ho⟩ := m.dom key q hj; rw [hfree] at ho; cases ho
  have hne : key ≠ k := by rintro rfl; rw [hkey] at hp; cases hp
  have hat := opn_at (pre := pre) (mid := [.d (.os sz' dp ys)]) (post := post) hr (by rw [he]; simp)
  obtain ⟨h0, cap, h1, h2, hh, h3, h4, h5, h6⟩ := hr
  obtain ⟨b1, bm, b2, um, hnest, hum, hone, hrange, hlen, hput⟩ := hat
  simp only [ocD, OC.D, repL] at hum
  obtain ⟨u, vs', c1, c2, rfl, rfl, hu, rfl, rfl⟩ := hum
  rw [List.append_nil] at hnest
  have hnd := m.nd k p hp
  rw [p.fp_hd hh, hnest] at hnd
  obtain ⟨q, hqv, hqf, hqr⟩ := os_place (J := J) hu
  have hcell : w.cell? ⟨p.blk, e.i * sz + pre.length, none⟩ = some u := hrange 0 u rfl
  have hu1 : u.oneCell' = true := hone u (by simp)
  -- the new places
  obtain ⟨J', hJ'⟩ : ∃ J' : Nat → Option Place, J' = fun j => if j = k then some ⟨p.blk, b1 ++ b2, p.v, true⟩ else if j = key then some q else J j := ⟨_, rfl⟩
  have Jk : J' k = some ⟨p.blk, b1 ++ b2, p.v, true⟩ := by rw [hJ']; simp
  have Jkey : J' key = some q := by rw [hJ']; simp [hne]
  have Jo : ∀ j, j ≠ k → j ≠ key → J' j = J j := fun j h1 h2 => by rw [hJ']; simp [h1, h2]
  have hpl : ∀ j pl, J j = some pl → ∃ pl', J' j = some pl' ∧ pl.like pl' := by
    intro j pl hj
    by_cases e1 : j = k
    · subst e1; rw [hp] at hj; cases hj; exact ⟨_, Jk, rfl, rfl⟩
    · by_cases e2 : j = key
      · subst e2; rw [hkey] at hj; cases hj
      · exact ⟨pl, by rw [Jo j e1 e2]; exact hj, pl.like_refl⟩
  have sub : ∀ b, b ∈ p.blk :: (b1 ++ b2) → b ∈ p.fp := by
    intro b hb
    rw [p.fp_hd hh, hnest]
    rcases List.mem_cons.1 hb with rfl | hb
    · exact List.mem_cons_self ..
    · refine List.mem_cons_of_mem _ ?_
      rcases List.mem_append.1 hb with hb | hb <;> simp [hb]
  have sub2 : ∀ b, b ∈ c1 → b ∈ p.fp := by
    intro b hb
    rw [p.fp_hd hh, hnest]
    exact List.mem_cons_of_mem _ (by simp [hb])
  have hX : ∀ b, b < w.heap.size → ¬ Xof X0 J b → ¬ Xof X0 J' b := by
    rintro b hb hx (h0 | ⟨j, pl, hj, hb'⟩)
    · exact hx (.inl h0)
    · by_cases e1 : j = k
      · subst e1; rw [Jk] at hj; cases hj; exact hx (.inr ⟨_, p, hp, sub b hb'⟩)
      · by_cases e2 : j = key
        · subst e2; rw [Jkey] at hj; cases hj
          rw [hqf] at hb'
          exact hx (.inr ⟨k, p, hp, sub2 b hb'⟩)
        · rw [Jo j e1 e2] at hj; exact hx (.inr ⟨j, pl, hj, hb'⟩)
  have hA : ∀ bs, Agree w w (Xof X0 J) bs := fun _ _ _ _ => rfl
  have hgen := m.gen (J' := J') (obj' := obj') (w' := w) (f := some) (F := fun _ => False) (C := [k, key]) (fun k j h => (Option.some.inj h).symm) (fun _ _ => rfl)
    (fun j _ pl hj => .inr (hpl j pl hj))
    (fun j hj => by simp only [List.mem_cons, List.not_mem_nil, or_false, not_or] at hj; rw [Jo j hj.1 hj.2])
    (fun j hj => by simp only [List.mem_cons, List.not_mem_nil, or_false, not_or] at hj; rw [ho, if_neg hj.1, if_neg hj.2]; simp only; rw [ren_some_map])
    (fun j hj pl _ => by
      rcases List.mem_cons.1 hj with rfl | hj
      · rw [ho, if_pos rfl]; exact ⟨_, rfl⟩
      · rw [List.mem_singleton.1 hj, ho, if_neg hne, if_pos rfl]; exact ⟨_, rfl⟩)
    (fun j hj ob hob => by
      rcases List.mem_cons.1 hj with rfl | hj
      · rw [ho, if_pos rfl] at hob
        cases hob
        refine ⟨_, Jk, h0, cap, h1, h2, rfl, h3, ?_, ?_, ?_⟩
        · have := hput (w' := w) (X' := Xof X0 J') (mid' := [.k key]) (um' := [u]) (bm' := []) rfl rfl (by simp only [ocD, OC.D, repL, D.rep]; exact ⟨u, [], [], [], rfl, rfl, ⟨hu1, rfl⟩, rfl, rfl⟩) (by simpa using hu1) hX (hA _) (fun _ _ => rfl) (by simpa using hrange)
          simpa using this
        · simpa using h5
        · intro e' he'
          rcases List.mem_cons.1 he' with rfl | he'
          · obtain ⟨⟨g1, g2, g3, g4⟩, g5⟩ := h6 e (List.mem_cons_self ..)
            refine ⟨⟨g1, ?_, g3, ?_⟩, ?_⟩
            · rw [he] at g2; simpa using g2
            · rw [he, ocD_app] at g4
              show allOneD (ocD (pre ++ .k key :: post)) = true
              refine allOneD_of fun y hy => ?_
              rw [ocD_app] at hy
              have g4 := allOneD_cells g4
              rcases List.mem_append.1 hy with hy | hy
              · exact g4 y (List.mem_append_left _ hy)
              · simp only [ocD, OC.D] at hy
                rcases List.mem_cons.1 hy with rfl | hy
                · rfl
                · exact g4 y (List.mem_append_right _ (by simp only [ocD]; exact List.mem_cons_of_mem _ hy))
            · intro c key' hc
              have hc : (pre ++ .k key :: post)[c]? = some (.k key') := hc
              by_cases hcl : c < pre.length
              · rw [List.getElem?_append_left hcl] at hc
                obtain ⟨q', hq', r1, r2⟩ := g5 c key' (by rw [he, List.getElem?_append_left hcl]; exact hc)
                obtain ⟨q2, hq2, hl⟩ := hpl key' q' hq'
                exact ⟨q2, hq2, by rw [hl.2]; exact r1, by rw [hl.2]; exact r2⟩
              · rw [List.getElem?_append_right (by omega)] at hc
                by_cases hc0 : c = pre.length
                · subst hc0
                  rw [Nat.sub_self] at hc
                  simp only [List.getElem?_cons_zero, Option.some.injEq, OC.k.injEq] at hc
                  subst hc
                  exact ⟨q, Jkey, by rw [hqv]; exact hcell, by rw [hqv]; exact hu1⟩
                · obtain ⟨n, hn⟩ : ∃ n, c - pre.length = n + 1 := ⟨c - pre.length - 1, by omega⟩
                  rw [hn, List.getElem?_cons_succ] at hc
                  obtain ⟨q', hq', r1, r2⟩ := g5 c key' (by rw [he, List.getElem?_append_right (by omega), hn, List.getElem?_cons_succ]; exact hc)
                  obtain ⟨q2, hq2, hl⟩ := hpl key' q' hq'
                  exact ⟨q2, hq2, by rw [hl.2]; exact r1, by rw [hl.2]; exact r2⟩
          · obtain ⟨g1, g5⟩ := h6 e' (List.mem_cons_of_mem _ he')
            refine ⟨g1, fun c key' hc => ?_⟩
            obtain ⟨q', hq', r1, r2⟩ := g5 c key' hc
            obtain ⟨q2, hq2, hl⟩ := hpl key' q' hq'
            exact ⟨q2, hq2, by rw [hl.2]; exact r1, by rw [hl.2]; exact r2⟩
      · rw [List.mem_singleton.1 hj, ho, if_neg hne, if_pos rfl] at hob
        cases hob
        rw [List.mem_singleton.1 hj]
        refine ⟨q, Jkey, ?_⟩
        have := Ob.rep_ren (f := some) (J' := J') hX (hA q.fp) (fun k p j hp hj => by cases hj; exact hpl k p hp) hqr
        rwa [Ob.ren_some] at this)
    (Kept.refl _ w) (fun b h => h.elim)
    (fun j hj pl hpl' => by
      rcases List.mem_cons.1 hj with rfl | hj
      · rw [Jk] at hpl'; cases hpl'
        show (p.blk :: (b1 ++ b2)).Nodup
        have : (p.blk :: (b1 ++ b2)).Sublist (p.blk :: (b1 ++ c1 ++ b2)) := by
          refine List.Sublist.cons_cons _ ?_
          rw [List.append_assoc]
          exact List.Sublist.append_left (List.sublist_append_right ..) _
        exact this.nodup hnd
      · rw [List.mem_singleton.1 hj, Jkey] at hpl'; cases hpl'
        rw [hqf]
        have : c1.Sublist (p.blk :: (b1 ++ c1 ++ b2)) := ((List.sublist_append_right b1 c1).trans (List.sublist_append_left _ b2)).trans (List.sublist_cons_self ..)
        exact this.nodup hnd)
    (fun j hj pl hpl' b hb => by
      refine .inl ⟨k, p, hp, .inr (List.mem_cons_self ..), ?_⟩
      rcases List.mem_cons.1 hj with rfl | hj
      · rw [Jk] at hpl'; cases hpl'; exact sub b hb
      · rw [List.mem_singleton.1 hj, Jkey] at hpl'; cases hpl'
        rw [hqf] at hb; exact sub2 b hb)
    (fun j j' pl pl' hj hj' hpl1 hpl2 hjj b hb hb' => by
      have dis : b ∈ p.blk :: (b1 ++ b2) → b ∈ c1 → False := by
        intro h1 h2
        obtain ⟨n1, n2⟩ := List.nodup_cons.1 hnd
        rcases List.mem_cons.1 h1 with rfl | h1
        · exact n1 (by simp [h2])
        · rw [List.nodup_append] at n2
          obtain ⟨n3, n4, n5⟩ := n2
          rw [List.nodup_append] at n3
          rcases List.mem_append.1 h1 with h1 | h1
          · exact n3.2.2 b h1 b h2 rfl
          · exact n5 b (List.mem_append_right _ h2) b h1 rfl
      rcases List.mem_cons.1 hj with e1 | e1
      · rcases List.mem_cons.1 hj' with e2 | e2
        · exact hjj (e1.trans e2.symm)
        · rw [e1, Jk] at hpl1; cases hpl1
          rw [List.mem_singleton.1 e2, Jkey] at hpl2; cases hpl2
          rw [hqf] at hb'
          exact dis hb hb'
      · rcases List.mem_cons.1 hj' with e2 | e2
        · rw [e2, Jk] at hpl2; cases hpl2
          rw [List.mem_singleton.1 e1, Jkey] at hpl1; cases hpl1
          rw [hqf] at hb
          exact dis hb' hb
        · exact hjj ((List.mem_singleton.1 e1).trans (List.mem_singleton.1 e2).symm))
  obtain ⟨m', tr, stp⟩ := hgen
  refine ⟨J', ⟨p.blk, b1 ++ b2, p.v, true⟩, m', fun x v h => by have := tr x v h; rwa [AV.ren_some] at this, stp, Jk, ⟨rfl, rfl⟩, fun j h1 h2 => ?_⟩
  by_cases e1 : j = k
  · subst e1; rw [hp] at h1; cases h1
  · rw [Jo j e1 h2]; exact h1

theorem openCells_length {d : Nat} : ∀ {cs : List OC} {n : Nat}, (openCells d n cs).1.length = cs.length
  | [], n => rfl
  | .k key :: r, n => by simp only [openCells, List.length_cons, openCells_length (cs := r)]
  | .d x :: r, n => by cases x <;> simp only [openCells, List.length_cons, openCells_length (cs := r)]
theorem openCells_keys {d : Nat} : ∀ {cs : List OC} {n : Nat} {key : Nat} {ob : Ob}, (key, ob) ∈ (openCells d n cs).2 → ∃ m, n ≤ m ∧ key = 10000 * (m + 1) + d
  | [], n, key, ob, h => by simp [openCells] at h
  | .k q :: r, n, key, ob, h => by simp only [openCells] at h; exact openCells_keys h
  | .d x :: r, n, key, ob, h => by
    cases x with
    | os sz dp ys =>
      simp only [openCells] at h
      rcases List.mem_cons.1 h with h | h
      · cases h; exact ⟨n, Nat.le_refl _, rfl⟩
      · obtain ⟨m, h1, h2⟩ := openCells_keys h; exact ⟨m, by omega, h2⟩
    | _ => simp only [openCells] at h; exact openCells_keys h

def newsOf (news : List (Nat × Ob)) (obj : Nat → Option Ob) (k : Nat) : Option Ob := match look k news with | some o => some o | none => obj k
theorem news_look (st : St) : ∀ (news : List (Nat × Ob)) (k : Nat), look k (st.news news).obj = newsOf news (look · st.obj) k
  | [], k => rfl
  | (j, ob) :: r, k => by
    simp only [St.news, St.set_look, newsOf, look_cons]
    by_cases e : j = k
    · simp [e]
    · simp only [if_neg e]; exact news_look st r k
theorem freshAll_ok {obj : List (Nat × Ob)} : ∀ {news : List (Nat × Ob)}, freshAll obj news = true → ∀ k ob, (k, ob) ∈ news → look k obj = none
  | [], _, k, ob, h => by cases h
  | (j, o) :: r, hf, k, ob, h => by
    simp only [freshAll] at hf
    split at hf
    · rename_i hj
      rcases List.mem_cons.1 h with h | h
      · cases h; exact hj
      · exact freshAll_ok hf k ob h
    · cases hf

/-- Cells get names. -/
theorem open_all {d k : Nat} {sz : Nat} {xs : List D} {i : Nat} {ag : Bool} {others : List OE} : ∀ {mid : List OC} {n : Nat} {J : Nat → Option Place} {obj : Nat → Option Ob} {p : Place} {pre post : List OC} {obj' : Nat → Option Ob}, Mem X0 J obj w → J k = some p →
    (Ob.opn sz xs (⟨i, ag, pre ++ mid ++ post⟩ :: others)).rep w (Xof X0 J) J p → (∀ key ob, (key, ob) ∈ (openCells d n mid).2 → obj key = none) →
    (∀ j, obj' j = if j = k then some (.opn sz xs (⟨i, ag, pre ++ (openCells d n mid).1 ++ post⟩ :: others)) else newsOf (openCells d n mid).2 obj j) → (obj k = some (.opn sz xs (⟨i, ag, pre ++ mid ++ post⟩ :: others)) ∨ mid ≠ [] ∧ noOs mid = false) →
    ∃ J' p', Mem X0 J' obj' w ∧ (∀ x v, AV.rep w (Xof X0 J) J x v → x.rep w (Xof X0 J') J' v) ∧ Step J w J' w ∧ J' k = some p' ∧ p.like p'
  | [], n, J, obj, p, pre, post, obj', m, hp, hr, hfree, ho, hk => by
    rcases hk with hk | hk
    · have e : obj' = obj := by
        funext j
        rw [ho]
        by_cases e : j = k
        · rw [if_pos e, e, hk]; rfl
        · rw [if_neg e]; rfl
      subst e
      exact ⟨J, p, m, fun _ _ h => h, Step.refl J w, hp, p.like_refl⟩
    · exact absurd rfl hk.1
  | .k key :: r, n, J, obj, p, pre, post, obj', m, hp, hr, hfree, ho, hk => by
    simp only [openCells] at hfree ho
    refine open_all (mid := r) (n := n) (pre := pre ++ [.k key]) (post := post) m hp (by simpa using hr) hfree (fun j => by rw [ho]; simp) ?_
    rcases hk with hk | ⟨_, hk⟩
    · left; simpa using hk
    · right
      simp only [noOs] at hk
      refine ⟨?_, hk⟩
      rintro rfl; simp [noOs] at hk
  | .d x :: r, n, J, obj, p, pre, post, obj', m, hp, hr, hfree, ho, hk => by
    cases x with
    | os sz' dp ys =>
      simp only [openCells] at hfree ho
      obtain ⟨obj1, hobj1⟩ : ∃ obj1 : Nat → Option Ob, obj1 = fun j => if j = k then some (.opn sz xs (⟨i, ag, pre ++ .k (10000 * (n + 1) + d) :: (r ++ post)⟩ :: others)) else if j = 10000 * (n + 1) + d then some (.arr sz' dp ys) else obj j := ⟨_, rfl⟩
      obtain ⟨J1, p1, m1, tr1, s1, hp1, hl1, hn1⟩ := open_one (obj' := obj1) (e := ⟨i, ag, pre ++ .d (.os sz' dp ys) :: (r ++ post)⟩) (pre := pre) (post := r ++ post) m hp (by simpa using hr) rfl (hfree _ _ (List.mem_cons_self ..)) (fun j => by rw [hobj1])
      have hr1 : (Ob.opn sz xs (⟨i, ag, (pre ++ [.k (10000 * (n + 1) + d)]) ++ r ++ post⟩ :: others)).rep w (Xof X0 J1) J1 p1 := by
        obtain ⟨p2, hp2, h⟩ := m1.ob k (.opn sz xs (⟨i, ag, pre ++ .k (10000 * (n + 1) + d) :: (r ++ post)⟩ :: others)) (by rw [hobj1]; simp)
        rw [hp1] at hp2; cases hp2
        simpa using h
      obtain ⟨J2, p2, m2, tr2, s2, hp2, hl2⟩ := open_all (mid := r) (n := n + 1) (pre := pre ++ [.k (10000 * (n + 1) + d)]) (post := post) (obj' := obj') m1 hp1 hr1 (fun key ob h => by
          obtain ⟨q, h1, h2⟩ := openCells_keys h
          rw [hobj1]
          have hne : key ≠ k := by
            rintro rfl
            have := hfree _ _ (List.mem_cons_of_mem _ h)
            obtain ⟨o, ho'⟩ := m.dom key p hp
            rw [this] at ho'; cases ho'
          have hne2 : key ≠ 10000 * (n + 1) + d := by omega
          simp only [if_neg hne, if_neg hne2]
          exact hfree _ _ (List.mem_cons_of_mem _ h)) (fun j => by
          rw [ho]
          by_cases e : j = k
          · simp [e]
          · simp only [if_neg e, newsOf, look_cons]
            by_cases e2 : 10000 * (n + 1) + d = j
            · have hno : look j (openCells d (n + 1) r).2 = none := by
                cases hl : look j (openCells d (n + 1) r).2 with
                | none => rfl
                | some o =>
                  exfalso
                  have key : ∀ {l : List (Nat × Ob)} {j : Nat} {o : Ob}, look j l = some o → (j, o) ∈ l := by
                    intro l
                    induction l with
                    | nil => intro j o h; cases h
                    | cons y l ih =>
                      intro j o h
                      obtain ⟨y1, y2⟩ := y
                      rw [look_cons] at h
                      split at h
                      · rename_i e; cases h; rw [e]; exact List.mem_cons_self ..
                      · exact List.mem_cons_of_mem _ (ih h)
                  obtain ⟨q, h1, h2⟩ := openCells_keys (key hl)
                  omega
              rw [if_pos e2, hno]
              simp only [hobj1, if_neg e, if_pos e2.symm]
            · rw [if_neg e2]
              cases hl : look j (openCells d (n + 1) r).2 with
              | some o => rfl
              | none => simp only [hobj1, if_neg e, if_neg (Ne.symm e2)]) (by left; rw [hobj1]; simp)
      exact ⟨J2, p2, m2, fun x v h => tr2 x v (tr1 x v h), s1.trans s2, hp2, Place.like_trans hl1 hl2⟩
    | _ =>
      simp only [openCells] at hfree ho
      refine open_all (mid := r) (n := n) (pre := pre ++ [.d _]) (post := post) m hp (by simpa using hr) hfree (fun j => by rw [ho]; simp) ?_
      rcases hk with hk | ⟨_, hk⟩
      · left; simpa using hk
      · right
        simp only [noOs] at hk
        refine ⟨?_, hk⟩
        rintro rfl; simp [noOs] at hk

theorem os_free {X : Nat → Prop} {x : D} {u : Value} {bs : List Nat} (h : x.rep w X u bs) (h1 : u.oneCell' = true) (h2 : ∀ sz dp ys, x ≠ .os sz dp ys) : bs = [] := by
  cases x with
  | agg cs => simp only [D.rep] at h; obtain ⟨vs, rfl, _⟩ := h; cases h1
  | os sz dp ys => exact absurd rfl (h2 sz dp ys)
  | b x => simp only [D.rep] at h; exact h.2
  | i k n => simp only [D.rep] at h; exact h.2
  | s l => simp only [D.rep] at h; exact h.2
  | sl u xs => simp only [D.rep] at h; exact h.2.1
  | junk => simp only [D.rep] at h; exact h.2

/-- Cells none of which owns a block, as values of slots. -/
theorem avs_rep {X : Nat → Prop} {b i0 : Nat} : ∀ {mid : List OC} {c : Nat} {um : List Value} {bm : List Nat}, noOs mid = true → repL w X (ocD mid) um bm → (∀ u ∈ um, u.oneCell' = true) → w.rangeAt b (i0 + c) um →
    (∀ (n key : Nat), mid[n]? = some (.k key) → ∃ q, J key = some q ∧ w.cell? ⟨b, i0 + (c + n), none⟩ = some q.v ∧ q.v.oneCell' = true) → AV.repL w X J (avsOf mid) um
  | [], c, um, bm, _, h, _, _, _ => by simp only [ocD, repL] at h; simp only [avsOf, AV.repL]; exact h.1
  | y :: mid, c, um, bm, hno, h, h1, hrg, hk => by
    simp only [ocD, repL] at h
    obtain ⟨u, us, b1, b2, rfl, rfl, g1, g2⟩ := h
    have hu := h1 u (List.mem_cons_self ..)
    have hrest : w.rangeAt b (i0 + (c + 1)) us := by
      intro j v hv
      have := hrg (j + 1) v (by simpa using hv)
      rwa [show i0 + c + (j + 1) = i0 + (c + 1) + j by omega] at this
    have hcell : w.cell? ⟨b, i0 + c, none⟩ = some u := hrg 0 u rfl
    have ih : noOs mid = true → AV.repL w X J (avsOf mid) us := fun hn => avs_rep (c := c + 1) hn g2 (fun v hv => h1 v (List.mem_cons_of_mem _ hv)) hrest (fun n key hn' => by
      have := hk (n + 1) key (by simpa using hn')
      rwa [show i0 + (c + (n + 1)) = i0 + (c + 1 + n) by omega] at this)
    simp only [avsOf, AV.repL]
    cases y with
    | k key =>
      simp only [noOs] at hno
      refine ⟨u, us, rfl, ?_, ih hno⟩
      obtain ⟨q, hq, hqc, hq1⟩ := hk 0 key rfl
      rw [Nat.add_zero, hcell] at hqc
      simp only [OC.av, AV.rep]
      exact ⟨q, hq, Option.some.inj hqc, hq1⟩
    | d x =>
      have hx : ∀ sz dp ys, x ≠ .os sz dp ys := by rintro sz dp ys rfl; simp [noOs] at hno
      have hno' : noOs mid = true := by cases x <;> first | exact hno | (simp [noOs] at hno)
      refine ⟨u, us, rfl, ?_, ih hno'⟩
      simp only [OC.av, AV.rep]
      have := os_free g1 hu hx
      subst this
      exact g1
theorem noOs_open {d : Nat} : ∀ {cs : List OC} {n : Nat}, noOs (openCells d n cs).1 = true
  | [], n => rfl
  | .k key :: r, n => by simp only [openCells, noOs]; exact noOs_open
  | .d x :: r, n => by cases x <;> simp only [openCells, noOs] <;> exact noOs_open

theorem run_loadCells {t : TypeId} {x : Operand} (hop : o.op = .load t x) {b off : Nat} {vs : List Value} {u : Value} (hx : a.eval x = .pointer (some ⟨b, off, none⟩)) (hv : w.rangeAt b off vs)
    (hu : (∃ fs, P.underlying t = some (.struct fs) ∧ u = .agg (vs.take (P.cellsOf t)).toArray ∧ P.cellsOf t ≤ vs.length) ∨ (∃ d, P.underlying t = some d ∧ d.isRow = false ∧ vs[0]? = some u)) :
    (execOp a.eval o).run P w = .ok (.value u) w := by
  simp [execOp, hop, hx, run_loadAt_of hv hu]

theorem setCells_at {α : Type} {o : Nat} {vs l r : List α} (h : setCells o vs l = some r) : r = l.take o ++ vs ++ l.drop (o + vs.length) := by
  have key : ∀ {o : Nat} {vs l r : List α}, setCells o vs l = some r → r = l.take o ++ vs ++ l.drop (o + vs.length) := by
    intro o vs l
    induction l generalizing o vs with
    | nil => intro r h; cases o <;> cases vs <;> simp [setCells] at h ⊢ <;> exact h
    | cons y l ih =>
      intro r h
      cases vs with
      | nil => cases o <;> (simp only [setCells, Option.some.injEq] at h; subst h; simp)
      | cons v vs =>
        cases o with
        | zero =>
          simp only [setCells] at h
          split at h
          · rename_i r' hr; cases h; rw [ih hr]; simp
          · cases h
        | succ o =>
          simp only [setCells] at h
          split at h
          · rename_i r' hr
            cases h
            rw [ih hr, show o + 1 + (v :: vs).length = (o + (v :: vs).length) + 1 by omega]
            simp only [List.take_succ_cons, List.cons_append, List.drop_succ_cons]
          · cases h
  exact key h

theorem opn_of' {X : Nat → Prop} {p : Place} {ob : Ob} {sz j : Nat} {xs : List D} {els : List OE} {f : OE → List OE → Cmd} {dst : Option Nat} (ho : openAny ob = some (sz, xs, els)) (hr : ob.rep w X J p)
    (hc : evCmd P cx dst (pickEl xs j f els []) st K) : (Ob.opn sz xs els).rep w X J p := by
  by_cases hne : xs = []
  · subst hne
    unfold openAny at ho
    split at ho
    · cases ho
      simp only [pickEl, evCmd] at hc
      obtain ⟨x, hx, _⟩ := hc
      simp at hx
    · cases ho; exact hr
    · cases ho
  · exact opn_of ho hr hne

/-- A part of an element is read. -/
theorem op_loadDeep (tok : TOk P cx.T) (r : Rel X0 J st a w) (hd : ∀ d, o.dst = some d → d < a.tmps.size) (hn : Leads P X0 J a w K next) {t : TypeId} {x : Operand} (hop : o.op = .load t x)
    {k j off sz : Nat} {p : Place} (hp : J k = some p) (hx : a.eval x = .pointer (some ⟨p.blk, j * sz + off, none⟩)) {ob : Ob} (hob : look k st.obj = some ob) {xs : List D} {els : List OE} (hels : openEls ob = some (sz, xs, els))
    (hc : evCmd P cx o.dst (pickEl xs j (loadDeep o.dst (tdOf P t) k sz off xs) els []) st K) : o.wp P a w next Q := by
  obtain ⟨p', hp', hrep⟩ := r.mem.ob k ob hob
  rw [hp] at hp'; cases hp'
  have hopn := opn_of' (openEls_any hels) hrep hc
  obtain ⟨e, others, rfl, hr, hc⟩ := pick_ok (passed := []) (by simpa using hopn) hc (by simp)
  unfold loadDeep at hc
  split at hc
  case h_1 => exact hc.elim
  rename_i tl htl
  obtain ⟨rfl, hoff⟩ := drop_some htl
  split at hc
  case h_1 => exact hc.elim
  rename_i mid hmid
  obtain ⟨rfl, hml⟩ := take_some hmid
  generalize hmd : (e.cells.drop off).take (tdOf P t).size = mid at hc
  have hsplit : e.cells = e.cells.take off ++ mid ++ e.cells.drop (off + mid.length) := by
    have h1 : e.cells.drop off = mid ++ e.cells.drop (off + mid.length) := by
      rw [← hmd, List.length_take, Nat.min_eq_left hml, ← List.drop_drop]
      exact (List.take_append_drop _ _).symm
    rw [List.append_assoc, ← h1, List.take_append_drop]
  have hpl : (e.cells.take off).length = off := by rw [List.length_take]; omega
  cases hno : noOs mid with
  | true =>
    rw [hno] at hc
    simp only at hc
    obtain ⟨b1, bm, b2, um, _, hum, hone, hrg, _, _⟩ := opn_at hr hsplit
    rw [hpl] at hrg
    obtain ⟨_, _, _, _, _, _, _, _, h6⟩ := hr
    have hav := avs_rep (J := J) (b := p.blk) (i0 := e.i * sz) (c := off) hno hum hone hrg (fun n key hk => by
      refine (h6 e (List.mem_cons_self ..)).2 (off + n) key ?_
      rw [hsplit, List.append_assoc, List.getElem?_append_right (by omega), hpl, show off + n - off = n by omega, List.getElem?_append_left (List.getElem?_eq_some_iff.1 hk).1]
      exact hk)
    obtain ⟨v, u, hK, hvr, hu⟩ := loadAs_ok (P := P) (t := t) hav hc
    exact wp_val r hd hn hK (run_loadCells hop hx hrg hu) (Same.refl w) hvr
  | false =>
    rw [hno] at hc
    simp only at hc
    cases hdst : o.dst with
    | none => rw [hdst] at hc; exact hc.elim
    | some d =>
      rw [hdst] at hc
      simp only at hc
      generalize hoc : openCells d 0 mid = oc at hc
      obtain ⟨mid', news⟩ := oc
      simp only at hc
      split at hc
      case h_2 => exact hc.elim
      rename_i cs hcs
      have hcs := setCells_at hcs
      have hm' : mid'.length = mid.length := by have := openCells_length (d := d) (cs := mid) (n := 0); rw [hoc] at this; exact this
      rw [hm'] at hcs
      subst hcs
      simp only [evCmd] at hc
      split at hc
      case h_2 => exact hc.elim
      rename_i hfr
      obtain ⟨J', p1, m', tr, stp, hp1, hl⟩ := open_all (d := d) (n := 0) (mid := mid) (k := k) (i := e.i) (ag := e.ag) (pre := e.cells.take off) (post := e.cells.drop (off + mid.length)) (obj' := fun q => look q ((st.news news).set k (.opn sz xs (⟨e.i, e.ag, e.cells.take off ++ mid' ++ e.cells.drop (off + mid.length)⟩ :: others))).obj)
        r.mem hp (by rw [← hsplit]; exact hr) (fun key ob h => freshAll_ok hfr key ob (by rw [hoc] at h; exact h)) (fun q => by
          rw [St.set_look, news_look, hoc]
          by_cases e1 : k = q
          · simp [e1]
          · simp [e1, Ne.symm e1]) (.inr ⟨by rintro rfl; simp [noOs] at hno, hno⟩)
      have r' : Rel X0 J' ((st.news news).set k (.opn sz xs (⟨e.i, e.ag, e.cells.take off ++ mid' ++ e.cells.drop (off + mid.length)⟩ :: others))) a w := by
        refine ⟨fun q v hq => ?_, m', r.defers⟩
        have henv : ∀ (l : List (Nat × Ob)) (s : St), (s.news l).env = s.env := by
          intro l s
          induction l with
          | nil => rfl
          | cons y l ih => obtain ⟨y1, y2⟩ := y; exact ih
        have hq' : look q st.env = some v := by
          have : ((st.news news).set k (.opn sz xs (⟨e.i, e.ag, e.cells.take off ++ mid' ++ e.cells.drop (off + mid.length)⟩ :: others))).env = st.env := henv news st
          rw [this] at hq; exact hq
        obtain ⟨u, hu, hr'⟩ := r.env q v hq'
        exact ⟨u, hu, tr v u hr'⟩
      have hob' := r'.mem.ob k (.opn sz xs (⟨e.i, e.ag, e.cells.take off ++ mid' ++ e.cells.drop (off + mid.length)⟩ :: others)) (by show look k _ = _; rw [St.set_look, if_pos rfl])
      obtain ⟨p2, hp2, hr2⟩ := hob'
      rw [hp1] at hp2; cases hp2
      obtain ⟨b1, bm, b2, um, _, hum, hone, hrg, _, _⟩ := opn_at (pre := e.cells.take off) (mid := mid') (post := e.cells.drop (off + mid.length)) hr2 rfl
      rw [hpl, hl.1] at hrg
      obtain ⟨_, _, _, _, _, _, _, _, h6⟩ := hr2
      have hno' : noOs mid' = true := by have := noOs_open (d := d) (cs := mid) (n := 0); rw [hoc] at this; exact this
      have hav := avs_rep (J := J') (b := p.blk) (i0 := e.i * sz) (c := off) hno' hum hone hrg (fun n key hk => by
        have := (h6 _ (List.mem_cons_self ..)).2 (off + n) key (by
          show (e.cells.take off ++ mid' ++ e.cells.drop (off + mid.length))[off + n]? = _
          rw [List.append_assoc, List.getElem?_append_right (by omega), hpl, show off + n - off = n by omega, List.getElem?_append_left (List.getElem?_eq_some_iff.1 hk).1]
          exact hk)
        rw [hl.1] at this
        exact this)
      obtain ⟨v, u, hK, hvr, hu⟩ := loadAs_ok (P := P) (t := t) hav hc
      unfold Oper.wp
      rw [run_loadCells hop hx hrg hu]
      refine hn _ J' _ w hK ?_ Act.put_size stp
      rw [hdst]
      exact r'.put (fun d' h' => by cases h'; exact hd d hdst) hvr
end
end Go.Pm
