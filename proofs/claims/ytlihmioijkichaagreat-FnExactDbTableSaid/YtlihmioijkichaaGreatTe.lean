/-
Databases, read: the plain laws.
-/
import Derived.Test.YtlihmioijkichaaGreatTd
namespace Go.Pm.Tryz
open Go Go.Proofs
set_option linter.unusedVariables false
set_option linter.unusedSimpArgs false
set_option maxRecDepth 100000
theorem list_strict2 {α : Type} {f g : Rd → α × Rd} {Q : α → Bool} (he : ∀ r, (g r = f r ∧ Q (f r).1 = true) ∨ (Q (f r).1 = false ∧ (g r).2.bad = true)) (st : ∀ {r : Rd}, (g r).2.bad = false → r.bad = false) :
    ∀ (k : Nat) (r : Rd), (listR g k r = listR f k r ∧ ∀ x, x ∈ (listR f k r).1 → Q x = true) ∨ ((∃ x, x ∈ (listR f k r).1 ∧ Q x = false) ∧ (listR g k r).2.bad = true)
  | 0, r => Or.inl ⟨rfl, fun x hx => by cases hx⟩
  | k + 1, r => by
    rcases he r with ⟨e, hq⟩ | ⟨hq, hb⟩
    · rcases list_strict2 he st k (f r).2 with ⟨h1, h2⟩ | ⟨⟨x, hx, h1⟩, h2⟩
      · left
        refine ⟨by simp only [listR, e, h1], fun x hx => ?_⟩
        rcases List.mem_cons.1 hx with rfl | hx
        · exact hq
        · exact h2 x hx
      · right
        refine ⟨⟨x, List.mem_cons_of_mem _ hx, h1⟩, ?_⟩
        show (listR g k (g r).2).2.bad = true
        rw [e]; exact h2
    · right
      refine ⟨⟨_, List.mem_cons_self .., hq⟩, ?_⟩
      show (listR g k (g r).2).2.bad = true
      have hs : ∀ (k : Nat) (r : Rd), (listR g k r).2.bad = false → r.bad = false := fun k => by
        induction k with
        | zero => exact fun r h => h
        | succ k ih => exact fun r h => st (ih _ h)
      cases e : (listR g k (g r).2).2.bad with
      | true => rfl
      | false => rw [hs k _ e] at hb; cases hb
def tabG (sc : Rd → Schema × Rd) (many : Rd → Int → Int × Rd) (vs : Rd → List Val × Rd) : Rd → Tab × Rd := mapR (fun p => (⟨p.1, p.2⟩ : Tab)) (seqR sc (timesR (many · 60) vs))
noncomputable def tabS : Rd → Tab × Rd := tabG schS specManyR valsS
noncomputable def tabT : Rd → Tab × Rd := tabG schT specManyR valsS
noncomputable def tabI : Rd → Tab × Rd := tabG schI implManyR valsI
theorem same_rows : Same (timesR (specManyR · 60) valsS) (timesR (implManyR · 60) valsI) := (same_many 60).times same_vals
theorem same_tabT : Same tabT tabI := by
  unfold tabT tabI tabG
  exact (same_schT.seq same_rows).map _
noncomputable def dbS : Rd → List Tab × Rd := timesR (specManyR · 8) tabS
noncomputable def dbT : Rd → List Tab × Rd := timesR (specManyR · 8) tabT
noncomputable def dbI : Rd → List Tab × Rd := timesR (implManyR · 8) tabI
theorem same_dbT : Same dbT dbI := (same_many 8).times same_tabT
noncomputable def tabQ (t : Tab) : Bool := dec (schemaP t.sch)
theorem schT_eq (r : Rd) : schT r = ((schS r).1, { (schS r).2 with bad := (schS r).2.bad || !dec (schemaP (schS r).1) }) := by
  simp only [schT, schS, thenR, Bool.not_and, Bool.or_assoc]
theorem tab_strict (r : Rd) : (tabT r = tabS r ∧ tabQ (tabS r).1 = true) ∨ (tabQ (tabS r).1 = false ∧ (tabT r).2.bad = true) := by
  have hs : (tabS r).1.sch = (schS r).1 := rfl
  have hq : tabQ (tabS r).1 = dec (schemaP (schS r).1) := rfl
  cases h : dec (schemaP (schS r).1) with
  | true =>
    left
    refine ⟨?_, hq.trans h⟩
    have e : schT r = schS r := by
      rw [schT_eq, h]
      generalize schS r = q
      rcases q with ⟨a, t, p, b⟩
      simp only [Bool.not_true, Bool.or_false]
    unfold tabT tabS tabG
    simp only [mapR, seqR, e]
  | false =>
    right
    refine ⟨hq.trans h, ?_⟩
    have hb : (schT r).2.bad = true := by rw [schT_eq, h]; simp only [Bool.not_false, Bool.or_true]
    show (timesR (specManyR · 60) valsS (schT r).2).2.bad = true
    cases e : (timesR (specManyR · 60) valsS (schT r).2).2.bad with
    | true => rfl
    | false => rw [same_rows.stickS e] at hb; cases hb
noncomputable def dbOk (l : List UInt8) : Bool := overR (dbI (begR l)).2 && dec (dbP (dbI (begR l)).1)
theorem db_same (l : List UInt8) : (overR (dbS (begR l)).2 && dec (dbP (dbS (begR l)).1)) = dbOk l ∧ (dbOk l = true → (dbS (begR l)).1 = (dbI (begR l)).1) := by
  have h := same_dbT.like (like_beg l)
  have e := over_like h.rd
  have e2 : overR (dbT (begR l)).2 = true → (dbT (begR l)).1 = (dbI (begR l)).1 := fun ho => h.val (over_good ho)
  rcases list_strict2 (Q := tabQ) tab_strict same_tabT.stickS (specManyR (begR l) 8).1.toNat (specManyR (begR l) 8).2 with ⟨h1, h2⟩ | ⟨⟨x, hx, h1⟩, h2⟩
  · have h1 : dbT (begR l) = dbS (begR l) := h1
    rw [h1] at e e2
    unfold dbOk
    rw [← e]
    cases ho : overR (dbS (begR l)).2 with
    | true => rw [e2 ho]; exact ⟨rfl, fun _ => rfl⟩
    | false => exact ⟨rfl, fun hh => by cases hh⟩
  · have hx : x ∈ (dbS (begR l)).1 := hx
    have h2 : (dbT (begR l)).2.bad = true := h2
    have o1 : overR (dbI (begR l)).2 = false := by rw [← e, overR, h2]; rfl
    have o2 : dec (dbP (dbS (begR l)).1) = false := dec_false fun hP => by
      obtain ⟨k, hk⟩ := List.getElem?_of_mem hx
      have := (hP.tabs k x hk).tab.sch
      rw [tabQ, dec_true this] at h1; cases h1
    unfold dbOk
    rw [o1, o2, Bool.and_false]
    exact ⟨rfl, fun hh => by cases hh⟩
/-! How great. -/
structure Tab.small (t : Tab) : Prop where
  sch : t.sch.small
  fits : t.sch.fits
  rows : t.rows.length ≤ 60
  row : ∀ r, r ∈ t.rows → r.length ≤ 12
theorem Tab.small.fit {t : Tab} (h : t.small) : t.fits := ⟨h.fits, Nat.le_trans h.rows (Nat.le_of_ble_eq_true rfl), fun r hr => twelve (h.row r hr)⟩
theorem rowsS_small {r : Rd} : (timesR (specManyR · 60) valsS r).1.length ≤ 60 ∧ ∀ v, v ∈ (timesR (specManyR · 60) valsS r).1 → v.length ≤ 12 := by
  constructor
  · show (listR valsS (specManyR r 60).1.toNat _).1.length ≤ 60
    rw [list_len]; have := manyS_range r (most := 60) (by decide); omega
  · intro v hv
    obtain ⟨r', h1, rfl⟩ := list_mem valsS_text hv
    exact keyP_len _
theorem rowsI_small {r : Rd} : (timesR (implManyR · 60) valsI r).1.length ≤ 60 ∧ ∀ v, v ∈ (timesR (implManyR · 60) valsI r).1 → v.length ≤ 12 := by
  constructor
  · show (listR valsI (implManyR r 60).1.toNat _).1.length ≤ 60
    rw [list_len]; have := manyI_range r (most := 60) (by decide); omega
  · intro v hv
    obtain ⟨r', h1, rfl⟩ := list_mem valsI_text hv
    exact valsOf_len _
theorem tabS_small {r : Rd} (hl : r.text.length ≤ 20000) : (tabS r).1.small := by
  have hw : (specTextR r).1.length ≤ 20000 := Nat.le_trans (wordS_len _) hl
  exact ⟨schS_small (r := begR (specTextR r).1) hw, schS_fits (r := begR (specTextR r).1) hw, rowsS_small.1, rowsS_small.2⟩
theorem tabI_small {r : Rd} (hl : r.text.length ≤ 20000) : (tabI r).1.small := by
  have hw : (implWordR r).1.length ≤ 20000 := Nat.le_trans (wordI_len _) hl
  exact ⟨schI_small (r := begR (implWordR r).1) hw, schI_fits (r := begR (implWordR r).1) hw, rowsI_small.1, rowsI_small.2⟩
theorem rowsS_text (r : Rd) : (timesR (specManyR · 60) valsS r).2.text = r.text := same_rows.textS r
theorem rowsI_text (r : Rd) : (timesR (implManyR · 60) valsI r).2.text = r.text := same_rows.textI r
theorem tabS_text (r : Rd) : (tabS r).2.text = r.text := (rowsS_text _).trans (schS_text r)
theorem tabI_text (r : Rd) : (tabI r).2.text = r.text := (rowsI_text _).trans (schI_text r)
theorem dbS_small {r : Rd} (hl : r.text.length ≤ 20000) : (dbS r).1.length ≤ 8 ∧ ∀ t, t ∈ (dbS r).1 → t.small := by
  constructor
  · show (listR tabS (specManyR r 8).1.toNat _).1.length ≤ 8
    rw [list_len]; have := manyS_range r (most := 8) (by decide); omega
  · intro t ht
    obtain ⟨r', h1, rfl⟩ := list_mem tabS_text ht
    exact tabS_small (by rw [h1, (same_many 8).textS]; exact hl)
theorem dbI_small {r : Rd} (hl : r.text.length ≤ 20000) : (dbI r).1.length ≤ 8 ∧ ∀ t, t ∈ (dbI r).1 → t.small := by
  constructor
  · show (listR tabI (implManyR r 8).1.toNat _).1.length ≤ 8
    rw [list_len]; have := manyI_range r (most := 8) (by decide); omega
  · intro t ht
    obtain ⟨r', h1, rfl⟩ := list_mem tabI_text ht
    exact tabI_small (by rw [h1]; exact hl)
/-- A table as the reference's reader has it: the rows in a block of its own. -/
def tab1 (t : Tab) : D := .agg [.s t.sch.name, .sl false (t.sch.cols.map colD), .sl false (t.sch.keys.map i64D), .sl false (t.sch.idxs.map idxD), .os 1 false (t.rows.map rowD)]
theorem erase_rowD : ∀ l : List (List Val), eraseL (l.map rowD) = l.map rowD
  | [] => rfl
  | x :: l => by simp only [List.map_cons, eraseL, erase_rowD l, rowD, D.erase, erase_vals]
theorem erase_idxD : ∀ l : List Idx, eraseL (l.map idxD) = l.map idxD
  | [] => rfl
  | x :: l => by simp only [List.map_cons, eraseL, erase_idxD l, idxD, D.erase, erase_ints]
theorem erase_tab1 : ∀ l : List Tab, eraseL (l.map tab1) = l.map tabD
  | [] => rfl
  | x :: l => by simp only [List.map_cons, eraseL, erase_tab1 l, tab1, tabD, D.erase, erase_ints, erase_cols, erase_rowD, erase_idxD]
set_option maxHeartbeats 8000000 in
theorem specDb (l : List UInt8) (hl : l.length ≤ 20000) : Ent Tryz.prog 59 [.d (.s l)] [] (.tup [.d (.agg [.sl false ((dbS (begR l)).1.map tabD)]), .d (.b (overR (dbS (begR l)).2 && dec (dbP (dbS (begR l)).1)))]) [] := by
  have hr0 : (begR l).text.length ≤ 20000 := hl
  have hsm := dbS_small (r := begR l) hl
  have c1 := specMany (begR l) hr0 8
  have hr := manyS_range (begR l) (most := 8) (by decide)
  have t1 : (specManyR (begR l) 8).2.text.length ≤ 20000 := by rw [(same_many 8).textS]; exact hr0
  have e0 : dbS (begR l) = ([] ++ (listR tabS (specManyR (begR l) 8).1.toNat (specManyR (begR l) 8).2).1, (listR tabS (specManyR (begR l) 8).1.toNat (specManyR (begR l) 8).2).2) := rfl
  generalize dbS (begR l) = W at *
  generalize specManyR (begR l) 8 = q at *
  refine ent_of tok mixed (f := 59) Tryz.func59 (by kernel_rfl) (keep := false) ?_
  repeat' ((conv => whnf) <;> (first
    | ((with_reducible refine isCall ?_) <;> (first
        | (refine ⟨_, c1, ?_⟩; rintro _ _ ⟨rfl, rfl⟩)
        | (refine ⟨_, c7, ?_⟩; rintro _ _ ⟨rfl, rfl⟩)
        | (refine ⟨_, c8, ?_⟩; rintro _ _ ⟨rfl, rfl⟩)
        | (refine ⟨_, specSchemaIn rd ht, ?_⟩; rintro _ _ ⟨rfl, rfl⟩)
        | (refine ⟨_, specMany (schS rd).2 (by rw [schS_text]; exact ht) 60, ?_⟩; rintro _ _ ⟨rfl, rfl⟩)
        | (refine ⟨_, specValues rd2 ht2, ?_⟩; rintro _ _ ⟨rfl, rfl⟩)
        | (refine absurd (none_of ?_) (Nat.ne_of_gt hj0); assumption)
        | (refine ⟨⟨by decide, rfl, rfl, ten_room hrs (by decide) _ (by decide)⟩, ?_⟩)
        | (refine ⟨⟨by decide, rfl, rfl, ten_room hss (by decide) _ (by decide)⟩, ?_⟩)
        | fail))
    | ((with_reducible refine isLoop ?_) <;> (first
        | (refine ⟨[2, 4, 5, 6, 7, 8], [10002, 10005, 10007, 10011, 10039, .cell 10033 1 false 10007 4], fun st => ∃ (j2 : Nat) (n : Int) (rs : List (List Val)) (rd2 : Rd) (xs : List D), n = j2 ∧ rd2.text.length ≤ 20000 ∧ rs.length + j2 ≤ 60 ∧ timesR (specManyR · 60) valsS (schS rd).2 = (rs ++ (listR valsS j2 rd2).1, (listR valsS j2 rd2).2) ∧ xs = rs.map rowD ∧ st = ⟨[(2, .ptr 10002 0), (4, .ptr 10011 0), (5, .ptr 10005 0), (6, .d (.i .i64 j)), (7, .ptr 10007 0), (8, .d (.i .i64 n))], [(10002, .var [.snil]), (10005, .var [.own 10039]), (10007, .var [.d (.s (schS rd).1.name), .d (.sl false ((schS rd).1.cols.map colD)), .d (.sl false ((schS rd).1.keys.map i64D)), .d (.sl false ((schS rd).1.idxs.map idxD)), .own 10033]), (10011, .var (rdC rd2)), (10039, .arr 5 true (ss.map tab1)), (10033, .arr 1 false xs)]⟩, fun st => match look 8 st.env with | some (.d (.i _ n)) => n.toNat | _ => 0, rfl, ⟨(specManyR (schS rd).2 60).1.toNat, _, [], (specManyR (schS rd).2 60).2, [], (Int.toNat_of_nonneg (manyS_range (schS rd).2 (most := 60) (by decide)).1).symm, (by rw [(same_many 60).textS, schS_text]; exact ht), (by have := (manyS_range (schS rd).2 (most := 60) (by decide)).2; show 0 + _ ≤ 60; omega), rfl, rfl, rfl⟩, ?_⟩; rintro st ⟨j2, n, rs, rd2, xs, rfl, ht2, hrs, hi, rfl, rfl⟩)
        | (refine ⟨[2, 4, 5, 6], [10002, 10005, 10011, .cell 10039 5 true 10005 0], fun st => ∃ (j : Nat) (n : Int) (ss : List Tab) (rd : Rd) (xs : List D), n = j ∧ rd.text.length ≤ 20000 ∧ ss.length + j ≤ 8 ∧ W = (ss ++ (listR tabS j rd).1, (listR tabS j rd).2) ∧ xs = ss.map tab1 ∧ st = ⟨[(2, .ptr 10002 0), (4, .ptr 10011 0), (5, .ptr 10005 0), (6, .d (.i .i64 n))], [(10002, .var [.snil]), (10005, .var [.own 10039]), (10011, .var (rdC rd)), (10039, .arr 5 true xs)]⟩, fun st => match look 6 st.env with | some (.d (.i _ n)) => n.toNat | _ => 0, rfl, ⟨_, _, [], _, [], (Int.toNat_of_nonneg hr.1).symm, t1, (by show 0 + _ ≤ 8; omega), e0, rfl, rfl⟩, ?_⟩; rintro st ⟨j, n, ss, rd, xs, rfl, ht, hss, ho, rfl, rfl⟩; rcases Nat.eq_zero_or_pos j with rfl | hj0; (have c7 := specDone rd; have hw := list_end ho rfl; have ew : W.1.map tabD = eraseL (ss.map tab1) := (by rw [hw, erase_tab1]); obtain ⟨u7, hu7⟩ : ∃ u, u = overR rd := ⟨_, rfl⟩; rw [← hu7] at c7; have c8 := specDbRight ss (by omega) (by rw [hw] at hsm; exact fun t ht => (hsm.2 t ht).fit); rw [← erase_tab1] at c8; cases u7))
        | (refine absurd (none_of ?_) (Nat.ne_of_gt hj0); assumption)
        | (refine ⟨⟨by decide, rfl, rfl, ten_room hrs (by decide) _ (by decide)⟩, ?_⟩)
        | (refine ⟨⟨by decide, rfl, rfl, ten_room hss (by decide) _ (by decide)⟩, ?_⟩)
        | fail))
    | ((with_reducible refine isCut ?_) <;> (first
        | refine ⟨⟨none⟩, ?_⟩))
    | ((first | with_reducible refine isEx ?_ | with_reducible refine isAnd ?_ | with_reducible refine isOr ?_) <;> (first
        | (refine absurd (none_of ?_) (Nat.ne_of_gt hj0); assumption)
        | (refine ⟨⟨by decide, rfl, rfl, ten_room hrs (by decide) _ (by decide)⟩, ?_⟩)
        | (refine ⟨⟨by decide, rfl, rfl, ten_room hss (by decide) _ (by decide)⟩, ?_⟩)
        | ((with_reducible refine isSmall ?_) <;> (refine ⟨?_, ?_⟩; kernel_rfl))
        | refine ⟨rfl, ?_⟩
        | refine ⟨Int.natCast_nonneg _, ?_⟩))
    | with_reducible refine Both.mk ?_ ?_
    | rintro _ rfl
    | exact rfl
    | (split <;> (rename_i h; first | (simp only [beq_self_eq_true, eq_self, decide_true, Bool.not_true, Bool.false_eq_true] at h; done) | (try rw [h])))))
  all_goals (conv => whnf)
  all_goals first
    | (have hj := pos_of (by assumption : decide ((j2 : Int) > 0) = true)
       refine ⟨⟨j2 - 1, _, rs ++ [(valsS rd2).1], (valsS rd2).2, _, down1 hj (by omega), (by rw [valsS_text]; exact ht2), ?_, list_step hi hj, ?_, rfl⟩, mu_down hj (by omega)⟩
       · simp only [List.length_append, List.length_cons, List.length_nil]; omega
       · rw [List.map_append]; rfl)
    | (have hj := pos_of (by assumption : decide ((j : Int) > 0) = true)
       have e1 : tabS rd = (⟨(schS rd).1, rs⟩, rd2) := by
         show ((⟨(schS rd).1, (timesR (specManyR · 60) valsS (schS rd).2).1⟩ : Tab), (timesR (specManyR · 60) valsS (schS rd).2).2) = _
         rw [list_end hi (none_of (by assumption))]
       have hls := list_step ho hj
       rw [e1] at hls
       refine ⟨⟨j - 1, _, ss ++ [⟨(schS rd).1, rs⟩], rd2, _, down1 hj (by omega), ht2, ?_, hls, ?_, rfl⟩, mu_down hj (by omega)⟩
       · simp only [List.length_append, List.length_cons, List.length_nil]; omega
       · rw [List.map_append]; rfl)
    | (rw [ew, hw, ← hu7]; exact ⟨rfl, rfl⟩)
    | trace_state
structure DbOut where
  tabs : List Tab
  code : Int
noncomputable def dbOutM (l : List UInt8) : DbOut := sel (decide (l.length ≤ 20000)) (sel (dbOk l) ⟨(dbI (begR l)).1, 0⟩ ⟨[], 3⟩) ⟨[], 2⟩
def dbOutD (o : DbOut) : D := .agg [.sl false (o.tabs.map tabD), .i .i64 0, .i .i64 o.code]
theorem dbOut_small (l : List UInt8) : (dbOutM l).tabs.length ≤ 8 ∧ ∀ t, t ∈ (dbOutM l).tabs → t.small := by
  unfold dbOutM
  by_cases h : l.length ≤ 20000
  · rw [decide_eq_true h]
    cases dbOk l with
    | true => exact dbI_small (r := begR l) h
    | false => exact ⟨Nat.zero_le _, fun o ho => by cases ho⟩
  · rw [decide_eq_false h]; exact ⟨Nat.zero_le _, fun o ho => by cases ho⟩
theorem specDbRead (l : List UInt8) : Ent Tryz.prog 18 [.d (.s l)] [] (.d (dbOutD (dbOutM l))) [] := by
  by_cases h : l.length ≤ 20000
  · have c1 := specDb l h
    obtain ⟨h1, h2⟩ := db_same l
    rw [h1] at c1
    rw [dbOutM, decide_eq_true h]
    generalize dbOk l = ok at *
    cases ok with
    | false =>
      generalize dbS (begR l) = a at *
      generalize dbI (begR l) = b at *
      refine ent_of tok mixed (f := 18) Tryz.func18 (by kernel_rfl) (keep := false) ?_
      repeat' ((conv => whnf) <;> (first
        | ((with_reducible refine isCall ?_) <;> (first
            | (refine ⟨_, c1, ?_⟩; rintro _ _ ⟨rfl, rfl⟩)
            | fail))
        | ((with_reducible refine isLoop ?_) <;> (first
            | fail))
        | ((with_reducible refine isCut ?_) <;> (first
            | refine ⟨⟨none⟩, ?_⟩))
        | ((first | with_reducible refine isEx ?_ | with_reducible refine isAnd ?_ | with_reducible refine isOr ?_) <;> (first
            | ((with_reducible refine isSmall ?_) <;> (refine ⟨?_, ?_⟩; kernel_rfl))
            | refine ⟨rfl, ?_⟩
            | refine ⟨Int.natCast_nonneg _, ?_⟩))
        | with_reducible refine Both.mk ?_ ?_
        | (exfalso; have := of_decide_eq_true h; omega)
        | rintro _ rfl
        | exact rfl
        | (split <;> (rename_i h; first | (simp only [beq_self_eq_true, eq_self, decide_true, Bool.not_true, Bool.false_eq_true] at h; done) | (try rw [h])))))
    | true =>
      have h2 := h2 rfl
      rw [h2] at c1
      generalize dbI (begR l) = b at *
      refine ent_of tok mixed (f := 18) Tryz.func18 (by kernel_rfl) (keep := false) ?_
      repeat' ((conv => whnf) <;> (first
        | ((with_reducible refine isCall ?_) <;> (first
            | (refine ⟨_, c1, ?_⟩; rintro _ _ ⟨rfl, rfl⟩)
            | fail))
        | ((with_reducible refine isLoop ?_) <;> (first
            | fail))
        | ((with_reducible refine isCut ?_) <;> (first
            | refine ⟨⟨none⟩, ?_⟩))
        | ((first | with_reducible refine isEx ?_ | with_reducible refine isAnd ?_ | with_reducible refine isOr ?_) <;> (first
            | ((with_reducible refine isSmall ?_) <;> (refine ⟨?_, ?_⟩; kernel_rfl))
            | refine ⟨rfl, ?_⟩
            | refine ⟨Int.natCast_nonneg _, ?_⟩))
        | with_reducible refine Both.mk ?_ ?_
        | (exfalso; have := of_decide_eq_true h; omega)
        | rintro _ rfl
        | exact rfl
        | (split <;> (rename_i h; first | (simp only [beq_self_eq_true, eq_self, decide_true, Bool.not_true, Bool.false_eq_true] at h; done) | (try rw [h])))))
  · rw [dbOutM, decide_eq_false h]
    have hb : decide ((l.length : Int) > 20000) = true := decide_eq_true (by omega)
    refine ent_of tok mixed (f := 18) Tryz.func18 (by kernel_rfl) (keep := false) ?_
    repeat' ((conv => whnf) <;> (first
      | ((with_reducible refine isCall ?_) <;> (first
          | fail))
      | ((with_reducible refine isLoop ?_) <;> (first
          | fail))
      | ((with_reducible refine isCut ?_) <;> (first
          | refine ⟨⟨none⟩, ?_⟩))
      | ((first | with_reducible refine isEx ?_ | with_reducible refine isAnd ?_ | with_reducible refine isOr ?_) <;> (first
          | ((with_reducible refine isSmall ?_) <;> (refine ⟨?_, ?_⟩; kernel_rfl))
          | refine ⟨rfl, ?_⟩
          | refine ⟨Int.natCast_nonneg _, ?_⟩))
      | with_reducible refine Both.mk ?_ ?_
      | (exfalso; rw [hb] at *; contradiction)
      | rintro _ rfl
      | exact rfl
      | (split <;> (rename_i h; first | (simp only [beq_self_eq_true, eq_self, decide_true, Bool.not_true, Bool.false_eq_true] at h; done) | (try rw [h])))))
end Go.Pm.Tryz
