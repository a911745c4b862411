import Derived.Test.YtlihmioijkichaaCp
namespace Go.Pm.Try
open Go Go.Proofs
set_option linter.unusedVariables false
set_option linter.unusedSimpArgs false
set_option maxRecDepth 100000
structure SchOut where
  s : Schema
  code : Int
def noSch : Schema := ⟨[], [], [], []⟩
noncomputable def schOutM (l : List UInt8) : SchOut := sel (decide (l.length ≤ 20000)) (sel (schOkI l) ⟨(schR implRs (begR l)).1, 0⟩ ⟨noSch, 3⟩) ⟨noSch, 2⟩
def schOutD (o : SchOut) : D := .agg [.s o.s.name, .sl false (o.s.cols.map colD), .sl false (o.s.keys.map i64D), .sl false (o.s.idxs.map idxD), .i .i64 o.code]
def schOutK (o : SchOut) : AV := .agg [.d (.s o.s.name), .own 0, .own 1, .own 2, .d (.i .i64 o.code)]
def schOutO (o : SchOut) : List Ob := [.arr 3 false (o.s.cols.map colD), .arr 1 false (o.s.keys.map i64D), .arr 2 true (o.s.idxs.map idxO)]
theorem sch_same (l : List UInt8) : overR (schR specRs (begR l)).2 = overR (schR implRs (begR l)).2 ∧ (overR (schR implRs (begR l)).2 = true → (schR specRs (begR l)).1 = (schR implRs (begR l)).1) := by
  have h := same_sch.like (like_beg l)
  have e := over_like h.rd
  exact ⟨e, fun ho => h.val (over_good (e.trans ho))⟩
theorem specSchemaRead (l : List UInt8) : Ent Try.prog 6 [.d (.s l)] [] (.d (schOutD (schOutM l))) [] := by
  by_cases h : l.length ≤ 20000
  · have c1 := specSchema (begR l) h
    have c2 := specDone (schR specRs (begR l)).2
    obtain ⟨h1, h2⟩ := sch_same l
    rw [schOutM, decide_eq_true h, schOkI]
    rw [h1] at c2
    have c3 : overR (schR implRs (begR l)).2 = true → Ent Try.prog 27 [.d (schemaD (schR specRs (begR l)).1)] [] (.d (.b (dec (schemaP (schR implRs (begR l)).1)))) [] := fun ho => by rw [h2 ho]; exact specSchemaRight _ (schI_fits h)
    generalize schR specRs (begR l) = a at *
    generalize schR implRs (begR l) = b at *
    cases ho : overR b.2 with
    | false =>
      rw [ho] at c2
      refine ent_of tok mixed (f := 6) Try.func6 (by kernel_rfl) (keep := false) ?_
      repeat' ((conv => whnf) <;> (first
        | ((with_reducible refine isCall ?_) <;> (first
            | (refine ⟨_, c1, ?_⟩; rintro _ _ ⟨rfl, rfl⟩)
            | (refine ⟨_, c2, ?_⟩; rintro _ _ ⟨rfl, rfl⟩)
            | fail))
        | ((with_reducible refine isLoop ?_) <;> (first
            | fail))
        | ((with_reducible refine isCut ?_) <;> (first
            | refine ⟨⟨none⟩, ?_⟩))
        | ((first | with_reducible refine isEx ?_ | with_reducible refine isAnd ?_ | with_reducible refine isOr ?_) <;> (first
            | refine ⟨rfl, ?_⟩
            | refine ⟨Int.natCast_nonneg _, ?_⟩))
        | with_reducible refine Both.mk ?_ ?_
        | (exfalso; have := of_decide_eq_true h; omega)
        | rintro _ rfl
        | exact rfl
        | (split <;> (rename_i h; first | (simp only [beq_self_eq_true, eq_self, decide_true, Bool.not_true, Bool.false_eq_true] at h; done) | (try rw [h])))))
    | true =>
      have c3 := c3 ho
      have h2 := h2 ho
      rw [ho] at c2
      cases hd : dec (schemaP b.1)
      all_goals
        rw [hd] at c3
        refine ent_of tok mixed (f := 6) Try.func6 (by kernel_rfl) (keep := false) ?_
        repeat' ((conv => whnf) <;> (first
          | ((with_reducible refine isCall ?_) <;> (first
              | (refine ⟨_, c1, ?_⟩; rintro _ _ ⟨rfl, rfl⟩)
              | (refine ⟨_, c2, ?_⟩; rintro _ _ ⟨rfl, rfl⟩)
              | (refine ⟨_, c3, ?_⟩; rintro _ _ ⟨rfl, rfl⟩)
              | fail))
          | ((with_reducible refine isLoop ?_) <;> (first
              | fail))
          | ((with_reducible refine isCut ?_) <;> (first
              | refine ⟨⟨none⟩, ?_⟩))
          | ((first | with_reducible refine isEx ?_ | with_reducible refine isAnd ?_ | with_reducible refine isOr ?_) <;> (first
              | refine ⟨rfl, ?_⟩
              | refine ⟨Int.natCast_nonneg _, ?_⟩))
          | with_reducible refine Both.mk ?_ ?_
          | (exfalso; have := of_decide_eq_true h; omega)
          | rintro _ rfl
          | exact rfl
          | (split <;> (rename_i h; first | (simp only [beq_self_eq_true, eq_self, decide_true, Bool.not_true, Bool.false_eq_true] at h; done) | (try rw [h])))))
      all_goals (conv => whnf)
      all_goals (rw [h2]; exact ⟨rfl, rfl⟩)
  · rw [schOutM, decide_eq_false h]
    have hb : decide ((l.length : Int) > 20000) = true := decide_eq_true (by omega)
    refine ent_of tok mixed (f := 6) Try.func6 (by kernel_rfl) (keep := false) ?_
    repeat' ((conv => whnf) <;> (first
      | ((with_reducible refine isCall ?_) <;> (first
          | fail))
      | ((with_reducible refine isLoop ?_) <;> (first
          | fail))
      | ((with_reducible refine isCut ?_) <;> (first
          | refine ⟨⟨none⟩, ?_⟩))
      | ((first | with_reducible refine isEx ?_ | with_reducible refine isAnd ?_ | with_reducible refine isOr ?_) <;> (first
          | refine ⟨rfl, ?_⟩
          | refine ⟨Int.natCast_nonneg _, ?_⟩))
      | with_reducible refine Both.mk ?_ ?_
      | (exfalso; rw [hb] at *; contradiction)
      | rintro _ rfl
      | exact rfl
      | (split <;> (rename_i h; first | (simp only [beq_self_eq_true, eq_self, decide_true, Bool.not_true, Bool.false_eq_true] at h; done) | (try rw [h])))))
theorem longs1 (l : List UInt8) : longs [l] = !decide (l.length ≤ 20000) := by
  simp only [longs, List.any_cons, List.any_nil, Bool.or_false]
  by_cases h : l.length ≤ 20000
  · rw [decide_eq_true h]; exact decide_eq_false (by omega)
  · rw [decide_eq_false h]; exact decide_eq_true (by omega)
set_option maxHeartbeats 1000000 in
theorem implSchemaReadOut (l : List UInt8) : Ent Try.prog 7 [.d (.s l)] [] (schOutK (schOutM l)) (schOutO (schOutM l)) := by
  have c0 := isLong [l] (Nat.le_of_ble_eq_true rfl)
  rw [longs1] at c0
  by_cases h : l.length ≤ 20000
  · have c1 := implSchemaRead l h
    rw [schOutM, decide_eq_true h]
    rw [decide_eq_true h] at c0
    generalize (schR implRs (begR l)).1 = b at *
    generalize schOkI l = ok at *
    refine ent_ofN (cx := ⟨tab, [], []⟩) tok mixed (f := 7) Try.func7 (by kernel_rfl) (keep := true) (nm := [.cell 20002 3 false 10002 1, .cell 30002 1 false 10002 2, .cell 40002 2 true 10002 3]) ?_
    cases ok
    all_goals
      repeat' ((conv => whnf) <;> (first
        | ((with_reducible refine isCall ?_) <;> (first
            | (refine ⟨_, c0, ?_⟩; rintro _ _ ⟨rfl, rfl⟩)
            | (refine ⟨_, c1, ?_⟩; rintro _ _ ⟨rfl, rfl⟩)
            | fail))
        | ((with_reducible refine isLoop ?_) <;> (first
            | fail))
        | ((with_reducible refine isCut ?_) <;> (first
            | refine ⟨⟨none⟩, ?_⟩))
        | ((first | with_reducible refine isEx ?_ | with_reducible refine isAnd ?_ | with_reducible refine isOr ?_) <;> (first
            | refine ⟨rfl, ?_⟩
            | refine ⟨Int.natCast_nonneg _, ?_⟩))
        | with_reducible refine Both.mk ?_ ?_
        | rintro _ rfl
        | exact rfl
        | (split <;> (rename_i h; first | (simp only [beq_self_eq_true, eq_self, decide_true, Bool.not_true, Bool.false_eq_true] at h; done) | (try rw [h])))))
    all_goals (conv => whnf)
    all_goals trace_state
  · rw [schOutM, decide_eq_false h]
    rw [decide_eq_false h] at c0
    refine ent_ofN (cx := ⟨tab, [], []⟩) tok mixed (f := 7) Try.func7 (by kernel_rfl) (keep := true) (nm := [.cell 20002 3 false 10002 1, .cell 30002 1 false 10002 2, .cell 40002 2 true 10002 3]) ?_
    repeat' ((conv => whnf) <;> (first
      | ((with_reducible refine isCall ?_) <;> (first
          | (refine ⟨_, c0, ?_⟩; rintro _ _ ⟨rfl, rfl⟩)
          | fail))
      | ((with_reducible refine isLoop ?_) <;> (first
          | fail))
      | ((with_reducible refine isCut ?_) <;> (first
          | refine ⟨⟨none⟩, ?_⟩))
      | ((first | with_reducible refine isEx ?_ | with_reducible refine isAnd ?_ | with_reducible refine isOr ?_) <;> (first
          | refine ⟨rfl, ?_⟩
          | refine ⟨Int.natCast_nonneg _, ?_⟩))
      | with_reducible refine Both.mk ?_ ?_
      | rintro _ rfl
      | exact rfl
      | (split <;> (rename_i h; first | (simp only [beq_self_eq_true, eq_self, decide_true, Bool.not_true, Bool.false_eq_true] at h; done) | (try rw [h])))))
    all_goals trace_state
end Go.Pm.Try
/-
The law of SchemaRead.
-/
namespace Go.Pm.Try
open Go Go.Proofs
set_option linter.unusedVariables false
set_option linter.unusedSimpArgs false
set_option maxRecDepth 100000
structure Schema.small (s : Schema) : Prop where
  name : s.name.length ≤ maxLen
  cols : s.cols.length ≤ 10
  keys : s.keys.length ≤ 10
  idxs : s.idxs.length ≤ 4
  lists : ∀ i, i ∈ s.idxs → i.cols.length ≤ 10
theorem schI_small {r : Rd} (hl : r.text.length ≤ 20000) : (schR implRs r).1.small := by
  have hm := fun (r' : Rd) => manyI_range r' (most := 10) (by decide)
  have hm4 := fun (r' : Rd) => manyI_range r' (most := 4) (by decide)
  have hlist : ∀ r' : Rd, (implListR 10 r').1.length ≤ 10 := fun r' => by rw [listI_len]; have := hm r'; omega
  refine ⟨(schI_fits hl).name, ?_, hlist _, ?_, ?_⟩
  · show (timesR (implManyR · 10) (colR implRs) (implWordR r).2).1.length ≤ 10
    rw [timesR, list_len]; have := hm (implWordR r).2; show (implManyR (implWordR r).2 10).1.toNat ≤ 10; omega
  · show (timesR (implManyR · 4) (idxR implRs) _).1.length ≤ 4
    rw [timesR, list_len]; have := hm4 (implListR 10 (timesR (implManyR · 10) (colR implRs) (implWordR r).2).2).2; show (implManyR (implListR 10 (timesR (implManyR · 10) (colR implRs) (implWordR r).2).2).2 4).1.toNat ≤ 4; omega
  · intro i hi
    obtain ⟨r', h1, rfl⟩ := list_mem same_idx.textI hi
    exact hlist r'
theorem noSch_small : noSch.small := ⟨Nat.zero_le _, Nat.zero_le _, Nat.zero_le _, Nat.zero_le _, fun i hi => by cases hi⟩
theorem schOut_small (l : List UInt8) : (schOutM l).s.small := by
  unfold schOutM
  by_cases h : l.length ≤ 20000
  · rw [decide_eq_true h]
    cases schOkI l with
    | true => exact schI_small h
    | false => exact noSch_small
  · rw [decide_eq_false h]; exact noSch_small
theorem cnt_cols : ∀ cs : List Col, cntL (cs.map colD) = 3 * cs.length
  | [] => rfl
  | c :: cs => by simp only [List.map_cons, cntL, colD, cntD, cnt_cols cs, List.length_cons]; omega
theorem cnt_ints : ∀ cs : List Int, cntL (cs.map i64D) = cs.length
  | [] => rfl
  | c :: cs => by simp only [List.map_cons, cntL, i64D, cntD]; rw [cnt_ints cs, List.length_cons]; omega
theorem cnt_idx : ∀ is : List Idx, (∀ i, i ∈ is → i.cols.length ≤ 10) → cntL (is.map idxO) ≤ 11 * is.length
  | [], _ => Nat.le_refl _
  | i :: is, h => by
    have h1 := h i (List.mem_cons_self ..)
    have h2 := cnt_idx is fun j hj => h j (List.mem_cons_of_mem _ hj)
    simp only [List.map_cons, cntL, idxO, cntD, cnt_ints, List.length_cons] at *
    omega
theorem le_max {n : Nat} (h : n ≤ 1000000) : n ≤ maxLen := Nat.le_trans h (Nat.le_of_ble_eq_true rfl)
theorem own_cols {cs : List Col} (h : cs.length ≤ 1000000) : AllOf ownColumn (cs.map colD) := ⟨by rw [List.length_map]; exact le_max h, fun x hx => by obtain ⟨c, _, rfl⟩ := List.mem_map.1 hx; exact ⟨_, _, _, rfl⟩⟩
theorem own_ints {cs : List Int} (h : cs.length ≤ 1000000) : AllOf ownInt64 (cs.map i64D) := ⟨by rw [List.length_map]; exact le_max h, fun x hx => by obtain ⟨c, _, rfl⟩ := List.mem_map.1 hx; exact ⟨_, rfl⟩⟩
theorem own_idx {is : List Idx} (h : is.length ≤ 1000000) (h2 : ∀ i, i ∈ is → i.cols.length ≤ 1000000) : AllOf ownIndex (is.map idxO) := ⟨by rw [List.length_map]; exact le_max h, fun x hx => by obtain ⟨c, hc, rfl⟩ := List.mem_map.1 hx; exact ⟨_, _, rfl, own_ints (h2 c hc)⟩⟩
theorem loose_cols : ∀ cs : List Col, looseL (cs.map colD) = true
  | [] => rfl
  | c :: cs => loose_cols cs
theorem loose_ints : ∀ cs : List Int, looseL (cs.map i64D) = true
  | [] => rfl
  | c :: cs => loose_ints cs
theorem loose_idx : ∀ cs : List Idx, looseL (cs.map idxO) = true
  | [] => rfl
  | c :: cs => by
    show looseL (idxO c :: cs.map idxO) = true
    simp only [looseL, idxO, D.loose, loose_ints]
    exact loose_idx cs
theorem fine_next {xs : List D} {n : Int} (h : Fine xs n) {ys : List D} (hs : n + cntL xs + cntL ys ≤ 1000000000000000) : Fine ys (ctL xs n) := by
  have := h.lo
  rw [ctL_eq xs h.lo h.hi]
  exact ⟨by omega, by omega⟩
set_option maxHeartbeats 4000000 in
theorem schemaReadLaw (l : List UInt8) : Ent Try.prog 3 [.d (.s l)] [] (.d (.b true)) [] := by
  have hs := schOut_small l
  have c1 := specSchemaRead l
  have c2 := implSchemaReadOut l
  generalize schOutM l = o at *
  have n1 := cnt_cols o.s.cols
  have n2 := cnt_ints o.s.keys
  have n3 := cnt_idx o.s.idxs hs.lists
  have s1 := hs.cols
  have s2 := hs.keys
  have s3 := hs.idxs
  have h1 : AllOf ownColumn (o.s.cols.map colD) := own_cols (by omega)
  have h2 : AllOf ownInt64 (o.s.keys.map i64D) := own_ints (by omega)
  have h3 : AllOf ownIndex (o.s.idxs.map idxO) := own_idx (by omega) fun i hi => Nat.le_trans (hs.lists i hi) (by decide)
  have h3e : AllOf isIndex (o.s.idxs.map idxD) := by rw [← erase_idx]; exact h3.erase fun _ => eraseIndex
  have f1 : Fine (o.s.cols.map colD) 1 := ⟨by decide, by omega⟩
  have f2 : Fine (o.s.keys.map i64D) (ctL (o.s.cols.map colD) 1) := fine_next f1 (by omega)
  have f3 : Fine (o.s.idxs.map idxO) (ctL (o.s.keys.map i64D) (ctL (o.s.cols.map colD) 1)) := fine_next f2 (by rw [ctL_eq _ f1.lo f1.hi]; omega)
  have e3 := erase_mkL (o.s.idxs.map idxO) (ctL (o.s.keys.map i64D) (ctL (o.s.cols.map colD) 1))
  have f3e : Fine (o.s.idxs.map idxD) (ctL (o.s.keys.map i64D) (ctL (o.s.cols.map colD) 1)) := by
    refine fine_next f2 ?_
    have : cntL (o.s.idxs.map idxD) = cntL (o.s.idxs.map idxO) := by
      have q1 := ctL_eq (o.s.idxs.map idxO) (n := 0) (by decide) (by omega)
      clear q1
      generalize o.s.idxs = is
      induction is with
      | nil => rfl
      | cons i is ih => simp only [List.map_cons, cntL, idxO, idxD, cntD, ih]
    rw [this, ctL_eq _ f1.lo f1.hi]; omega
  have c3 : Ent Try.prog 8 [.d (.agg [.s o.s.name, .sl false (o.s.cols.map colD), .sl false (o.s.keys.map i64D), .sl false (eraseL (o.s.idxs.map idxO)), .i .i64 o.code]), .d (schOutD o)] [] (.d (.b true)) [] := by
    rw [erase_idx]; exact eqSchemaOut _ ⟨_, _, _, _, _, rfl, h1, h2, h3e⟩
  have c4 := markSchemaOut o.s.name _ _ _ o.code h1 h2 h3 1 (by decide)
  have c5 := heldSchemaOut o.s.name _ _ _ o.code h1 h2 h3e 1 f1 f2 f3e
  rw [← erase_idx, ← e3.1, e3.2] at c5
  have hq := f3.out
  generalize ctL (o.s.idxs.map idxO) (ctL (o.s.keys.map i64D) (ctL (o.s.cols.map colD) 1)) = q at *
  have hpos : ¬ q < 0 := by omega
  refine ent_of (cx := ⟨tab, [9], []⟩) tok mixed (f := 3) Try.func3 (by kernel_rfl) (keep := false) ?_
  repeat' ((conv => whnf) <;> (first
    | ((with_reducible refine isCall ?_) <;> (first
        | (refine ⟨_, c1, ?_⟩; rintro _ _ ⟨rfl, rfl⟩)
        | (refine ⟨_, c2, ?_⟩; rintro _ _ ⟨rfl, rfl⟩)
        | (refine ⟨_, c3, ?_⟩; rintro _ _ ⟨rfl, rfl⟩)
        | (refine ⟨_, c4, ?_⟩; rintro _ _ ⟨rfl, rfl⟩)
        | (refine ⟨_, c5, ?_⟩; rintro _ _ ⟨rfl, rfl⟩)
        | fail))
    | ((with_reducible refine isLoop ?_) <;> (first
        | fail))
    | ((with_reducible refine isCut ?_) <;> (first
        | refine ⟨⟨none⟩, ?_⟩))
    | ((first | with_reducible refine isEx ?_ | with_reducible refine isAnd ?_ | with_reducible refine isOr ?_) <;> (first
        | refine ⟨rfl, ?_⟩
        | refine ⟨Int.natCast_nonneg _, ?_⟩))
    | with_reducible refine Both.mk ?_ ?_
    | (exfalso; exact absurd (of_decide_eq_true (by assumption)) hpos)
    | rintro _ rfl
    | exact rfl
    | (split <;> (rename_i h; first | (simp only [beq_self_eq_true, eq_self, decide_true, Bool.not_true, Bool.false_eq_true] at h; done) | (try rw [h])))))
  all_goals (conv => whnf)
  all_goals trace_state
end Go.Pm.Try
