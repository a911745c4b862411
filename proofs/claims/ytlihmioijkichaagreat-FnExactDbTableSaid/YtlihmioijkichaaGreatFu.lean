/-
The laws' helpers for data of these types (printed by fam.py).
-/
import Derived.Test.YtlihmioijkichaaGreatTi
namespace Go.Pm.Tryz
open Go Go.Proofs
set_option linter.unusedVariables false
set_option linter.unusedSimpArgs false
set_option maxRecDepth 100000
set_option maxHeartbeats 4000000 in
theorem markTable (a0 : List UInt8) (a1 : List D) (a2 : List D) (a3 : List D) (a4 : List D) (h1 : AllOf ownColumn a1) (h2 : AllOf ownInt64 a2) (h3 : AllOf ownIndex a3) (h4 : AllOf ownValueS a4) (n : Int) (hn : n ≤ 9223372036854775807) : Ent Tryz.prog 16 [.agg [.d (.s a0), .own 0, .own 1, .own 2, .own 3], .d (.i .i64 n)] [.arr 3 false a1, .arr 1 false a2, .arr 2 true a3, .arr 1 true a4] (.d (.i .i64 (ctL a4 (ctL a3 (ctL a2 (ctL a1 n)))))) [.arr 3 false (mkL a1 n), .arr 1 false (mkL a2 (ctL a1 n)), .arr 2 true (mkL a3 (ctL a2 (ctL a1 n))), .arr 1 true (mkL a4 (ctL a3 (ctL a2 (ctL a1 n))))] := by
  refine ent_of (cx := ⟨tab, [55, 56], []⟩) tok mixed (f := 16) Tryz.func16 (by kernel_rfl) (keep := false) ?_
  repeat' ((conv => whnf) <;> (first
    | ((with_reducible refine isCall ?_) <;> (first
        | (refine ⟨_, markSchema a0 a1 a2 a3 h1 h2 h3 _ (by first | assumption | exact wrap_le _ | exact ctL_le _ (by first | assumption | exact wrap_le _ | exact ctL_le _ (by first | assumption | exact wrap_le _ | exact ctL_le _ (by first | assumption | exact wrap_le _ | exact ctL_le _ (by first | assumption | exact wrap_le _))))), ?_⟩; rintro _ _ ⟨rfl, rfl⟩)
        | (refine ⟨_, markValueSS a4 h4 _ (by first | assumption | exact wrap_le _ | exact ctL_le _ (by first | assumption | exact wrap_le _ | exact ctL_le _ (by first | assumption | exact wrap_le _ | exact ctL_le _ (by first | assumption | exact wrap_le _ | exact ctL_le _ (by first | assumption | exact wrap_le _))))), ?_⟩; rintro _ _ ⟨rfl, rfl⟩)
        | fail))
    | ((with_reducible refine isLoop ?_) <;> (first
        | fail))
    | ((with_reducible refine isCut ?_) <;> (first
        | refine ⟨⟨none⟩, ?_⟩))
    | ((first | with_reducible refine isEx ?_ | with_reducible refine isAnd ?_ | with_reducible refine isOr ?_) <;> (first
        | ((with_reducible refine isSmall ?_) <;> (refine ⟨?_, ?_⟩; kernel_rfl))
        | refine ⟨rfl, ?_⟩
        | refine ⟨Int.natCast_nonneg _, ?_⟩))
    | with_reducible refine Both.mk ?_ ?_
    | rintro _ rfl
    | exact rfl
    | (split <;> (rename_i h; first | (simp only [beq_self_eq_true, eq_self, decide_true, Bool.not_true, Bool.false_eq_true] at h; done) | (try rw [h])))))
set_option maxHeartbeats 4000000 in
theorem heldTable (a0 : List UInt8) (a1 : List D) (a2 : List D) (a3 : List D) (a4 : List D) (h1 : AllOf isColumn a1) (h2 : AllOf isInt64 a2) (h3 : AllOf isIndex a3) (h4 : AllOf isValueS a4) (n : Int) (f1 : Fine a1 n) (f2 : Fine a2 (ctL a1 n)) (f3 : Fine a3 (ctL a2 (ctL a1 n))) (f4 : Fine a4 (ctL a3 (ctL a2 (ctL a1 n)))) : Ent Tryz.prog 17 [.d (.agg [.s a0, .sl false (mkL a1 n), .sl false (mkL a2 (ctL a1 n)), .sl false (mkL a3 (ctL a2 (ctL a1 n))), .sl false (mkL a4 (ctL a3 (ctL a2 (ctL a1 n))))]), .d (.i .i64 n)] [] (.d (.i .i64 (ctL a4 (ctL a3 (ctL a2 (ctL a1 n)))))) [] := by
  have g1 : ¬ ctL a1 n < 0 := (by have := f1.out; omega)
  have g2 : ¬ ctL a2 (ctL a1 n) < 0 := (by have := f2.out; omega)
  have g3 : ¬ ctL a3 (ctL a2 (ctL a1 n)) < 0 := (by have := f3.out; omega)
  have g4 : ¬ ctL a4 (ctL a3 (ctL a2 (ctL a1 n))) < 0 := (by have := f4.out; omega)
  refine ent_of tok mixed (f := 17) Tryz.func17 (by kernel_rfl) (keep := false) ?_
  repeat' ((conv => whnf) <;> (first
    | ((with_reducible refine isCall ?_) <;> (first
        | (refine ⟨_, heldSchema a0 a1 a2 a3 h1 h2 h3 _ f1 f2 f3, ?_⟩; rintro _ _ ⟨rfl, rfl⟩)
        | (refine ⟨_, heldValueSS a4 h4 _ f4, ?_⟩; rintro _ _ ⟨rfl, rfl⟩)
        | fail))
    | ((with_reducible refine isLoop ?_) <;> (first
        | fail))
    | ((with_reducible refine isCut ?_) <;> (first
        | refine ⟨⟨none⟩, ?_⟩))
    | ((first | with_reducible refine isEx ?_ | with_reducible refine isAnd ?_ | with_reducible refine isOr ?_) <;> (first
        | ((with_reducible refine isSmall ?_) <;> (refine ⟨?_, ?_⟩; kernel_rfl))
        | refine ⟨rfl, ?_⟩
        | refine ⟨Int.natCast_nonneg _, ?_⟩))
    | with_reducible refine Both.mk ?_ ?_
    | (exfalso; exact absurd (of_decide_eq_true (by assumption)) g1)
    | (exfalso; exact absurd (of_decide_eq_true (by assumption)) g2)
    | (exfalso; exact absurd (of_decide_eq_true (by assumption)) g3)
    | (exfalso; exact absurd (of_decide_eq_true (by assumption)) g4)
    | rintro _ rfl
    | exact rfl
    | (split <;> (rename_i h; first | (simp only [beq_self_eq_true, eq_self, decide_true, Bool.not_true, Bool.false_eq_true] at h; done) | (try rw [h])))))
end Go.Pm.Tryz
/-
The program's DbTable returns what the reference's returns, for all arguments.
-/
namespace Go.Pm.Tryz
open Go Go.Proofs
set_option linter.unusedVariables false
set_option linter.unusedSimpArgs false
set_option maxRecDepth 100000
theorem fit_tab {t : Tab} (h : t.fit2) : t.fits := ⟨h.sch, h.rows, fun r hr => (h.row r hr).1⟩
theorem cnt_vals : ∀ vs : List Val, cntL (vs.map valD) = 3 * vs.length
  | [] => rfl
  | c :: cs => by simp only [List.map_cons, cntL, valD, cntD, cnt_vals cs, List.length_cons]; omega
theorem cnt_idx2 : ∀ is : List Idx, cntL (is.map idxO) ≤ 3 * wl wIdx is
  | [] => Nat.zero_le _
  | i :: is => by
    have h2 := cnt_idx2 is
    simp only [wl, wsum, List.map_cons, List.sum_cons, List.length_cons, cntL, idxO, cntD, cnt_ints, wIdx] at *
    omega
theorem cnt_rows2 : ∀ rs : List (List Val), cntL (rs.map rowO) ≤ 3 * wl wRow rs
  | [] => Nat.zero_le _
  | r :: rs => by
    have h2 := cnt_rows2 rs
    simp only [wl, wsum, List.map_cons, List.sum_cons, List.length_cons, cntL, rowO, cntD, cnt_vals, wRow] at *
    omega
theorem cnt_tabs2 : ∀ ts : List Tab, cntL (ts.map tabO) ≤ 3 * wl wTab ts
  | [] => Nat.zero_le _
  | t :: ts => by
    have h2 := cnt_tabs2 ts
    have n1 := cnt_cols t.sch.cols
    have n2 := cnt_ints t.sch.keys
    have n3 := cnt_idx2 t.sch.idxs
    have n4 := cnt_rows2 t.rows
    have e : wTab t = t.sch.cols.length + wsum wColumn t.sch.cols + t.sch.keys.length + wl wIdx t.sch.idxs + wl wRow t.rows := rfl
    have e2 : wl wTab (t :: ts) = wTab t + wl wTab ts + 1 := by simp only [wl, wsum, List.map_cons, List.sum_cons, List.length_cons]; omega
    simp only [List.map_cons, cntL, tabO, cntD]
    omega
theorem own_vals {cs : List Val} (h : cs.length ≤ 2000000) : AllOf ownValue (cs.map valD) := ⟨by rw [List.length_map]; exact le_max2 h, fun x hx => by obtain ⟨c, _, rfl⟩ := List.mem_map.1 hx; exact ⟨_, _, _, rfl⟩⟩
theorem own_cols2 {cs : List Col} (h : cs.length ≤ 2000000) : AllOf ownColumn (cs.map colD) := ⟨by rw [List.length_map]; exact le_max2 h, fun x hx => by obtain ⟨c, _, rfl⟩ := List.mem_map.1 hx; exact ⟨_, _, _, rfl⟩⟩
theorem own_ints2 {cs : List Int} (h : cs.length ≤ 2000000) : AllOf ownInt64 (cs.map i64D) := ⟨by rw [List.length_map]; exact le_max2 h, fun x hx => by obtain ⟨c, _, rfl⟩ := List.mem_map.1 hx; exact ⟨_, rfl⟩⟩
theorem own_idx2 {is : List Idx} (h : is.length ≤ 2000000) (h2 : ∀ i, i ∈ is → i.cols.length ≤ 2000000) : AllOf ownIndex (is.map idxO) := ⟨by rw [List.length_map]; exact le_max2 h, fun x hx => by obtain ⟨c, hc, rfl⟩ := List.mem_map.1 hx; exact ⟨_, _, rfl, own_ints2 (h2 c hc)⟩⟩
theorem own_rows {rs : List (List Val)} (h : rs.length ≤ 2000000) (h2 : ∀ r, r ∈ rs → r.length ≤ 2000000) : AllOf ownValueS (rs.map rowO) := ⟨by rw [List.length_map]; exact le_max2 h, fun x hx => by obtain ⟨c, hc, rfl⟩ := List.mem_map.1 hx; exact ⟨_, rfl, own_vals (h2 c hc)⟩⟩
theorem own_tabs2 {ts : List Tab} (h : ts.length ≤ 1048576) (h2 : ∀ t, t ∈ ts → szTab t) : AllOf ownTable (ts.map tabO) := ⟨by rw [List.length_map]; exact le_max2 (by omega), fun x hx => by
  obtain ⟨t, ht, rfl⟩ := List.mem_map.1 hx
  have hs := h2 t ht
  have s1 := hs.sch.cols
  have s2 := hs.sch.keys
  have s3 := hs.sch.idxs
  have s4 := hs.rows
  exact ⟨_, _, _, _, _, rfl, own_cols2 (by omega), own_ints2 (by omega), own_idx2 (by omega) (fun i hi => Nat.le_trans (hs.sch.lists i hi) (by decide)), own_rows (by omega) fun r hr => Nat.le_trans (hs.row r hr) (by decide)⟩⟩
theorem cnt_same : ∀ is : List Idx, cntL (is.map idxD) = cntL (is.map idxO)
  | [] => rfl
  | i :: is => by simp only [List.map_cons, cntL, idxO, idxD, cntD, cnt_same is]
theorem rows_same : ∀ rs : List (List Val), cntL (rs.map rowD) = cntL (rs.map rowO)
  | [] => rfl
  | i :: is => by simp only [List.map_cons, cntL, rowO, rowD, cntD, rows_same is]
theorem few_idx : ∀ {is : List Idx}, (∀ i, i ∈ is → i.cols.length ≤ 1000) → cntL (is.map idxO) ≤ 1001 * is.length
  | [], _ => Nat.le_refl _
  | i :: is, h => by
    have h1 := h i (List.mem_cons_self ..)
    have h2 := few_idx fun j hj => h j (List.mem_cons_of_mem _ hj)
    simp only [List.map_cons, cntL, idxO, cntD, cnt_ints, List.length_cons] at *
    omega
theorem few_rows : ∀ {rs : List (List Val)}, (∀ r, r ∈ rs → r.length ≤ 1000) → cntL (rs.map rowO) ≤ 3000 * rs.length
  | [], _ => Nat.le_refl _
  | r :: rs, h => by
    have h1 := h r (List.mem_cons_self ..)
    have h2 := few_rows fun j hj => h j (List.mem_cons_of_mem _ hj)
    simp only [List.map_cons, cntL, rowO, cntD, cnt_vals, List.length_cons] at *
    omega
theorem loose_vals : ∀ cs : List Val, looseL (cs.map valD) = true
  | [] => rfl
  | c :: cs => loose_vals cs
theorem loose_rows : ∀ cs : List (List Val), looseL (cs.map rowO) = true
  | [] => rfl
  | c :: cs => by
    show looseL (rowO c :: cs.map rowO) = true
    simp only [looseL, rowO, D.loose, loose_vals]
    exact loose_rows cs
theorem tab_no {t : Tab} (h : ((tabK t).loose && flatObs (tabObs t)) = false) : False := by
  have e : ((tabK t).loose && flatObs (tabObs t)) = true := by
    simp only [tabK, tabObs, AV.loose, looseV, AV.flat, D.flat, flatObs, loose_cols, loose_ints, loose_idx, loose_rows, Bool.and_self]
  rw [e] at h; cases h
set_option maxHeartbeats 8000000 in
theorem dbTableLaw (ts : List Tab) (hl : ts.length ≤ maxLen) (hf : ∀ t, t ∈ ts → t.fit2) (nm : List UInt8) : Ent Tryz.prog 3 [.d (dbArg ts), .d (.s nm)] [] (.d (.b true)) [] := by
  have c0 := szDb ts hl hf
  by_cases hw : wl wTab ts ≤ 1048576
  · obtain ⟨hz1, hz2⟩ := sz_tabs hw
    have hfe := dbTab_few ts nm
    have c1 := specDbTable ts (by omega) (fun t ht => fit_tab (hf t ht)) nm
    have c2 := implDbTable ts (by omega) (fun t ht => fit_tab (hf t ht)) nm
    have c3 := toDb ts hz1 hz2
    have o1 := own_tabs2 hz1 hz2
    have i1 : AllOf isTable (ts.map tabD) := by rw [← erase_tabs]; exact o1.erase fun _ => eraseTable
    have c4 : Ent Tryz.prog 14 [.d (dbArg ts), .d (dbArg ts)] [] (.d (.b true)) [] := eqDb _ ⟨_, rfl, i1⟩
    have c5 := markDb (ts.map tabO) o1 1 (by decide)
    have n1 := cnt_tabs2 ts
    have f0 : Fine (ts.map tabO) 1 := ⟨by decide, by omega⟩
    have hk := f0.out
    have hno := @tab_no (dbTabM ts nm)
    unfold dbArg at c1 c2 c4
    rw [← erase_tabs] at c1 c2 c4
    generalize dbTabM ts nm = o at *
    have q1 := hfe.sch.cols
    have q2 := hfe.sch.keys
    have q3 := hfe.sch.idxs
    have q4 := hfe.rows
    have h1 : AllOf ownColumn (o.sch.cols.map colD) := own_cols2 (by omega)
    have h2 : AllOf ownInt64 (o.sch.keys.map i64D) := own_ints2 (by omega)
    have h3 : AllOf ownIndex (o.sch.idxs.map idxO) := own_idx2 (by omega) fun i hi => by have := hfe.sch.lists i hi; omega
    have h4 : AllOf ownValueS (o.rows.map rowO) := own_rows (by omega) fun r hr => by have := hfe.row r hr; omega
    have h3e : AllOf isIndex (o.sch.idxs.map idxD) := by rw [← erase_idx]; exact h3.erase fun _ => eraseIndex
    have h4e : AllOf isValueS (o.rows.map rowD) := by rw [← erase_rows]; exact h4.erase fun _ => eraseValueS
    have m1 := cnt_cols o.sch.cols
    have m2 := cnt_ints o.sch.keys
    have m3 := few_idx hfe.sch.lists
    have m4 := few_rows hfe.row
    have f1 : Fine (o.sch.cols.map colD) 1 := ⟨by decide, by omega⟩
    have f2 : Fine (o.sch.keys.map i64D) (ctL (o.sch.cols.map colD) 1) := fine_next f1 (by omega)
    have v1 := ctL_eq _ f1.lo f1.hi
    have f3 : Fine (o.sch.idxs.map idxO) (ctL (o.sch.keys.map i64D) (ctL (o.sch.cols.map colD) 1)) := fine_next f2 (by omega)
    have v2 := ctL_eq _ f2.lo f2.hi
    have f4 : Fine (o.rows.map rowO) (ctL (o.sch.idxs.map idxO) (ctL (o.sch.keys.map i64D) (ctL (o.sch.cols.map colD) 1))) := fine_next f3 (by omega)
    have e3 := erase_mkL (o.sch.idxs.map idxO) (ctL (o.sch.keys.map i64D) (ctL (o.sch.cols.map colD) 1))
    have e4 := erase_mkL (o.rows.map rowO) (ctL (o.sch.idxs.map idxO) (ctL (o.sch.keys.map i64D) (ctL (o.sch.cols.map colD) 1)))
    have f3e : Fine (o.sch.idxs.map idxD) (ctL (o.sch.keys.map i64D) (ctL (o.sch.cols.map colD) 1)) := fine_next f2 (by rw [cnt_same]; omega)
    have e3c : ctL (o.sch.idxs.map idxD) (ctL (o.sch.keys.map i64D) (ctL (o.sch.cols.map colD) 1)) = ctL (o.sch.idxs.map idxO) (ctL (o.sch.keys.map i64D) (ctL (o.sch.cols.map colD) 1)) := by rw [← erase_idx]; exact e3.2
    have v3 := ctL_eq _ f3.lo f3.hi
    have f4e : Fine (o.rows.map rowD) (ctL (o.sch.idxs.map idxD) (ctL (o.sch.keys.map i64D) (ctL (o.sch.cols.map colD) 1))) := by
      rw [e3c]; exact fine_next f3 (by rw [rows_same]; omega)
    have c6 : Ent Tryz.prog 13 [.d (.agg [.s o.sch.name, .sl false (o.sch.cols.map colD), .sl false (o.sch.keys.map i64D), .sl false (eraseL (o.sch.idxs.map idxO)), .sl false (eraseL (o.rows.map rowO))]), .d (tabD o)] [] (.d (.b true)) [] := by
      rw [erase_idx, erase_rows]; exact eqTable _ ⟨_, _, _, _, _, rfl, h1, h2, h3e, h4e⟩
    have c7 := markTable o.sch.name _ _ _ _ h1 h2 h3 h4 1 (by decide)
    have c8 := heldTable o.sch.name _ _ _ _ h1 h2 h3e h4e 1 f1 f2 f3e f4e
    rw [e3c, ← erase_idx, ← erase_rows, ← e3.1, ← e4.1, e4.2] at c8
    have hq := f4.out
    generalize ctL (o.rows.map rowO) (ctL (o.sch.idxs.map idxO) (ctL (o.sch.keys.map i64D) (ctL (o.sch.cols.map colD) 1))) = q at *
    generalize ctL (ts.map tabO) 1 = k0 at *
    have hpos : ¬ q < 0 := by omega
    have kpos : ¬ k0 < 0 := by omega
    refine ent_of (cx := ⟨tab, [15, 16], []⟩) tok mixed (f := 3) Tryz.func3 (by kernel_rfl) (keep := false) ?_
    repeat' ((conv => whnf) <;> (first
      | ((with_reducible refine isCall ?_) <;> (first
          | (refine ⟨_, c0, ?_⟩; rintro _ _ ⟨r, rfl, rfl, hr⟩)
          | (refine ⟨_, c3, ?_⟩; rintro _ _ ⟨rfl, rfl⟩)
          | (refine ⟨_, c1, ?_⟩; rintro _ _ ⟨rfl, rfl⟩)
          | (refine ⟨_, c2, ?_⟩; rintro _ _ ⟨rfl, rfl⟩)
          | (refine ⟨_, c4, ?_⟩; rintro _ _ ⟨rfl, rfl⟩)
          | (refine ⟨_, c5, ?_⟩; rintro _ _ ⟨rfl, rfl⟩)
          | (refine ⟨_, c6, ?_⟩; rintro _ _ ⟨rfl, rfl⟩)
          | (refine ⟨_, c7, ?_⟩; rintro _ _ ⟨rfl, rfl⟩)
          | (refine ⟨_, c8, ?_⟩; rintro _ _ ⟨rfl, rfl⟩)
          | fail))
      | ((with_reducible refine isLoop ?_) <;> (first
          | fail))
      | ((with_reducible refine isCut ?_) <;> (first
          | refine ⟨⟨none⟩, ?_⟩))
      | ((first | with_reducible refine isEx ?_ | with_reducible refine isAnd ?_ | with_reducible refine isOr ?_) <;> (first
          | ((with_reducible refine isSmall ?_) <;> (refine ⟨?_, ?_⟩; kernel_rfl))
          | refine ⟨rfl, ?_⟩
          | refine ⟨Int.natCast_nonneg _, ?_⟩))
      | with_reducible refine Both.mk ?_ ?_
      | (exfalso; refine hno ?_; assumption)
      | (exfalso; exact absurd (of_decide_eq_true (by assumption)) hpos)
      | (exfalso; exact absurd (of_decide_eq_true (by assumption)) kpos)
      | rintro _ rfl
      | exact rfl
      | (split <;> (rename_i h; first | (simp only [beq_self_eq_true, eq_self, decide_true, Bool.not_true, Bool.false_eq_true] at h; done) | (try rw [h])))))
    all_goals (conv => whnf)
    all_goals trace_state
  ·
    refine ent_of tok mixed (f := 3) Tryz.func3 (by kernel_rfl) (keep := false) ?_
    repeat' ((conv => whnf) <;> (first
      | ((with_reducible refine isCall ?_) <;> (first
          | (refine ⟨_, c0, ?_⟩; rintro _ _ ⟨r, rfl, rfl, hr⟩)
          | fail))
      | ((with_reducible refine isLoop ?_) <;> (first
          | fail))
      | ((with_reducible refine isCut ?_) <;> (first
          | refine ⟨⟨none⟩, ?_⟩))
      | ((first | with_reducible refine isEx ?_ | with_reducible refine isAnd ?_ | with_reducible refine isOr ?_) <;> (first
          | ((with_reducible refine isSmall ?_) <;> (refine ⟨?_, ?_⟩; kernel_rfl))
          | refine ⟨rfl, ?_⟩
          | refine ⟨Int.natCast_nonneg _, ?_⟩))
      | with_reducible refine Both.mk ?_ ?_
      | (exfalso; exact hw (hr (Int.not_lt.1 (of_decide_eq_false (by assumption)))))
      | rintro _ rfl
      | exact rfl
      | (split <;> (rename_i h; first | (simp only [beq_self_eq_true, eq_self, decide_true, Bool.not_true, Bool.false_eq_true] at h; done) | (try rw [h])))))
    all_goals (conv => whnf)
    all_goals trace_state
end Go.Pm.Tryz
/-
The program's DbTable returns what the reference's returns, for all arguments.
-/
namespace Go.Pm.Tryz
open Go
def valSh : Sh := .agg [.int .i64, .int .i64, .str]
def colSh : Sh := .agg [.str, .int .i64, .bool]
def idxSh : Sh := .agg [.sl (.int .i64), .bool]
def tabSh : Sh := .agg [.str, .sl colSh, .sl (.int .i64), .sl idxSh, .sl (.sl valSh)]
theorem val_of {y : D} (h : valSh.of y) : ∃ v : Val, y = valD v ∧ fitVal v := by
  simp only [valSh, Sh.of, ofL] at h
  obtain ⟨cs, rfl, x0, r0, rfl, ⟨a, rfl, _⟩, x1, r1, rfl, ⟨b, rfl, _⟩, x2, r2, rfl, ⟨c, rfl, hc⟩, rfl⟩ := h
  exact ⟨⟨a, b, c⟩, rfl, hc⟩
theorem col_of {y : D} (h : colSh.of y) : ∃ v : Col, y = colD v ∧ v.name.length ≤ maxLen := by
  simp only [colSh, Sh.of, ofL] at h
  obtain ⟨cs, rfl, x0, r0, rfl, ⟨a, rfl, ha⟩, x1, r1, rfl, ⟨b, rfl, _⟩, x2, r2, rfl, ⟨c, rfl⟩, rfl⟩ := h
  exact ⟨⟨a, b, c⟩, rfl, ha⟩
theorem int_of1 {y : D} (h : (Sh.int .i64).of y) : ∃ n : Int, y = i64D n ∧ True := by
  simp only [Sh.of] at h
  obtain ⟨n, rfl, _⟩ := h
  exact ⟨n, rfl, trivial⟩
theorem idx_of {y : D} (h : idxSh.of y) : ∃ v : Idx, y = idxD v ∧ v.cols.length ≤ maxLen := by
  simp only [idxSh, Sh.of, ofL] at h
  obtain ⟨cs, rfl, x0, r0, rfl, ⟨a, rfl, ha, hl⟩, x1, r1, rfl, ⟨b, rfl⟩, rfl⟩ := h
  obtain ⟨ns, rfl, _⟩ := ex_map (f := i64D) (q := fun _ => True) fun y hy => int_of1 (ha y hy)
  exact ⟨⟨ns, b⟩, rfl, by simpa using hl⟩
theorem row_of {y : D} (h : (Sh.sl valSh).of y) : ∃ r : List Val, y = rowD r ∧ fitRow r := by
  simp only [Sh.of] at h
  obtain ⟨xs, rfl, hx, hl⟩ := h
  obtain ⟨vs, rfl, hv⟩ := ex_map (f := valD) (q := fitVal) fun y hy => val_of (hx y hy)
  exact ⟨vs, rfl, by simpa using hl, hv⟩
theorem tab_of {y : D} (h : tabSh.of y) : ∃ t : Tab, y = tabD t ∧ t.fit2 := by
  simp only [tabSh, Sh.of, ofL] at h
  obtain ⟨cs, rfl, x0, r0, rfl, ⟨nm, rfl, hnm⟩, x1, r1, rfl, ⟨cl, rfl, hcl, lcl⟩, x2, r2, rfl, ⟨ks, rfl, hks, lks⟩, x3, r3, rfl, ⟨is, rfl, his, lis⟩, x4, r4, rfl, ⟨rs, rfl, hrs, lrs⟩, rfl⟩ := h
  obtain ⟨cl, rfl, qcl⟩ := ex_map (f := colD) (q := fun v => v.name.length ≤ maxLen) fun y hy => col_of (hcl y hy)
  obtain ⟨ks, rfl, _⟩ := ex_map (f := i64D) (q := fun _ => True) fun y hy => int_of1 (hks y hy)
  obtain ⟨is, rfl, qis⟩ := ex_map (f := idxD) (q := fun v => v.cols.length ≤ maxLen) fun y hy => idx_of (his y hy)
  obtain ⟨rs, rfl, qrs⟩ := ex_map (f := rowD) (q := fitRow) fun y hy => row_of (by simpa only [Sh.of] using hrs y hy)
  exact ⟨⟨⟨nm, cl, ks, is⟩, rs⟩, rfl, ⟨hnm, by simpa using lcl, qcl, by simpa using lks, by simpa using lis, qis⟩, by simpa using lrs, qrs⟩
theorem db_of {y : D} (h : (Sh.agg [.sl tabSh]).of y) : ∃ ts : List Tab, y = dbArg ts ∧ ts.length ≤ maxLen ∧ ∀ t, t ∈ ts → t.fit2 := by
  simp only [Sh.of, ofL] at h
  obtain ⟨cs, rfl, x0, r0, rfl, ⟨ts, rfl, hts, lts⟩, rfl⟩ := h
  obtain ⟨ts, rfl, q⟩ := ex_map (f := tabD) (q := Tab.fit2) fun y hy => tab_of (hts y hy)
  exact ⟨ts, rfl, by simpa using lts, q⟩
theorem text_of {y : D} (h : Sh.str.of y) : ∃ l : List UInt8, y = .s l := by
  simp only [Sh.of] at h
  obtain ⟨l, rfl, _⟩ := h
  exact ⟨l, rfl⟩
end Go.Pm.Tryz
namespace Go.Proofs.YtlihmioijkichaaGreat.fnExactDbTable
open Go Go.Proofs Go.ChangeShapes Go.WideShapes Go.ChangeAt Go.RowKit Go.Pm
set_option linter.unusedVariables false
set_option maxRecDepth 100000
theorem own : ownKnob Tryz.prog.godebug = none := by kernel_rfl
theorem kids : Kids Tryz.prog (· < Tryz.prog.types.size) := kids_rows (by kernel_rfl) (by kernel_rfl)
theorem full : ∀ t e, t < Tryz.prog.types.size → Tryz.prog.underlying t = some (.slice e) → 0 < Tryz.prog.cellsOf e := slices_full_of Tryz.prog (by kernel_rfl)
theorem sh9 : shOf Tryz.prog 9 9 = some (.str) := by kernel_rfl
theorem sh24 : shOf Tryz.prog 9 24 = some (.agg [.sl Go.Pm.Tryz.tabSh]) := by kernel_rfl
theorem lifted (os : Os) (started : os.Started) (H : Type) (enc : TypeId × Value → H) :
    ReturnsInHanded {} Tryz.checked os 3 .any (Rows.fnExactDbTableSpec.pre6 enc Tryz.prog Tryz.f3 Rows.fnExactDbTableRow.domain false) (Rows.fnExactDbTableSpec.post enc Tryz.prog Tryz.f3 false true false false) := by
  refine returnsInHanded_of_change_sized (C := Tryz.checked) own started (by kernel_rfl) Tryz.func3
    (ChangeSpec.witness6 (enc := enc) (C := Tryz.checked) false ⟨#[], #[.agg #[.slice none 0 0], .string ⟨#[]⟩], []⟩ 8 (by kernel_rfl) (by kernel_rfl) (by kernel_rfl) (by kernel_rfl)) ?_
  intro W base args ds gs before hval0 hW hcnd hsz0 _
  have hval : ∀ (j : Nat) t v, Tryz.f3.params[j]? = some t → args[j]? = some v → Value.okWide Tryz.prog W .any base t v := hval0
  have hW' := hW
  obtain ⟨p, q, hA0, hV, rfl, hfz, hnd⟩ := hW
  have hA : DataW.TrodAll enc Tryz.prog W 0 (fun _ => true) true Tryz.f3.params.toList args.toList ds p := hA0
  rw [Tryz.params3] at hA hval
  obtain ⟨rfl, rfl⟩ := trodVars_none hV
  have hA1 := hA
  obtain ⟨v0, v1, d0, d1, p0, p1, rfl, rfl, rfl, h0, h1⟩ := trodAll_two hA
  obtain ⟨x0, hx0, hrep0⟩ := arg_rep (X := noX) (fun b h => h) sh24 (hval 0 24 v0 rfl rfl) h0
  obtain ⟨x1, hx1, hrep1⟩ := arg_rep (X := noX) (fun b h => h) sh9 (hval 1 9 v1 rfl rfl) h1
  obtain ⟨ts, rfl, hl, hf⟩ := Go.Pm.Tryz.db_of hx0
  obtain ⟨nm, rfl⟩ := Go.Pm.Tryz.text_of hx1
  refine (law_calls (Go.Pm.Tryz.dbTableLaw ts hl hf nm) (W := W) (args := #[v0, v1]) ?_).mono fun e W' ⟨he, bel⟩ => ?_
  · simp only [AV.repL, AV.rep]; exact ⟨v0, [v1], rfl, hrep0, v1, [], rfl, hrep1, rfl⟩
  subst he
  exact ⟨_, rfl, _, _, _, [], _, [], hW', trodAll_mk1 (shut_bool Tryz.underlying4 _), args_same kids full bel hA1 (by kernel_rfl), rfl, bel.frame _, fun h => by cases h⟩
theorem fact0 : Tryz.prog.inPlace 3 = Rows.fnExactDbTableRow.inPlace := by kernel_rfl
theorem fact1 : Tryz.prog.unfollowed 3 = Rows.fnExactDbTableRow.unfollowed := by kernel_rfl
theorem fact2 : Tryz.prog.recurses 3 = Rows.fnExactDbTableRow.recurses := by kernel_rfl
theorem fact3 : Tryz.prog.varsNamed 3 = Rows.fnExactDbTableRow.named := by kernel_rfl
theorem joined : joinedFacts Tryz.prog 3 Tryz.f3 Rows.fnExactDbTableSpec Rows.fnExactDbTableRow = true := by
  unfold joinedFacts
  rw [fact0, fact1, fact2, fact3]
  kernel_rfl
theorem over : Rows.fnExactDbTableRow.holds Tryz.pinned (OpenSpec.ofChange Rows.fnExactDbTableSpec) :=
  OpenClaim.holds_of_wide 3 Tryz.f3 rfl rfl rfl rfl rfl rfl rfl ⟨rfl, rfl, rfl, rfl, rfl⟩ rfl rfl rfl rfl rfl (by kernel_rfl) Tryz.func3 joined
    (of_decide_eq_true (by kernel_rfl)) (by unfold Func.isWrapper; first | (rw [if_pos (by decide +kernel)]; kernel_rfl) | (rw [if_neg (by decide +kernel)]; exact ⟨rfl, rfl⟩))
    (fun os started H enc _ => lifted os started H enc)
end Go.Proofs.YtlihmioijkichaaGreat.fnExactDbTable
namespace Go.Proofs.YtlihmioijkichaaGreat
theorem fnExactDbTable_holds : Rows.FnExactDbTableSaid := fnExactDbTable.over
#print axioms fnExactDbTable_holds
end Go.Proofs.YtlihmioijkichaaGreat

