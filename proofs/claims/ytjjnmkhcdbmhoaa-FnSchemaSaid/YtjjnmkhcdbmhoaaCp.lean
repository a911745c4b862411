import Derived.Test.YtjjnmkhcdbmhoaaCo
namespace Go.Pm.Try
open Go Go.Proofs
set_option linter.unusedVariables false
set_option linter.unusedSimpArgs false
set_option maxRecDepth 100000
def idxO (i : Idx) : D := .agg [.os 1 false (i.cols.map i64D), .b i.uniq]
theorem erase_ints : ∀ l : List Int, eraseL (l.map i64D) = l.map i64D
  | [] => rfl
  | x :: l => by simp only [List.map_cons, eraseL, erase_ints l]; rfl
theorem erase_idx : ∀ l : List Idx, eraseL (l.map idxO) = l.map idxD
  | [] => rfl
  | x :: l => by simp only [List.map_cons, eraseL, erase_idx l, idxO, idxD, D.erase, erase_ints]
theorem listI_len (r : Rd) (most : Int) : (implListR most r).1.length = (implManyR r most).1.toNat := list_len _ _
theorem schI_fits {r : Rd} (hl : r.text.length ≤ 20000) : (schR implRs r).1.fits := by
  have hw : ∀ r' : Rd, r'.text = r.text → (implWordR r').1.length ≤ maxLen := fun r' h => small_max (Nat.le_trans (wordI_len r') (by rw [h]; exact hl))
  have hm := fun (r' : Rd) => manyI_range r' (most := 10) (by decide)
  have hm4 := fun (r' : Rd) => manyI_range r' (most := 4) (by decide)
  have hlist : ∀ r' : Rd, (implListR 10 r').1.length ≤ maxLen := fun r' => by rw [listI_len]; exact small_max (by have := hm r'; omega)
  refine ⟨hw r rfl, ?_, ?_, hlist _, ?_, ?_⟩
  · show (timesR (implManyR · 10) (colR implRs) (implWordR r).2).1.length ≤ maxLen
    rw [timesR, list_len]; exact small_max (by have := hm (implWordR r).2; omega)
  · intro c hc
    obtain ⟨r', h1, rfl⟩ := list_mem same_col.textI hc
    exact hw r' (h1.trans ((same_many 10).textI _))
  · show (timesR (implManyR · 4) (idxR implRs) _).1.length ≤ maxLen
    rw [timesR, list_len]; exact small_max (by have := hm4 (implListR 10 (timesR (implManyR · 10) (colR implRs) (implWordR r).2).2).2; show (implManyR (implListR 10 (timesR (implManyR · 10) (colR implRs) (implWordR r).2).2).2 4).1.toNat ≤ 20000; omega)
  · intro i hi
    obtain ⟨r', h1, rfl⟩ := list_mem same_idx.textI hi
    exact hlist r'
noncomputable def schOkI (l : List UInt8) : Bool := overR (schR implRs (begR l)).2 && dec (schemaP (schR implRs (begR l)).1)
set_option maxHeartbeats 8000000 in
theorem implSchemaRead (l : List UInt8) (hl : l.length ≤ 20000) : Ent Try.prog 36 [.d (.s l)] []
    (.tup [.agg [.d (.s (schR implRs (begR l)).1.name), .own 0, .own 1, .own 2], .d (.b (schOkI l))]) [.arr 3 false ((schR implRs (begR l)).1.cols.map colD), .arr 1 false ((schR implRs (begR l)).1.keys.map i64D), .arr 2 true ((schR implRs (begR l)).1.idxs.map idxO)] := by
  have hfit := schI_fits (r := begR l) hl
  have hok : schOkI l = (overR (schR implRs (begR l)).2 && dec (schemaP (schR implRs (begR l)).1)) := rfl
  have hr0 : (begR l).text.length ≤ 20000 := hl
  have c1 := implWordRd (begR l) hr0
  have t1 : (implWordR (begR l)).2.text.length ≤ 20000 := hl
  have c2 := implMany (implWordR (begR l)).2 t1 10
  have hr := manyI_range (implWordR (begR l)).2 (most := 10) (by decide)
  have t2 : (implManyR (implWordR (begR l)).2 10).2.text.length ≤ 20000 := hl
  have e0 : timesR (implManyR · 10) (colR implRs) (implWordR (begR l)).2 = ([] ++ (listR (colR implRs) (implManyR (implWordR (begR l)).2 10).1.toNat (implManyR (implWordR (begR l)).2 10).2).1, (listR (colR implRs) (implManyR (implWordR (begR l)).2 10).1.toNat (implManyR (implWordR (begR l)).2 10).2).2) := rfl
  have ee : schR implRs (begR l) = (⟨(implWordR (begR l)).1, (timesR (implManyR · 10) (colR implRs) (implWordR (begR l)).2).1, (implListR 10 (timesR (implManyR · 10) (colR implRs) (implWordR (begR l)).2).2).1, (timesR (implManyR · 4) (idxR implRs) (implListR 10 (timesR (implManyR · 10) (colR implRs) (implWordR (begR l)).2).2).2).1⟩, (timesR (implManyR · 4) (idxR implRs) (implListR 10 (timesR (implManyR · 10) (colR implRs) (implWordR (begR l)).2).2).2).2) := rfl
  generalize schOkI l = ok at *
  generalize schR implRs (begR l) = o at *
  generalize timesR (implManyR · 10) (colR implRs) (implWordR (begR l)).2 = W at *
  generalize implManyR (implWordR (begR l)).2 10 = q at *
  generalize implWordR (begR l) = w at *
  refine ent_of (cx := ⟨tab, [], []⟩) tok mixed (f := 36) Try.func36 (by kernel_rfl) (keep := true) ?_
  repeat' ((conv => whnf) <;> (first | ((with_reducible refine isCall ?_) <;> (first | (refine ⟨_, c1, ?_⟩; rintro _ _ ⟨rfl, rfl⟩) | (refine ⟨_, c2, ?_⟩; rintro _ _ ⟨rfl, rfl⟩) | (refine ⟨_, implWordRd rd ht, ?_⟩; rintro _ _ ⟨rfl, rfl⟩) | (refine ⟨_, implNumRd (implWordR rd).2 ht, ?_⟩; rintro _ _ ⟨rfl, rfl⟩) | (refine ⟨_, implYes (implNumR (implWordR rd).2).2 ht, ?_⟩; rintro _ _ ⟨rfl, rfl⟩) | (refine ⟨_, implList rd ht 10 (by decide), ?_⟩; rintro _ _ ⟨rfl, rfl⟩) | (refine ⟨_, implMany (implListR 10 rd).2 (by rw [same_list.textI]; exact ht) 4, ?_⟩; rintro _ _ ⟨rfl, rfl⟩) | (refine ⟨_, c7, ?_⟩; rintro _ _ ⟨rfl, rfl⟩) | (refine ⟨_, c8, ?_⟩; rintro _ _ ⟨rfl, rfl⟩) | (refine ⟨_, implList rd2 ht2 10 (by decide), ?_⟩; rintro _ _ ⟨rfl, rfl⟩) | (refine ⟨_, implYes (implListR 10 rd2).2 (by rw [same_list.textI]; exact ht2), ?_⟩; rintro _ _ ⟨rfl, rfl⟩) | (refine absurd (out_loop hij2 ?_) hj2; assumption) | (refine ⟨⟨by decide, rfl, rfl, ten_room hss (by decide) _ (by decide)⟩, ?_⟩) | (refine ⟨⟨by decide, rfl, rfl, ten_room his (by decide) _ (by decide)⟩, ?_⟩) | fail)) | ((with_reducible refine isLoop ?_) <;> (first | (refine ⟨[39, 38, 2, 4, 5], [10002, 10010, 10005, 10031, 10035, .cell 10051 2 true 10005 3], fun st => ∃ (i j : Nat) (n : Int) (is : List Idx) (rd2 : Rd) (xs : List D), n = i ∧ (i : Int) + j = (implManyR (implListR 10 rd).2 4).1 ∧ rd2.text.length ≤ 20000 ∧ is.length + j ≤ 4 ∧ timesR (implManyR · 4) (idxR implRs) (implListR 10 rd).2 = (is ++ (listR (idxR implRs) j rd2).1, (listR (idxR implRs) j rd2).2) ∧ xs = is.map idxO ∧ st = ⟨[(39, .d (.i .i64 n)), (38, .d (.i .i64 (implManyR (implListR 10 rd).2 4).1)), (2, .ptr 10002 0), (4, .ptr 10010 0), (5, .ptr 10005 0)], [(10002, .var [.d (.s []), .snil, .snil, .snil]), (10010, .var (rdC rd2)), (10005, .var [.d (.s w.1), .own 10031, .own 10035, .own 10051]), (10031, .arr 3 false (ss.map colD)), (10035, .arr 1 false ((implListR 10 rd).1.map i64D)), (10051, .arr 2 true xs)]⟩, fun st => match look 39 st.env with | some (.d (.i _ n)) => 4 - n.toNat | _ => 0, ?_, ⟨0, (implManyR (implListR 10 rd).2 4).1.toNat, _, [], (implManyR (implListR 10 rd).2 4).2, [], rfl, (by rw [Int.toNat_of_nonneg (manyI_range (implListR 10 rd).2 (most := 4) (by decide)).1]; exact Int.zero_add _), (by rw [(same_many 4).textI, same_list.textI]; exact ht), (by have := (manyI_range (implListR 10 rd).2 (most := 4) (by decide)).2; show 0 + _ ≤ 4; omega), rfl, rfl, ?_⟩, ?_⟩; kernel_rfl; kernel_rfl; rintro st ⟨i2, j2, n, is, rd2, xs, rfl, hij2, ht2, his, hi, rfl, rfl⟩; by_cases hj2 : j2 = 0; (have c7 := implOverRd rd2; obtain ⟨u7, hu7⟩ : ∃ u, u = overR rd2 := ⟨_, rfl⟩; rw [← hu7] at c7; have c8 : Ent Try.prog 7 [.d (.agg [.s w.1, .sl false (ss.map colD), .sl false ((implListR 10 rd).1.map i64D), .sl false (eraseL (is.map idxO))])] [] (.d (.b (dec (schemaP o.1)))) [] := (by rw [erase_idx]; have := implSchemaRight o.1 hfit; rw [ee, list_end ho (out_loop hij (by assumption)), list_end hi hj2] at this; rw [ee, list_end ho (out_loop hij (by assumption)), list_end hi hj2]; exact this); cases u7)) | (refine ⟨[16, 15, 2, 4, 5], [10002, 10010, 10005, .cell 10031 3 false 10005 1], fun st => ∃ (i j : Nat) (n : Int) (ss : List Col) (rd : Rd) (xs : List D), n = i ∧ (i : Int) + j = q.1 ∧ rd.text.length ≤ 20000 ∧ ss.length + j ≤ 10 ∧ W = (ss ++ (listR (colR implRs) j rd).1, (listR (colR implRs) j rd).2) ∧ xs = ss.map colD ∧ st = ⟨[(16, .d (.i .i64 n)), (15, .d (.i .i64 q.1)), (2, .ptr 10002 0), (4, .ptr 10010 0), (5, .ptr 10005 0)], [(10002, .var [.d (.s []), .snil, .snil, .snil]), (10010, .var (rdC rd)), (10005, .var [.d (.s w.1), .own 10031, .snil, .snil]), (10031, .arr 3 false xs)]⟩, fun st => match look 16 st.env with | some (.d (.i _ n)) => 10 - n.toNat | _ => 0, ?_, ⟨0, _, _, [], _, [], rfl, (by rw [Int.toNat_of_nonneg hr.1]; exact Int.zero_add _), t2, (by show 0 + _ ≤ 10; omega), e0, rfl, ?_⟩, ?_⟩; kernel_rfl; kernel_rfl; rintro st ⟨i, j, n, ss, rd, xs, rfl, hij, ht, hss, ho, rfl, rfl⟩) | (refine absurd (out_loop hij2 ?_) hj2; assumption) | (refine ⟨⟨by decide, rfl, rfl, ten_room hss (by decide) _ (by decide)⟩, ?_⟩) | (refine ⟨⟨by decide, rfl, rfl, ten_room his (by decide) _ (by decide)⟩, ?_⟩) | fail)) | ((with_reducible refine isCut ?_) <;> (first | refine ⟨⟨none⟩, ?_⟩)) | ((first | with_reducible refine isEx ?_ | with_reducible refine isAnd ?_ | with_reducible refine isOr ?_) <;> (first | (refine absurd (out_loop hij2 ?_) hj2; assumption) | (refine ⟨⟨by decide, rfl, rfl, ten_room hss (by decide) _ (by decide)⟩, ?_⟩) | (refine ⟨⟨by decide, rfl, rfl, ten_room his (by decide) _ (by decide)⟩, ?_⟩) | ((with_reducible refine isSmall ?_) <;> (refine ⟨?_, ?_⟩; kernel_rfl)) | refine ⟨rfl, ?_⟩ | refine ⟨Int.natCast_nonneg _, ?_⟩)) | with_reducible refine Both.mk ?_ ?_ | rintro _ rfl | exact rfl | (split <;> (rename_i h; first | (simp only [beq_self_eq_true, eq_self, decide_true, Bool.not_true, Bool.false_eq_true] at h; done) | (try rw [h])))))
  all_goals (conv => whnf)
  all_goals first
    | (have hj := in_loop hij2 (by assumption)
       have hr2 := manyI_range (implListR 10 rd).2 (most := 4) (by decide)
       refine ⟨⟨i2 + 1, j2 - 1, _, is ++ [(idxR implRs rd2).1], (idxR implRs rd2).2, is.map idxO ++ [idxO (idxR implRs rd2).1], step_up (n := 4) (by omega) (Nat.le_of_ble_eq_true rfl), (by omega), (by rw [same_idx.textI]; exact ht2), ?_, list_step hi hj, ?_, ?_⟩, cast ?_ (mu_up (k := i2) (n := 4) (by omega) (Nat.le_of_ble_eq_true rfl))⟩
       · simp only [List.length_append, List.length_cons, List.length_nil]; omega
       · rw [List.map_append]; rfl
       · kernel_rfl
       · kernel_rfl)
    | (have eo : o = ((⟨w.1, ss, (implListR 10 rd).1, is⟩ : Schema), rd2) := by rw [ee, list_end ho (out_loop hij (by assumption)), list_end hi (out_loop hij2 (by assumption))]
       have hok2 : ok = (overR rd2 && dec (schemaP o.1)) := by rw [hok, eo]
       rw [← hu7] at hok2
       subst hok2
       subst eo
       exact ⟨rfl, rfl⟩)
    | (have hj := in_loop hij (by assumption)
       refine ⟨⟨i + 1, j - 1, _, ss ++ [(colR implRs rd).1], (colR implRs rd).2, ss.map colD ++ [colD (colR implRs rd).1], step_up (n := 10) (by omega) (Nat.le_of_ble_eq_true rfl), (by omega), (by rw [same_col.textI]; exact ht), ?_, list_step ho hj, ?_, ?_⟩, cast ?_ (mu_up (k := i) (n := 10) (by omega) (Nat.le_of_ble_eq_true rfl))⟩
       · simp only [List.length_append, List.length_cons, List.length_nil]; omega
       · rw [List.map_append]; rfl
       · kernel_rfl
       · kernel_rfl)
    | trace_state
end Go.Pm.Try
