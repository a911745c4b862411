/-
A drawn right schema is read back from its bytes; what is read of drawn bytes is told by just these bytes; a drawn row that is right has a right key.
-/
import Derived.Test.YtjjnmkhcdbmhoaaSy
import Derived.Test.YtjjnmkhcdbmhoaaDf
import Derived.Test.YtjjnmkhcdbmhoaaDg
namespace Go.Pm.Try
open Go Go.Proofs
set_option linter.unusedVariables false
set_option linter.unusedSimpArgs false
set_option maxRecDepth 100000
theorem implSchemaReadF (l : List UInt8) : Ent Try.prog 8 [.d (.s l)] [] (.d (schOutD (schOutM l))) [] := by
  have c0 := isLong [l] (Nat.le_of_ble_eq_true rfl)
  rw [longs1] at c0
  by_cases h : l.length ≤ 20000
  · have c1 := implSchemaRead l h
    rw [schOutM, decide_eq_true h]
    rw [decide_eq_true h] at c0
    generalize (schR implRs (begR l)).1 = b at *
    generalize schOkI l = ok at *
    cases ok
    all_goals
      refine ent_of tok mixed (f := 8) Try.func8 (by kernel_rfl) (keep := false) ?_
      repeat' ((conv => whnf) <;> (first | ((with_reducible refine isCall ?_) <;> (first | (refine ⟨_, c0, ?_⟩; rintro _ _ ⟨rfl, rfl⟩) | (refine ⟨_, c1, ?_⟩; rintro _ _ ⟨rfl, rfl⟩) | fail)) | ((with_reducible refine isCut ?_) <;> (first | refine ⟨⟨none⟩, ?_⟩)) | ((first | with_reducible refine isEx ?_ | with_reducible refine isAnd ?_ | with_reducible refine isOr ?_) <;> (first | ((with_reducible refine isSmall ?_) <;> (refine ⟨?_, ?_⟩; kernel_rfl)) | refine ⟨rfl, ?_⟩ | refine ⟨Int.natCast_nonneg _, ?_⟩)) | with_reducible refine Both.mk ?_ ?_ | rintro _ rfl | exact rfl | (split <;> (rename_i h; first | (simp only [beq_self_eq_true, eq_self, decide_true, Bool.not_true, Bool.false_eq_true] at h; done) | (try rw [h])))))
    all_goals (conv => whnf)
    all_goals first
      | (rw [erase_idx]; exact ⟨rfl, rfl⟩)
      | exact ⟨rfl, rfl⟩
      | trace_state
  · rw [schOutM, decide_eq_false h]
    rw [decide_eq_false h] at c0
    refine ent_of tok mixed (f := 8) Try.func8 (by kernel_rfl) (keep := false) ?_
    repeat' ((conv => whnf) <;> (first | ((with_reducible refine isCall ?_) <;> (first | (refine ⟨_, c0, ?_⟩; rintro _ _ ⟨rfl, rfl⟩) | fail)) | ((with_reducible refine isCut ?_) <;> (first | refine ⟨⟨none⟩, ?_⟩)) | ((first | with_reducible refine isEx ?_ | with_reducible refine isAnd ?_ | with_reducible refine isOr ?_) <;> (first | ((with_reducible refine isSmall ?_) <;> (refine ⟨?_, ?_⟩; kernel_rfl)) | refine ⟨rfl, ?_⟩ | refine ⟨Int.natCast_nonneg _, ?_⟩)) | with_reducible refine Both.mk ?_ ?_ | rintro _ rfl | exact rfl | (split <;> (rename_i h; first | (simp only [beq_self_eq_true, eq_self, decide_true, Bool.not_true, Bool.false_eq_true] at h; done) | (try rw [h])))))
    all_goals trace_state
theorem implReadPut (s : Schema) (h : (!decide (schBytes s = [])) = true) : Ent Try.prog 8 [.d (.s (schBytes s))] [] (.d (schOutD ⟨s, 0⟩)) [] := by
  rw [← sch_iff] at h
  have c := implSchemaReadF (schBytes s)
  rwa [schBytes_ok h, schOut_put (of_dec h), ← schBytes_ok h] at c
theorem schOut_fits (l : List UInt8) : (schOutM l).s.fits := by
  unfold schOutM
  have hn : noSch.fits := ⟨Nat.zero_le _, Nat.zero_le _, fun c hc => (by cases hc), Nat.zero_le _, Nat.zero_le _, fun i hi => by cases hi⟩
  by_cases h : l.length ≤ 20000
  · rw [decide_eq_true h]
    cases schOkI l with
    | true => exact schI_fits h
    | false => exact hn
  · rw [decide_eq_false h]; exact hn
theorem implPutRead (l : List UInt8) (h : decide ((schOutM l).code = 0) = true) : Ent Try.prog 5 [.d (schemaD (schOutM l).s)] [] (.d (.s l)) [] := by
  have c := implSchemaBytes _ (schOut_fits l)
  rwa [schOut_get (of_decide_eq_true h)] at c
noncomputable def rowOkB (s : Schema) (row : List Val) : Bool := dec (schemaP s) && dec (rowP s.cols row)
theorem implRowRight (s : Schema) (hs : s.fits) (row : List Val) (hr : row.length ≤ 400) : Ent Try.prog 11 [.d (schemaD s), .d (.sl false (row.map valD))] [] (.d (.b (rowOkB s row))) [] := by
  have c1 := implSchemaRight s hs
  have c2 := implRow s row (Nat.le_trans hr (Nat.le_of_ble_eq_true rfl))
  unfold rowOkB
  generalize dec (schemaP s) = a at *
  generalize dec (rowP s.cols row) = b at *
  cases a
  all_goals
    refine ent_of tok mixed (f := 11) Try.func11 (by kernel_rfl) (keep := false) ?_
    repeat' ((conv => whnf) <;> (first | ((with_reducible refine isCall ?_) <;> (first | (refine ⟨_, c1, ?_⟩; rintro _ _ ⟨rfl, rfl⟩) | (refine ⟨_, c2, ?_⟩; rintro _ _ ⟨rfl, rfl⟩) | fail)) | ((with_reducible refine isCut ?_) <;> (first | refine ⟨⟨none⟩, ?_⟩)) | ((first | with_reducible refine isEx ?_ | with_reducible refine isAnd ?_ | with_reducible refine isOr ?_) <;> (first | ((with_reducible refine isSmall ?_) <;> (refine ⟨?_, ?_⟩; kernel_rfl)) | refine ⟨rfl, ?_⟩ | refine ⟨Int.natCast_nonneg _, ?_⟩)) | with_reducible refine Both.mk ?_ ?_ | rintro _ rfl | exact rfl | (split <;> (rename_i h; first | (simp only [beq_self_eq_true, eq_self, decide_true, Bool.not_true, Bool.false_eq_true] at h; done) | (try rw [h])))))
  all_goals exact ⟨rfl, rfl⟩
theorem len400 {row : List Val} (hr : row.length ≤ 400) (h : decide (((row.map valD).length : Int) ≤ 400) = false) : False := by
  have := of_decide_eq_false h
  rw [List.length_map] at this; omega
theorem specRowRight (s : Schema) (hs : s.fits) (row : List Val) (hr : row.length ≤ 400) : Ent Try.prog 12 [.d (schemaD s), .d (.sl false (row.map valD))] [] (.d (.b (rowOkB s row))) [] := by
  have c1 := specSchemaRight s hs
  have c2 := specRow s row (Nat.le_trans hr (Nat.le_of_ble_eq_true rfl))
  unfold rowOkB
  generalize dec (schemaP s) = a at *
  generalize dec (rowP s.cols row) = b at *
  cases a
  all_goals
    refine ent_of tok mixed (f := 12) Try.func12 (by kernel_rfl) (keep := false) ?_
    repeat' ((conv => whnf) <;> (first | ((with_reducible refine isCall ?_) <;> (first | (refine ⟨_, c1, ?_⟩; rintro _ _ ⟨rfl, rfl⟩) | (refine ⟨_, c2, ?_⟩; rintro _ _ ⟨rfl, rfl⟩) | fail)) | ((with_reducible refine isCut ?_) <;> (first | refine ⟨⟨none⟩, ?_⟩)) | ((first | with_reducible refine isEx ?_ | with_reducible refine isAnd ?_ | with_reducible refine isOr ?_) <;> (first | ((with_reducible refine isSmall ?_) <;> (refine ⟨?_, ?_⟩; kernel_rfl)) | refine ⟨rfl, ?_⟩ | refine ⟨Int.natCast_nonneg _, ?_⟩)) | with_reducible refine Both.mk ?_ ?_ | rintro _ rfl | exact rfl | (split <;> (rename_i h; first | (simp only [beq_self_eq_true, eq_self, decide_true, Bool.not_true, Bool.false_eq_true] at h; done) | (try rw [h])))))
  all_goals first
    | exact ⟨rfl, rfl⟩
    | exact (len400 hr (by assumption)).elim
structure RowFine (s : Schema) (row : List Val) : Prop where
  vals : valuesP row
  keys : s.keys.length ≤ 10
  inr : inRow row s.keys
  len : row.length = s.cols.length
  hi : s.cols.length ≤ 10
theorem row_fine {s : Schema} {row : List Val} (h : rowOkB s row = true) : RowFine s row := by
  rw [rowOkB, Bool.and_eq_true] at h
  have hP := of_dec h.1
  have hr := of_dec h.2
  have hi := hP.hi
  refine ⟨⟨by have := hr.1; omega, fun v hv => ?_⟩, (sch_put hP).keys.1, fun c hc => ?_, hr.1, hi⟩
  · obtain ⟨k, hk, e⟩ := List.mem_iff_getElem.1 hv
    obtain ⟨c, hc⟩ := get_ex (ss := s.cols) (k := k) (by have := hr.1; omega)
    exact (hr.2 k v c (by rw [List.getElem?_eq_getElem hk, e]) hc).1
  · have := colsP_in hP.keys hc; have := hr.1; omega
theorem implValuesT (s : Schema) (row : List Val) (h : (!rowOkB s row) = false) : Ent Try.prog 14 [.d (.sl false (row.map valD))] [] (.d (.b true)) [] := by
  have hf := row_fine (s := s) (row := row) (by simpa using h)
  have c := implValuesRight row (by have := hf.len; have := hf.hi; exact Nat.le_trans (by omega : row.length ≤ 10) (Nat.le_of_ble_eq_true rfl))
  rwa [dec_true hf.vals] at c
theorem key_len {s : Schema} {k : Nat} {y : Int} (hf : s.keys.length ≤ 10) (hy : s.keys[k]? = some y) : s.keys.length ≤ maxLen := Nat.le_trans hf (Nat.le_of_ble_eq_true rfl)
set_option maxHeartbeats 1000000 in
theorem implPickE (s : Schema) (row : List Val) (h : (!rowOkB s row) = false) : Ent Try.prog 13 [.d (.sl false (row.map valD)), .d (.sl false (s.keys.map i64D))] [] (.d (.sl false ((pickM row s.keys).map valD))) [] := by
  have hf := row_fine (s := s) (row := row) (by simpa using h)
  have c1 := implValuesT s row h
  have c2 := implPick row s.keys (Nat.le_trans hf.keys (by decide)) hf.inr
  have hm : s.keys.length ≤ maxLen := Nat.le_trans hf.keys (Nat.le_of_ble_eq_true rfl)
  have hk10 := hf.keys
  have hrl : row.length ≤ maxLen := by have := hf.len; have := hf.hi; exact Nat.le_trans (by omega : row.length ≤ 10) (Nat.le_of_ble_eq_true rfl)
  have hbig : decide (((s.keys.map i64D).length : Int) > 10) = false := decide_eq_false (by rw [List.length_map]; omega)
  clear h
  refine ent_of tok mixed (f := 13) Try.func13 (by kernel_rfl) (keep := false) ?_
  repeat' ((conv => whnf) <;> (first | ((with_reducible refine isCall ?_) <;> (first | (refine ⟨_, c1, ?_⟩; rintro _ _ ⟨rfl, rfl⟩) | (refine ⟨_, c2, ?_⟩; rintro _ _ ⟨rfl, rfl⟩) | (refine ⟨_, within _ _ _, ?_⟩; rintro _ _ ⟨rfl, rfl⟩) | (obtain ⟨y, hy⟩ := get_ex (ss := s.keys) (k := k) (lt_of_dec (by assumption)); refine ⟨_, get_map' hy, ?_⟩) | fail)) | ((with_reducible refine isLoop ?_) <;> (first | (refine ⟨[0, 1, 15, 16, 17], [], fun st => ∃ (k : Nat) (n : Int), n = k ∧ k ≤ s.keys.length ∧ st = ⟨[(0, .d (.sl false (row.map valD))), (1, .d (.sl false (s.keys.map i64D))), (15, .d (.sl false (s.keys.map i64D))), (16, .d (.i .i64 ((s.keys.map i64D).length : Int))), (17, .d (.i .i64 n))], []⟩, fun s' => match look 17 s'.env with | some (.d (.i _ n)) => s.keys.length - n.toNat | _ => 0, rfl, ⟨0, _, rfl, Nat.zero_le _, rfl⟩, ?_⟩; rintro st ⟨k, n, rfl, hk, rfl⟩) | (obtain ⟨y, hy⟩ := get_ex (ss := s.keys) (k := k) (lt_of_dec (by assumption)); refine ⟨_, get_map' hy, ?_⟩) | fail)) | ((with_reducible refine isCut ?_) <;> (first | refine ⟨⟨none⟩, ?_⟩)) | ((first | with_reducible refine isEx ?_ | with_reducible refine isAnd ?_ | with_reducible refine isOr ?_) <;> (first | (obtain ⟨y, hy⟩ := get_ex (ss := s.keys) (k := k) (lt_of_dec (by assumption)); refine ⟨_, get_map' hy, ?_⟩) | ((with_reducible refine isSmall ?_) <;> (refine ⟨?_, ?_⟩; kernel_rfl)) | refine ⟨rfl, ?_⟩ | refine ⟨Int.natCast_nonneg _, ?_⟩)) | with_reducible refine Both.mk ?_ ?_ | rintro _ rfl | exact rfl | (split <;> (rename_i h; first | (simp only [beq_self_eq_true, eq_self, decide_true, Bool.not_true, Bool.false_eq_true] at h; done) | (try rw [h])))))
  all_goals try (conv => whnf)
  all_goals first
    | (exfalso; rw [hbig] at h; exact Bool.noConfusion h)
    | exact ⟨⟨k + 1, _, step_up (get_lt hy) hm, get_lt hy, rfl⟩, mu_up (get_lt hy) hm⟩
    | (exfalso
       have h1 := hf.inr y (get_mem hy)
       have h2 := (in_n (n := row.length) hrl).2 h1
       rw [List.length_map, h2] at h
       cases h)
    | trace_state
set_option maxHeartbeats 1000000 in
theorem drawRowRight (code : List UInt8) (hc : code.length ≤ 1048576) : EntQ Try.prog 4 [.d (.sl false (u8s code))] [] (fun R O => ∃ (s : Schema) (row : List Val), R = .tup [.d (schemaD s), .d (.sl false (row.map valD))] ∧ O = [] ∧ SchIn s ∧ row.length ≤ 400) := by
  refine ent_of tok mixed (f := 4) Try.func4 (by kernel_rfl) (keep := false) ?_
  repeat' ((conv => whnf) <;> (first | ((with_reducible refine isCall ?_) <;> (first | (refine ⟨_, srcSource code hc, ?_⟩; rintro _ _ ⟨z, m, rfl, rfl, hs⟩) | (refine ⟨_, srcSchema (m := m) hs, ?_⟩; rintro _ _ ⟨s, k2, m2, rfl, rfl, hs2, hS⟩) | (refine ⟨_, srcRow (m := m2) hs2 s (Nat.le_trans hS.cols (by decide)), ?_⟩; rintro _ _ ⟨row, k3, m3, rfl, rfl, hs3, hl⟩) | fail)) | ((with_reducible refine isCut ?_) <;> (first | refine ⟨⟨none⟩, ?_⟩)) | ((first | with_reducible refine isEx ?_ | with_reducible refine isAnd ?_ | with_reducible refine isOr ?_) <;> (first | ((with_reducible refine isSmall ?_) <;> (refine ⟨?_, ?_⟩; kernel_rfl)) | refine ⟨rfl, ?_⟩ | refine ⟨Int.natCast_nonneg _, ?_⟩)) | with_reducible refine Both.mk ?_ ?_ | rintro _ rfl | exact rfl | (split <;> (rename_i h; first | (simp only [beq_self_eq_true, eq_self, decide_true, Bool.not_true, Bool.false_eq_true] at h; done) | (try rw [h])))))
  all_goals (conv => whnf)
  all_goals exact ⟨s, row, rfl, rfl, hS, by have := hS.cols; omega⟩
set_option maxHeartbeats 1000000 in
theorem drawSchemaRead (code : List UInt8) (hc : code.length ≤ 1048576) : EntQ Try.prog 9 [.d (.sl false (u8s code))] [] (fun R O => ∃ t : List UInt8, R = .d (.s t) ∧ O = [] ∧ t.length ≤ 40001) := by
  refine ent_of tok mixed (f := 9) Try.func9 (by kernel_rfl) (keep := false) ?_
  repeat' ((conv => whnf) <;> (first | ((with_reducible refine isCall ?_) <;> (first | (refine ⟨_, srcSource code hc, ?_⟩; rintro _ _ ⟨z, m, rfl, rfl, hs⟩) | (refine ⟨_, srcSchema (m := m) hs, ?_⟩; rintro _ _ ⟨s, k2, m2, rfl, rfl, hs2, hS⟩) | (refine ⟨_, specSchemaBytes s hS.fits, ?_⟩; rintro _ _ ⟨rfl, rfl⟩) | (refine ⟨_, srcN (m := m2) hs2 4 (by decide), ?_⟩; rintro _ _ ⟨r3, k3, m3, rfl, rfl, hs3, hr3⟩) | (refine ⟨_, srcSpoil (m := m3) hs3 (schBytes s) (Nat.le_trans (schBytes_len s) (by decide)), ?_⟩; rintro _ _ ⟨t, k4, m4, rfl, rfl, hs4, hl⟩) | (refine ⟨_, srcN (m := m3) hs3 (IntKind.i64.wrap (((schBytes s).length : Int) + 1)) (wrap_le _), ?_⟩; rintro _ _ ⟨r4, k4, m4, rfl, rfl, hs4, hr4⟩) | (refine ⟨cut_le (Nat.le_trans (schBytes_len s) (by decide)) hr4, ?_⟩) | fail)) | ((with_reducible refine isCut ?_) <;> (first | refine ⟨⟨none⟩, ?_⟩)) | ((first | with_reducible refine isEx ?_ | with_reducible refine isAnd ?_ | with_reducible refine isOr ?_) <;> (first | (refine ⟨cut_le (Nat.le_trans (schBytes_len s) (by decide)) hr4, ?_⟩) | ((with_reducible refine isSmall ?_) <;> (refine ⟨?_, ?_⟩; kernel_rfl)) | refine ⟨rfl, ?_⟩ | refine ⟨Int.natCast_nonneg _, ?_⟩)) | with_reducible refine Both.mk ?_ ?_ | rintro _ rfl | exact rfl | (split <;> (rename_i h; first | (simp only [beq_self_eq_true, eq_self, decide_true, Bool.not_true, Bool.false_eq_true] at h; done) | (try rw [h])))))
  all_goals try (conv => whnf)
  all_goals first
    | exact ⟨_, rfl, rfl, by have := schBytes_len s; omega⟩
    | exact ⟨_, rfl, rfl, by have := schBytes_len s; simp only [List.length_take, List.length_drop]; omega⟩
    | trace_state
theorem len_okS {l : List UInt8} (h : decide (((u8s l).length : Int) > 1048576) = false) : l.length ≤ 1048576 := by
  have h := of_decide_eq_false h
  unfold u8s at h
  rw [List.length_map] at h
  omega
theorem sch_iff2 {s : Schema} {P : Prop} (h : (!(dec (schemaP s) == !decide (schBytes s = []))) = true) : P := by
  rw [sch_iff, beq_self_eq_true] at h; cases h
theorem pick_eq {s : Schema} {row : List Val} {P : Prop} (h : decide (((List.map valD (pickM row s.keys)).length : Int) = ((List.map i64D s.keys).length : Int)) = false) : P := by
  rw [List.length_map, pickM_len, List.length_map] at h; exact absurd rfl (of_decide_eq_false h)
set_option maxHeartbeats 8000000 in
theorem fnSchemaLaw (code more : List UInt8) : Ent Try.prog 3 [.d (.sl false (u8s code)), .d (.sl false (u8s more))] [] (.d (.b true)) [] := by
  refine ent_of tok mixed (f := 3) Try.func3 (by kernel_rfl) (keep := false) ?_
  repeat' ((conv => whnf) <;> (first | ((with_reducible refine isCall ?_) <;> (first | (refine ⟨_, drawRowRight code (len_okS (by assumption)), ?_⟩; rintro _ _ ⟨s, row, rfl, rfl, hS, hrow⟩) | (refine ⟨_, implSchemaBytes s hS.fits, ?_⟩; rintro _ _ ⟨rfl, rfl⟩) | (refine ⟨_, specSchemaBytes s hS.fits, ?_⟩; rintro _ _ ⟨rfl, rfl⟩) | (refine ⟨_, implSchemaRight s hS.fits, ?_⟩; rintro _ _ ⟨rfl, rfl⟩) | (refine ⟨_, implReadPut s (by assumption), ?_⟩; rintro _ _ ⟨rfl, rfl⟩) | (refine ⟨_, drawSchemaRead more (len_okS (by assumption)), ?_⟩; rintro _ _ ⟨t, rfl, rfl, ht⟩) | (refine ⟨_, implSchemaReadF t, ?_⟩; rintro _ _ ⟨rfl, rfl⟩) | (refine ⟨_, specSchemaRead t, ?_⟩; rintro _ _ ⟨rfl, rfl⟩) | (refine ⟨_, implPutRead t (by assumption), ?_⟩; rintro _ _ ⟨rfl, rfl⟩) | (refine ⟨_, implRowRight s hS.fits row hrow, ?_⟩; rintro _ _ ⟨rfl, rfl⟩) | (refine ⟨_, specRowRight s hS.fits row hrow, ?_⟩; rintro _ _ ⟨rfl, rfl⟩) | (refine ⟨_, implPickE s row (by assumption), ?_⟩; rintro _ _ ⟨rfl, rfl⟩) | (refine ⟨_, implValuesT s row (by assumption), ?_⟩; rintro _ _ ⟨rfl, rfl⟩) | fail)) | ((with_reducible refine isCut ?_) <;> (first | refine ⟨⟨none⟩, ?_⟩)) | ((first | with_reducible refine isEx ?_ | with_reducible refine isAnd ?_ | with_reducible refine isOr ?_) <;> (first | ((with_reducible refine isSmall ?_) <;> (refine ⟨?_, ?_⟩; kernel_rfl)) | refine ⟨rfl, ?_⟩ | refine ⟨Int.natCast_nonneg _, ?_⟩)) | with_reducible refine Both.mk ?_ ?_ | rintro _ rfl | exact rfl | (split <;> (rename_i h; first | (simp only [beq_self_eq_true, eq_self, decide_true, Bool.not_true, Bool.false_eq_true] at h; done) | (try rw [h])))))
  all_goals try (conv => whnf)
  all_goals first
    | exact ⟨rfl, rfl⟩
    | exact sch_iff2 h
    | exact pick_eq h
    | (with_reducible trace_state)
end Go.Pm.Try
namespace Go.Proofs.Ytjjnmkhcdbmhoaa.fnSchema
open Go Go.Proofs Go.ChangeShapes Go.WideShapes Go.ChangeAt Go.RowKit Go.Pm
set_option linter.unusedVariables false
set_option maxRecDepth 100000
theorem own : ownKnob Try.prog.godebug = none := by kernel_rfl
theorem kids : Kids Try.prog (· < Try.prog.types.size) := kids_rows (by kernel_rfl) (by kernel_rfl)
theorem full : ∀ t e, t < Try.prog.types.size → Try.prog.underlying t = some (.slice e) → 0 < Try.prog.cellsOf e := slices_full_of Try.prog (by kernel_rfl)
theorem sh22 : shOf Try.prog 6 22 = some (.sl (.int .u8)) := by kernel_rfl
theorem lifted (os : Os) (started : os.Started) (H : Type) (enc : TypeId × Value → H) :
    ReturnsInHanded {} Try.checked os 3 .any (Rows.fnSchemaSpec.pre6 enc Try.prog Try.f3 Rows.fnSchemaRow.domain false) (Rows.fnSchemaSpec.post enc Try.prog Try.f3 false true false false) := by
  refine returnsInHanded_of_change_sized (C := Try.checked) own started (by kernel_rfl) Try.func3
    (ChangeSpec.witness6 (enc := enc) (C := Try.checked) false ⟨#[], #[.slice none 0 0, .slice none 0 0], []⟩ 8 (by kernel_rfl) (by kernel_rfl) (by kernel_rfl) (by kernel_rfl)) ?_
  intro W base args ds gs before hval0 hW hcnd hsz0 _
  have hval : ∀ (j : Nat) t v, Try.f3.params[j]? = some t → args[j]? = some v → Value.okWide Try.prog W .any base t v := hval0
  have hW' := hW
  obtain ⟨p, q, hA0, hV, rfl, hfz, hnd⟩ := hW
  have hA : DataW.TrodAll enc Try.prog W 0 (fun _ => true) true Try.f3.params.toList args.toList ds p := hA0
  rw [Try.params3] at hA hval
  obtain ⟨rfl, rfl⟩ := trodVars_none hV
  have hA1 := hA
  obtain ⟨v0, v1, d0, d1, p0, p1, rfl, rfl, rfl, h0, h1⟩ := trodAll_two hA
  obtain ⟨x0, hx0, hrep0⟩ := arg_rep (X := noX) (fun b h => h) sh22 (hval 0 22 v0 rfl rfl) h0
  obtain ⟨x1, hx1, hrep1⟩ := arg_rep (X := noX) (fun b h => h) sh22 (hval 1 22 v1 rfl rfl) h1
  obtain ⟨code, rfl⟩ := Go.Pm.Try.bytes_of hx0
  obtain ⟨more, rfl⟩ := Go.Pm.Try.bytes_of hx1
  refine (law_calls (Go.Pm.Try.fnSchemaLaw code more) (W := W) (args := #[v0, v1]) ?_).mono fun e W' ⟨he, bel⟩ => ?_
  · simp only [AV.repL, AV.rep]; exact ⟨v0, [v1], rfl, hrep0, v1, [], rfl, hrep1, rfl⟩
  subst he
  exact ⟨_, rfl, _, _, _, [], _, [], hW', trodAll_mk1 (shut_bool Try.underlying4 _), args_same kids full bel hA1 (by kernel_rfl), rfl, bel.frame _, fun h => by cases h⟩
theorem fact0 : Try.prog.inPlace 3 = Rows.fnSchemaRow.inPlace := by kernel_rfl
theorem fact1 : Try.prog.unfollowed 3 = Rows.fnSchemaRow.unfollowed := by kernel_rfl
theorem fact2 : Try.prog.recurses 3 = Rows.fnSchemaRow.recurses := by kernel_rfl
theorem fact3 : Try.prog.varsNamed 3 = Rows.fnSchemaRow.named := by kernel_rfl
theorem joined : joinedFacts Try.prog 3 Try.f3 Rows.fnSchemaSpec Rows.fnSchemaRow = true := by
  unfold joinedFacts
  rw [fact0, fact1, fact2, fact3]
  kernel_rfl
theorem over : Rows.fnSchemaRow.holds Try.pinned (OpenSpec.ofChange Rows.fnSchemaSpec) :=
  OpenClaim.holds_of_wide 3 Try.f3 rfl rfl rfl rfl rfl rfl rfl ⟨rfl, rfl, rfl, rfl, rfl⟩ rfl rfl rfl rfl rfl (by kernel_rfl) Try.func3 joined
    (of_decide_eq_true (by kernel_rfl)) (by unfold Func.isWrapper; first | (rw [if_pos (by decide +kernel)]; kernel_rfl) | (rw [if_neg (by decide +kernel)]; exact ⟨rfl, rfl⟩))
    (fun os started H enc _ => lifted os started H enc)
end Go.Proofs.Ytjjnmkhcdbmhoaa.fnSchema
namespace Go.Proofs.Ytjjnmkhcdbmhoaa
theorem fnSchema_holds : Rows.FnSchemaSaid := fnSchema.over
#print axioms fnSchema_holds
end Go.Proofs.Ytjjnmkhcdbmhoaa

