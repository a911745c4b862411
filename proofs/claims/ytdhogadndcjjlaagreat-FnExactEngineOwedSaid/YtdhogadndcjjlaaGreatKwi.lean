/-
A part of the proof (packed).
-/
import Derived.Shelf.Strings.Repeat
import Derived.Test.YtdhogadndcjjlaaGreatProg
import Derived.Below
import Derived.Test.YtdhogadndcjjlaaGreatKwh
namespace Go.Pm.Tryz
open Go Go.Proofs
set_option linter.unusedVariables false
set_option linter.unusedSimpArgs false
set_option maxRecDepth 100000
structure Tab where
  sch : Schema
  rows : List (List Val)
def rowD (r : List Val) : D := .sl false (r.map valD)
def tabD (t : Tab) : D := .agg [.s t.sch.name, .sl false (t.sch.cols.map colD), .sl false (t.sch.keys.map i64D), .sl false (t.sch.idxs.map idxD), .sl false (t.rows.map rowD)]
def tabC (t : Tab) : List AV := [.d (.s t.sch.name), .d (.sl false (t.sch.cols.map colD)), .d (.sl false (t.sch.keys.map i64D)), .d (.sl false (t.sch.idxs.map idxD)), .d (.sl false (t.rows.map rowD))]
structure Tab.fits (t : Tab) : Prop where
  sch : t.sch.fits
  rows : t.rows.length ≤ maxLen
  row : ∀ r, r ∈ t.rows → r.length ≤ maxLen
structure before (s : Schema) (rows : List (List Val)) (k : Nat) (row : List Val) : Prop where
  fit : rowP s.cols row
  ord : ∀ p, 0 < k → rows[k - 1]? = some p → cmpL (pickM p s.keys) (pickM row s.keys) < 0
structure rowOk (s : Schema) (rows : List (List Val)) (k : Nat) (row : List Val) : Prop where
  bef : before s rows k row
  apart : ∀ o, o ∈ rows.take k → ¬ clashP s.idxs row o
structure tableP (t : Tab) : Prop where
  sch : schemaP t.sch
  most : t.rows.length ≤ 60
  rows : ∀ k row, t.rows[k]? = some row → rowOk t.sch t.rows k row
theorem keys_len {s : Schema} (h : schemaP s) : s.keys.length ≤ 1000 := by have := colsP_len h.keys; have := h.hi; omega
theorem keys_in {s : Schema} (h : schemaP s) {row : List Val} (hr : rowP s.cols row) : inRow row s.keys := fun c hc => by
  have := colsP_in h.keys hc
  rw [hr.1]; exact this
theorem idxs_in {s : Schema} (h : schemaP s) {row : List Val} (hr : rowP s.cols row) : idxIn s.idxs row := fun x hx => by
  have h1 := h.idxs x hx
  refine ⟨by have := colsP_len h1; have := h.hi; omega, fun c hc => ?_⟩
  have := colsP_in h1 hc
  rw [hr.1]; exact this
theorem row_vals {cs : List Col} {row : List Val} (h : rowP cs row) : ∀ v, v ∈ row → valueP v := fun v hv => by
  obtain ⟨k, hk⟩ := List.getElem?_of_mem hv
  obtain ⟨c, hc⟩ := get_ex (ss := cs) (k := k) (by have := get_lt hk; have := h.1; omega)
  exact (h.2 k v c hk hc).1
theorem idx_max {s : Schema} (h : schemaP s) : s.idxs.length ≤ maxLen := Nat.le_trans h.idx (Nat.le_of_ble_eq_true rfl)
theorem pick_max {s : Schema} (h : schemaP s) (row : List Val) : (pickM row s.keys).length ≤ maxLen := by rw [pickM_len]; exact Nat.le_trans (keys_len h) (Nat.le_of_ble_eq_true rfl)
theorem le_max2 {n : Nat} (h : n ≤ 2000000) : n ≤ maxLen := Nat.le_trans h (Nat.le_of_ble_eq_true rfl)
theorem wrap_prev {k : Nat} (h0 : decide ((k : Int) > 0) = true) (h : k ≤ 2000000) : IntKind.i64.wrap ((k : Int) - 1) = ((k - 1 : Nat) : Int) := by
  have := of_decide_eq_true h0
  rw [wrap_i64_id _ (by omega) (by omega)]; omega
theorem prevOf {α : Type} {f : α → D} {xs : List α} {k : Nat} (h0 : decide ((k : Int) > 0) = true) (hk : k < xs.length) (hm : k ≤ 2000000) : ∃ p, xs[k - 1]? = some p ∧ (xs.map f)[(IntKind.i64.wrap ((k : Int) - 1)).toNat]? = some (f p) := by
  obtain ⟨p, hp⟩ := get_ex (ss := xs) (k := k - 1) (by omega)
  refine ⟨p, hp, ?_⟩
  rw [wrap_prev h0 hm]
  exact get_map' hp
theorem up_rows {s : Schema} {rows : List (List Val)} {k : Nat} (h : ∀ j r, j < k → rows[j]? = some r → rowOk s rows j r) {row : List Val} (hr : rows[k]? = some row) (h1 : rowOk s rows k row) : ∀ j r, j < k + 1 → rows[j]? = some r → rowOk s rows j r := by
  intro j r hj hjr
  by_cases e : j = k
  · subst e; rw [hr] at hjr; cases hjr; exact h1
  · exact h j r (by omega) hjr
set_option maxHeartbeats 8000000 in
theorem specTableRight (t : Tab) (ht : t.fits) : Ent Tryz.prog 97 [.d (tabD t)] [] (.d (.b (dec (tableP t)))) [] := by
  obtain ⟨o, ho⟩ : ∃ o, o = dec (tableP t) := ⟨_, rfl⟩
  rw [← ho]
  have hrl : (t.rows.map rowD).length = t.rows.length := List.length_map ..
  have c1 := specSchemaRight t.sch ht.sch
  refine ent_of tok mixed (f := 97) Tryz.func97 (by kernel_rfl) (keep := false) ?_
  repeat' ((conv => whnf) <;> (first | ((with_reducible refine isCall ?_) <;> (first | (refine ⟨_, c1, ?_⟩; rintro _ _ ⟨rfl, rfl⟩) | (refine ⟨_, c2, ?_⟩; rintro _ _ ⟨rfl, rfl⟩) | (refine ⟨_, c4 (not_ok (by assumption)), ?_⟩; rintro _ _ ⟨rfl, rfl⟩) | (refine ⟨_, c5, ?_⟩; rintro _ _ ⟨rfl, rfl⟩) | (refine ⟨_, c6, ?_⟩; rintro _ _ ⟨rfl, rfl⟩) | (refine ⟨_, c7, ?_⟩; rintro _ _ ⟨rfl, rfl⟩) | refine ⟨_, get_map' hrow, ?_⟩ | refine ⟨_, get_map' hq, ?_⟩ | (obtain ⟨p, hp, hpi⟩ := prevOf (f := rowD) (xs := t.rows) (k := k) (by assumption) (get_lt hrow) (by omega); have hpR := (hv (k - 1) p (by have := of_decide_eq_true (by assumption : decide ((k : Int) > 0) = true); omega) hp).bef.fit; have c5 := specKey t.sch p hkl (keys_in hS hpR); have c6 := l02Compare (pickM p t.sch.keys) (pickM row t.sch.keys) (hpm p) (hpm row); refine ⟨_, hpi, ?_⟩) | (refine ⟨(by rw [wrap_prev (by assumption) (by omega)]; omega), ?_⟩) | fail)) | ((with_reducible refine isLoop ?_) <;> (first | (refine ⟨[1, 3], [10001], fun st => ∃ (k : Nat) (i : Int), i = k ∧ k ≤ t.rows.length ∧ t.rows.length ≤ 60 ∧ schemaP t.sch ∧ (∀ j r, j < k → t.rows[j]? = some r → rowOk t.sch t.rows j r) ∧ st = ⟨[(1, .ptr 10001 0), (3, .d (.i .i64 i))], [(10001, .var (tabC t))]⟩, fun st => match look 3 st.env with | some (.d (.i _ i)) => t.rows.length - i.toNat | _ => 0, rfl, ⟨0, _, rfl, Nat.zero_le _, (by have := of_decide_eq_false (by assumption : decide (((t.rows.map rowD).length : Int) > 60) = false); omega), of_dec (not_ok (by assumption)), (fun j r hj => absurd hj (Nat.not_lt_zero _)), rfl⟩, ?_⟩; rintro st ⟨k, i, rfl, hk, h60, hS, hv, rfl⟩; have hkl := keys_len hS; have hpm := pick_max hS) | (refine ⟨[1, 3, 4], [10001], fun st => ∃ (m : Nat) (i : Int), i = m ∧ m ≤ k ∧ before t.sch t.rows k row ∧ (∀ o, o ∈ t.rows.take m → ¬ clashP t.sch.idxs row o) ∧ st = ⟨[(1, .ptr 10001 0), (3, .d (.i .i64 k)), (4, .d (.i .i64 i))], [(10001, .var (tabC t))]⟩, fun st => match look 4 st.env with | some (.d (.i _ i)) => k - i.toNat | _ => 0, rfl, ⟨0, _, rfl, Nat.zero_le _, ?_, (fun x hx => by simp at hx), rfl⟩, ?_⟩; rotate_left; rintro st ⟨m, i, rfl, hm, hB, hw, rfl⟩) | refine ⟨_, get_map' hrow, ?_⟩ | refine ⟨_, get_map' hq, ?_⟩ | (obtain ⟨p, hp, hpi⟩ := prevOf (f := rowD) (xs := t.rows) (k := k) (by assumption) (get_lt hrow) (by omega); have hpR := (hv (k - 1) p (by have := of_decide_eq_true (by assumption : decide ((k : Int) > 0) = true); omega) hp).bef.fit; have c5 := specKey t.sch p hkl (keys_in hS hpR); have c6 := l02Compare (pickM p t.sch.keys) (pickM row t.sch.keys) (hpm p) (hpm row); refine ⟨_, hpi, ?_⟩) | (refine ⟨(by rw [wrap_prev (by assumption) (by omega)]; omega), ?_⟩) | fail)) | ((with_reducible refine isCut ?_) <;> (first | refine ⟨⟨none⟩, ?_⟩)) | ((first | with_reducible refine isEx ?_ | with_reducible refine isAnd ?_ | with_reducible refine isOr ?_) <;> (first | refine ⟨_, get_map' hrow, ?_⟩ | refine ⟨_, get_map' hq, ?_⟩ | ((with_reducible refine isGet (xs := t.rows.map rowD) (i := ((m : Nat) : Int).toNat) ?_); obtain ⟨q, hq⟩ := get_ex (ss := t.rows) (k := m) (by have := get_lt hrow; have := lt_of_dec' (by assumption : decide ((m : Int) < (k : Int)) = true); omega); have hqm := lt_of_dec' (by assumption : decide ((m : Int) < (k : Int)) = true); have c7 := specClash t.sch row q (idx_max hS) (idxs_in hS hB.fit) (idxs_in hS (hv m q hqm hq).bef.fit); refine ⟨_, get_map' hq, ?_⟩) | ((with_reducible refine isGet (xs := t.rows.map rowD) (i := ((k : Nat) : Int).toNat) ?_); obtain ⟨row, hrow⟩ := get_ex (ss := t.rows) (k := k) (lt_of_dec (by assumption)); have c2 := specRow t.sch row (ht.row row (get_mem hrow)); have c4 := (fun h : dec (rowP t.sch.cols row) = true => specKey t.sch row hkl (keys_in hS (of_dec h))); refine ⟨_, get_map' hrow, ?_⟩) | (obtain ⟨p, hp, hpi⟩ := prevOf (f := rowD) (xs := t.rows) (k := k) (by assumption) (get_lt hrow) (by omega); have hpR := (hv (k - 1) p (by have := of_decide_eq_true (by assumption : decide ((k : Int) > 0) = true); omega) hp).bef.fit; have c5 := specKey t.sch p hkl (keys_in hS hpR); have c6 := l02Compare (pickM p t.sch.keys) (pickM row t.sch.keys) (hpm p) (hpm row); refine ⟨_, hpi, ?_⟩) | (refine ⟨(by rw [wrap_prev (by assumption) (by omega)]; omega), ?_⟩) | ((with_reducible refine isSmall ?_) <;> (refine ⟨?_, ?_⟩; kernel_rfl)) | refine ⟨rfl, ?_⟩ | refine ⟨Int.natCast_nonneg _, ?_⟩)) | with_reducible refine Both.mk ?_ ?_ | rintro _ rfl | exact rfl | (split <;> (rename_i h; first | (simp only [beq_self_eq_true, eq_self, decide_true, Bool.not_true, Bool.false_eq_true] at h; done) | (try rw [h])))))
  all_goals (conv => whnf)
  all_goals first
    | exact ret_false ho fun hP => of_ndec (not_ok' h) hP.sch
    | exact ret_false ho fun hP => by have := of_decide_eq_true h; have := hP.most; omega
    | exact ret_false ho fun hP => of_ndec (not_ok' h) (hP.rows k row hrow).bef.fit
    | exact ret_false ho fun hP => Int.not_le.2 ((hP.rows k row hrow).bef.ord p (by have := of_decide_eq_true (by assumption : decide ((k : Int) > 0) = true); omega) hp) (of_decide_eq_true h)
    | exact ret_false ho fun hP => (hP.rows k row hrow).apart q (take_mem hq hqm) (of_dec h)
    | exact ⟨⟨m + 1, _, step_up (n := t.rows.length) (by have := get_lt hrow; omega) ht.rows, hqm, hB, take_all hw hq (of_ndec h), rfl⟩, by have := ht.rows; have := get_lt hrow; exact mu_up (n := k) hqm (by omega)⟩
    | (have e : m = k := by have := of_decide_eq_false (by assumption : decide ((m : Int) < (k : Int)) = false); omega
       rw [e] at hw
       exact ⟨⟨k + 1, _, step_up (get_lt hrow) ht.rows, get_lt hrow, h60, hS, up_rows hv hrow ⟨hB, hw⟩, rfl⟩, mu_up (get_lt hrow) ht.rows⟩)
    | exact ⟨of_dec (not_ok (by assumption)), fun p' _ hp' => by rw [hp] at hp'; cases hp'; exact Int.not_le.1 (of_decide_eq_false h)⟩
    | exact ⟨of_dec (not_ok (by assumption)), fun p' h0 _ => by have := of_decide_eq_false h; omega⟩
    | (have e : k = t.rows.length := by have := of_decide_eq_false h; omega
       exact ret_true ho ⟨hS, h60, fun j r hj => hv j r (by rw [e]; exact get_lt hj) hj⟩)
    | trace_state
theorem clashRow (t : Tab) (row o : List Val) (hS : schemaP t.sch) (h1 : rowP t.sch.cols row) (h2 : rowP t.sch.cols o) : Ent Tryz.prog 176 [.d (rowD o), .ptr 0 0, .ptr 1 0] [.var (tabC t), .var [.d (rowD row)]] (.d (.b (dec (clashP t.sch.idxs o row)))) [.var (tabC t), .var [.d (rowD row)]] := by
  have c1 := implClash t.sch o row (idx_max hS) (idxs_in hS h2) (idxs_in hS h1) (row_vals h2)
  generalize dec (clashP t.sch.idxs o row) = u at *
  refine ent_of tok mixed (f := 176) Tryz.func176 (by kernel_rfl) (keep := false) ?_
  repeat' ((conv => whnf) <;> (first | ((with_reducible refine isCall ?_) <;> (first | (refine ⟨_, c1, ?_⟩; rintro _ _ ⟨rfl, rfl⟩) | fail)) | ((with_reducible refine isCut ?_) <;> (first | refine ⟨⟨none⟩, ?_⟩)) | ((first | with_reducible refine isEx ?_ | with_reducible refine isAnd ?_ | with_reducible refine isOr ?_) <;> (first | ((with_reducible refine isSmall ?_) <;> (refine ⟨?_, ?_⟩; kernel_rfl)) | refine ⟨rfl, ?_⟩ | refine ⟨Int.natCast_nonneg _, ?_⟩)) | with_reducible refine Both.mk ?_ ?_ | rintro _ rfl | exact rfl | (split <;> (rename_i h; first | (simp only [beq_self_eq_true, eq_self, decide_true, Bool.not_true, Bool.false_eq_true] at h; done) | (try rw [h])))))
set_option maxHeartbeats 2000000 in
theorem indexRows (t : Tab) (row : List Val) (os : List (List Val)) (hl : os.length ≤ maxLen) (hS : schemaP t.sch) (h1 : rowP t.sch.cols row) (h2 : ∀ o, o ∈ os → rowP t.sch.cols o) : EntQ Tryz.prog 202 [.d (.sl false (os.map rowD)), .fn 176 [.ptr 0 0, .ptr 1 0]] [.var (tabC t), .var [.d (rowD row)]]
    (fun R O => ∃ n : Int, R = .d (.i .i64 n) ∧ O = [.var (tabC t), .var [.d (rowD row)]] ∧ decide (n ≥ 0) = dec (∃ o, o ∈ os ∧ clashP t.sch.idxs o row)) := by
  refine ent_of tok mixed (f := 202) Tryz.func202 (by kernel_rfl) (keep := false) ?_
  repeat' ((conv => whnf) <;> (first | ((with_reducible refine isCall ?_) <;> (first | (refine ⟨_, c1, ?_⟩; rintro _ _ ⟨rfl, rfl⟩) | fail)) | ((with_reducible refine isLoop ?_) <;> (first | (refine ⟨[8, 7, 0, 1], [0, 1], fun st => ∃ (k : Nat) (n : Int), n = k ∧ k ≤ os.length ∧ (∀ i, i ∈ os.take k → ¬ clashP t.sch.idxs i row) ∧ st = ⟨[(8, .d (.i .i64 n)), (7, .d (.i .i64 ((os.map rowD).length : Int))), (0, .d (.sl false (os.map rowD))), (1, .fn 176 [.ptr 0 0, .ptr 1 0])], [(0, .var (tabC t)), (1, .var [.d (rowD row)])]⟩, fun st => match look 8 st.env with | some (.d (.i _ n)) => os.length - n.toNat | _ => 0, rfl, ⟨0, _, rfl, Nat.zero_le _, (fun x hx => by simp at hx), rfl⟩, ?_⟩; rintro st ⟨k, n, rfl, hk, hv, rfl⟩) | fail)) | ((with_reducible refine isCut ?_) <;> (first | refine ⟨⟨none⟩, ?_⟩)) | ((first | with_reducible refine isEx ?_ | with_reducible refine isAnd ?_ | with_reducible refine isOr ?_) <;> (first | ((with_reducible refine isGet (xs := os.map rowD) (i := ((k : Nat) : Int).toNat) ?_); obtain ⟨i, hi⟩ := get_ex (ss := os) (k := k) (lt_of_dec (by assumption)); have c1 := clashRow t row i hS h1 (h2 i (get_mem hi)); refine ⟨_, get_map' hi, ?_⟩) | ((with_reducible refine isSmall ?_) <;> (refine ⟨?_, ?_⟩; kernel_rfl)) | refine ⟨rfl, ?_⟩ | refine ⟨Int.natCast_nonneg _, ?_⟩)) | with_reducible refine Both.mk ?_ ?_ | rintro _ rfl | exact rfl | (split <;> (rename_i h; first | (simp only [beq_self_eq_true, eq_self, decide_true, Bool.not_true, Bool.false_eq_true] at h; done) | (try rw [h])))))
  all_goals (conv => whnf)
  · refine ⟨_, rfl, rfl, ?_⟩
    rw [dec_true ⟨i, get_mem hi, of_dec h⟩]
    exact decide_eq_true (Int.natCast_nonneg k)
  · exact ⟨⟨k + 1, _, step_up (get_lt hi) hl, get_lt hi, any_no hv hi (of_ndec h), rfl⟩, mu_up (get_lt hi) hl⟩
  · refine ⟨_, rfl, rfl, ?_⟩
    have e : k = os.length := by have := of_decide_eq_false h; rw [List.length_map] at this; omega
    rw [e, List.take_length] at hv
    rw [dec_false fun ⟨c, h1, h2⟩ => hv c h1 h2]; rfl
theorem containsRows (t : Tab) (row : List Val) (os : List (List Val)) (k : Nat) (hl : os.length ≤ maxLen) (hS : schemaP t.sch) (h1 : rowP t.sch.cols row) (h2 : ∀ o, o ∈ os.take k → rowP t.sch.cols o) : Ent Tryz.prog 175 [.d (.sl false (((os.map rowD).take k).drop 0)), .fn 176 [.ptr 0 0, .ptr 1 0]] [.var (tabC t), .var [.d (rowD row)]]
    (.d (.b (dec (∃ o, o ∈ os.take k ∧ clashP t.sch.idxs o row)))) [.var (tabC t), .var [.d (rowD row)]] := by
  have e : ((os.map rowD).take k).drop 0 = (os.take k).map rowD := by simp [List.map_take]
  rw [e]
  have c1 := indexRows t row (os.take k) (by rw [List.length_take]; omega) hS h1 h2
  refine ent_of tok mixed (f := 175) Tryz.func175 (by kernel_rfl) (keep := false) ?_
  repeat' ((conv => whnf) <;> (first | ((with_reducible refine isCall ?_) <;> (first | (refine ⟨_, c1, ?_⟩; rintro _ _ ⟨n, rfl, rfl, hn⟩) | fail)) | ((with_reducible refine isCut ?_) <;> (first | refine ⟨⟨none⟩, ?_⟩)) | ((first | with_reducible refine isEx ?_ | with_reducible refine isAnd ?_ | with_reducible refine isOr ?_) <;> (first | ((with_reducible refine isSmall ?_) <;> (refine ⟨?_, ?_⟩; kernel_rfl)) | refine ⟨rfl, ?_⟩ | refine ⟨Int.natCast_nonneg _, ?_⟩)) | with_reducible refine Both.mk ?_ ?_ | rintro _ rfl | exact rfl | (split <;> (rename_i h; first | (simp only [beq_self_eq_true, eq_self, decide_true, Bool.not_true, Bool.false_eq_true] at h; done) | (try rw [h])))))
  all_goals (conv => whnf)
  all_goals (rw [hn]; exact ⟨rfl, rfl⟩)
theorem rowOnes (rs : List (List Val)) : ∀ x, x ∈ rs.map rowD → x.cells.length = 1 := by
  intro x hx
  obtain ⟨n, _, rfl⟩ := List.mem_map.1 hx
  rfl
theorem prev_rows {s : Schema} {rows : List (List Val)} {k : Nat} (h : ∀ j r, j < k → rows[j]? = some r → rowOk s rows j r) : ∀ o, o ∈ rows.take k → rowP s.cols o := fun o ho => by
  obtain ⟨j, hj⟩ := List.getElem?_of_mem ho
  rw [List.getElem?_take] at hj
  by_cases e : j < k
  · rw [if_pos e] at hj; exact (h j o e hj).bef.fit
  · rw [if_neg e] at hj; cases hj
set_option maxHeartbeats 8000000 in
theorem implTableRight (t : Tab) (ht : t.fits) : Ent Tryz.prog 145 [.d (tabD t)] [] (.d (.b (dec (tableP t)))) [] := by
  obtain ⟨o, ho⟩ : ∃ o, o = dec (tableP t) := ⟨_, rfl⟩
  rw [← ho]
  have hrl : (t.rows.map rowD).length = t.rows.length := List.length_map ..
  have c1 := implSchemaRight t.sch ht.sch
  refine ent_of tok mixed (f := 145) Tryz.func145 (by kernel_rfl) (keep := false) ?_
  repeat' ((conv => whnf) <;> (first | ((with_reducible refine isCall ?_) <;> (first | (refine ⟨_, c1, ?_⟩; rintro _ _ ⟨rfl, rfl⟩) | (refine ⟨_, c2, ?_⟩; rintro _ _ ⟨rfl, rfl⟩) | (refine ⟨_, c4 (not_ok (by assumption)), ?_⟩; rintro _ _ ⟨rfl, rfl⟩) | (refine ⟨_, c5, ?_⟩; rintro _ _ ⟨rfl, rfl⟩) | (refine ⟨_, c6, ?_⟩; rintro _ _ ⟨rfl, rfl⟩) | (refine ⟨_, c7 (not_ok (by assumption)), ?_⟩; rintro _ _ ⟨rfl, rfl⟩) | refine ⟨_, get_map' hrow, ?_⟩ | (obtain ⟨p, hp, hpi⟩ := prevOf (f := rowD) (xs := t.rows) (k := k) (by assumption) (get_lt hrow) (by omega); have hpR := (hv (k - 1) p (by have := of_decide_eq_true (by assumption : decide ((k : Int) > 0) = true); omega) hp).bef.fit; have c5 := implKey t.sch p hkl (keys_in hS hpR); have c6 := implCompare (pickM p t.sch.keys) (pickM row t.sch.keys) (hpm p) (hpm row); refine ⟨_, hpi, ?_⟩) | refine ⟨⟨rowOnes _, by decide⟩, ?_⟩ | refine ⟨⟨Int.natCast_nonneg _, (by have := get_lt hrow; rw [List.length_map]; omega)⟩, ?_⟩ | (refine ⟨(by rw [wrap_prev (by assumption) (by omega)]; omega), ?_⟩) | fail)) | ((with_reducible refine isLoop ?_) <;> (first | (refine ⟨[1, 16, 17, 18], [10001], fun st => ∃ (k : Nat) (i : Int), i = k ∧ k ≤ t.rows.length ∧ t.rows.length ≤ 60 ∧ schemaP t.sch ∧ (∀ j r, j < k → t.rows[j]? = some r → rowOk t.sch t.rows j r) ∧ st = ⟨[(1, .ptr 10001 0), (16, .d (.sl false (t.rows.map rowD))), (17, .d (.i .i64 ((t.rows.map rowD).length : Int))), (18, .d (.i .i64 i))], [(10001, .var (tabC t))]⟩, fun st => match look 18 st.env with | some (.d (.i _ i)) => t.rows.length - i.toNat | _ => 0, rfl, ⟨0, _, rfl, Nat.zero_le _, (by have := of_decide_eq_false (by assumption : decide (((t.rows.map rowD).length : Int) > 60) = false); omega), of_dec (not_ok (by assumption)), (fun j r hj => absurd hj (Nat.not_lt_zero _)), rfl⟩, ?_⟩; rintro st ⟨k, i, rfl, hk, h60, hS, hv, rfl⟩; have hkl := keys_len hS; have hpm := pick_max hS) | refine ⟨_, get_map' hrow, ?_⟩ | (obtain ⟨p, hp, hpi⟩ := prevOf (f := rowD) (xs := t.rows) (k := k) (by assumption) (get_lt hrow) (by omega); have hpR := (hv (k - 1) p (by have := of_decide_eq_true (by assumption : decide ((k : Int) > 0) = true); omega) hp).bef.fit; have c5 := implKey t.sch p hkl (keys_in hS hpR); have c6 := implCompare (pickM p t.sch.keys) (pickM row t.sch.keys) (hpm p) (hpm row); refine ⟨_, hpi, ?_⟩) | refine ⟨⟨rowOnes _, by decide⟩, ?_⟩ | refine ⟨⟨Int.natCast_nonneg _, (by have := get_lt hrow; rw [List.length_map]; omega)⟩, ?_⟩ | (refine ⟨(by rw [wrap_prev (by assumption) (by omega)]; omega), ?_⟩) | fail)) | ((with_reducible refine isCut ?_) <;> (first | refine ⟨⟨none⟩, ?_⟩)) | ((first | with_reducible refine isEx ?_ | with_reducible refine isAnd ?_ | with_reducible refine isOr ?_) <;> (first | refine ⟨_, get_map' hrow, ?_⟩ | ((with_reducible refine isGet (xs := t.rows.map rowD) (i := ((k : Nat) : Int).toNat) ?_); obtain ⟨row, hrow⟩ := get_ex (ss := t.rows) (k := k) (lt_of_dec (by assumption)); have c2 := implRow t.sch row (ht.row row (get_mem hrow)); have c4 := (fun h : dec (rowP t.sch.cols row) = true => implKey t.sch row hkl (keys_in hS (of_dec h))); have c7 := (fun h : dec (rowP t.sch.cols row) = true => containsRows t row t.rows k ht.rows hS (of_dec h) (prev_rows hv)); refine ⟨_, get_map' hrow, ?_⟩) | (obtain ⟨p, hp, hpi⟩ := prevOf (f := rowD) (xs := t.rows) (k := k) (by assumption) (get_lt hrow) (by omega); have hpR := (hv (k - 1) p (by have := of_decide_eq_true (by assumption : decide ((k : Int) > 0) = true); omega) hp).bef.fit; have c5 := implKey t.sch p hkl (keys_in hS hpR); have c6 := implCompare (pickM p t.sch.keys) (pickM row t.sch.keys) (hpm p) (hpm row); refine ⟨_, hpi, ?_⟩) | refine ⟨⟨rowOnes _, by decide⟩, ?_⟩ | refine ⟨⟨Int.natCast_nonneg _, (by have := get_lt hrow; rw [List.length_map]; omega)⟩, ?_⟩ | (refine ⟨(by rw [wrap_prev (by assumption) (by omega)]; omega), ?_⟩) | ((with_reducible refine isSmall ?_) <;> (refine ⟨?_, ?_⟩; kernel_rfl)) | refine ⟨rfl, ?_⟩ | refine ⟨Int.natCast_nonneg _, ?_⟩)) | with_reducible refine Both.mk ?_ ?_ | rintro _ rfl | exact rfl | (split <;> (rename_i h; first | (simp only [beq_self_eq_true, eq_self, decide_true, Bool.not_true, Bool.false_eq_true] at h; done) | (try rw [h])))))
  all_goals (conv => whnf)
  all_goals first
    | exact ret_false ho fun hP => of_ndec (not_ok' h) hP.sch
    | exact ret_false ho fun hP => by have := of_decide_eq_true h; have := hP.most; omega
    | exact ret_false ho fun hP => of_ndec (not_ok' h) (hP.rows k row hrow).bef.fit
    | exact ret_false ho fun hP => Int.not_le.2 ((hP.rows k row hrow).bef.ord p (by have := of_decide_eq_true (by assumption : decide ((k : Int) > 0) = true); omega) hp) (of_decide_eq_true h)
    | exact ret_false ho fun hP => (of_dec h).elim fun o hc => (hP.rows k row hrow).apart o hc.1 (clash_symm.1 hc.2)
    | (have ho2 := of_decide_eq_false (by assumption : decide (cmpL (pickM p t.sch.keys) (pickM row t.sch.keys) ≥ 0) = false)
       have hB : before t.sch t.rows k row := ⟨of_dec (not_ok (by assumption)), fun p' _ hp' => by rw [hp] at hp'; cases hp'; exact Int.not_le.1 ho2⟩
       exact ⟨⟨k + 1, _, step_up (get_lt hrow) ht.rows, get_lt hrow, h60, hS, up_rows hv hrow ⟨hB, fun o hc1 hc2 => of_ndec h ⟨o, hc1, clash_symm.1 hc2⟩⟩, rfl⟩, mu_up (get_lt hrow) ht.rows⟩)
    | (have ho2 := of_decide_eq_false (by assumption : decide ((k : Int) > 0) = false)
       have hB : before t.sch t.rows k row := ⟨of_dec (not_ok (by assumption)), fun p' h0 _ => by omega⟩
       exact ⟨⟨k + 1, _, step_up (get_lt hrow) ht.rows, get_lt hrow, h60, hS, up_rows hv hrow ⟨hB, fun o hc1 hc2 => of_ndec h ⟨o, hc1, clash_symm.1 hc2⟩⟩, rfl⟩, mu_up (get_lt hrow) ht.rows⟩)
    | (have e : k = t.rows.length := by have := of_decide_eq_false h; omega
       exact ret_true ho ⟨hS, h60, fun j r hj => hv j r (by rw [e]; exact get_lt hj) hj⟩)
    | trace_state
theorem less_back : ∀ (a b : List UInt8), (Op.bytesLess b a || decide (b = a)) = !Op.bytesLess a b
  | [], [] => by simp [Op.bytesLess]
  | [], _ :: _ => by simp [Op.bytesLess]
  | _ :: _, [] => by simp [Op.bytesLess]
  | x :: a, y :: b => by
    have ih := less_back a b
    by_cases h1 : x < y
    · have h2 : ¬ y < x := fun h => UInt8.lt_irrefl _ (UInt8.lt_trans h1 h)
      have hne : ¬ y = x := fun e => by subst e; exact UInt8.lt_irrefl _ h1
      simp [Op.bytesLess, h1, h2, hne]
    · by_cases h2 : y < x
      · have hne : ¬ x = y := fun e => by subst e; exact h1 h2
        simp [Op.bytesLess, h1, h2, hne]
      · have e : x = y := UInt8.le_antisymm (UInt8.not_lt.1 h2) (UInt8.not_lt.1 h1)
        subst e
        simp [Op.bytesLess, h1]
        simpa using ih
structure tabOk (ts : List Tab) (k : Nat) (t : Tab) : Prop where
  tab : tableP t
  ord : ∀ p, 0 < k → ts[k - 1]? = some p → Op.bytesLess p.sch.name t.sch.name = true
structure dbP (ts : List Tab) : Prop where
  most : ts.length ≤ 8
  tabs : ∀ k t, ts[k]? = some t → tabOk ts k t
theorem up_tabs {ts : List Tab} {k : Nat} (h : ∀ j r, j < k → ts[j]? = some r → tabOk ts j r) {t : Tab} (ht : ts[k]? = some t) (h1 : tabOk ts k t) : ∀ j r, j < k + 1 → ts[j]? = some r → tabOk ts j r := by
  intro j r hj hjr
  by_cases e : j = k
  · subst e; rw [ht] at hjr; cases hjr; exact h1
  · exact h j r (by omega) hjr
set_option maxHeartbeats 8000000 in
theorem specDbRight (ts : List Tab) (hl : ts.length ≤ 2000000) (ha : ∀ t, t ∈ ts → t.fits) : Ent Tryz.prog 59 [.d (.agg [.sl false (ts.map tabD)])] [] (.d (.b (dec (dbP ts)))) [] := by
  obtain ⟨o, ho⟩ : ∃ o, o = dec (dbP ts) := ⟨_, rfl⟩
  rw [← ho]
  have hm := le_max2 hl
  have htl : (ts.map tabD).length = ts.length := List.length_map ..
  refine ent_of tok mixed (f := 59) Tryz.func59 (by kernel_rfl) (keep := false) ?_
  repeat' ((conv => whnf) <;> (first | ((with_reducible refine isCall ?_) <;> (first | (refine ⟨_, c2, ?_⟩; rintro _ _ ⟨rfl, rfl⟩) | refine ⟨_, get_map' ht, ?_⟩ | (obtain ⟨p, hp, hpi⟩ := prevOf (f := tabD) (xs := ts) (k := k) (by assumption) (get_lt ht) (by omega); refine ⟨_, hpi, ?_⟩) | (refine ⟨(by rw [wrap_prev (by assumption) (by omega)]; omega), ?_⟩) | fail)) | ((with_reducible refine isLoop ?_) <;> (first | (refine ⟨[1, 3], [10001], fun st => ∃ (k : Nat) (i : Int), i = k ∧ k ≤ ts.length ∧ ts.length ≤ 8 ∧ (∀ j r, j < k → ts[j]? = some r → tabOk ts j r) ∧ st = ⟨[(1, .ptr 10001 0), (3, .d (.i .i64 i))], [(10001, .var [.d (.sl false (ts.map tabD))])]⟩, fun st => match look 3 st.env with | some (.d (.i _ i)) => ts.length - i.toNat | _ => 0, rfl, ⟨0, _, rfl, Nat.zero_le _, (by have := of_decide_eq_false (by assumption : decide (((ts.map tabD).length : Int) > 8) = false); omega), (fun j r hj => absurd hj (Nat.not_lt_zero _)), rfl⟩, ?_⟩; rintro st ⟨k, i, rfl, hk, h8, hv, rfl⟩) | refine ⟨_, get_map' ht, ?_⟩ | (obtain ⟨p, hp, hpi⟩ := prevOf (f := tabD) (xs := ts) (k := k) (by assumption) (get_lt ht) (by omega); refine ⟨_, hpi, ?_⟩) | (refine ⟨(by rw [wrap_prev (by assumption) (by omega)]; omega), ?_⟩) | fail)) | ((with_reducible refine isCut ?_) <;> (first | refine ⟨⟨none⟩, ?_⟩)) | ((first | with_reducible refine isEx ?_ | with_reducible refine isAnd ?_ | with_reducible refine isOr ?_) <;> (first | refine ⟨_, get_map' ht, ?_⟩ | ((with_reducible refine isGet (xs := ts.map tabD) (i := ((k : Nat) : Int).toNat) ?_); obtain ⟨t, ht⟩ := get_ex (ss := ts) (k := k) (lt_of_dec (by assumption)); have c2 := specTableRight t (ha t (get_mem ht)); refine ⟨_, get_map' ht, ?_⟩) | (obtain ⟨p, hp, hpi⟩ := prevOf (f := tabD) (xs := ts) (k := k) (by assumption) (get_lt ht) (by omega); refine ⟨_, hpi, ?_⟩) | (refine ⟨(by rw [wrap_prev (by assumption) (by omega)]; omega), ?_⟩) | ((with_reducible refine isSmall ?_) <;> (refine ⟨?_, ?_⟩; kernel_rfl)) | refine ⟨rfl, ?_⟩ | refine ⟨Int.natCast_nonneg _, ?_⟩)) | with_reducible refine Both.mk ?_ ?_ | rintro _ rfl | exact rfl | (split <;> (rename_i h; first | (simp only [beq_self_eq_true, eq_self, decide_true, Bool.not_true, Bool.false_eq_true] at h; done) | (try rw [h])))))
  all_goals (conv => whnf)
  all_goals first
    | exact ret_false ho fun hP => by have := of_decide_eq_true h; have := hP.most; omega
    | exact ret_false ho fun hP => of_ndec (not_ok' h) (hP.tabs k t ht).tab
    | exact ret_false ho fun hP => Bool.noConfusion ((not_ok' h).symm.trans ((hP.tabs k t ht).ord p (by have := of_decide_eq_true (by assumption : decide ((k : Int) > 0) = true); omega) hp) : false = true)
    | exact ⟨⟨k + 1, _, step_up (get_lt ht) hm, get_lt ht, h8, up_tabs hv ht ⟨of_dec (not_ok (by assumption)), fun p' _ hp' => by rw [hp] at hp'; cases hp'; exact not_ok h⟩, rfl⟩, mu_up (get_lt ht) hm⟩
    | exact ⟨⟨k + 1, _, step_up (get_lt ht) hm, get_lt ht, h8, up_tabs hv ht ⟨of_dec (not_ok (by assumption)), fun p' h0 _ => by have := of_decide_eq_false h; omega⟩, rfl⟩, mu_up (get_lt ht) hm⟩
    | (have e : k = ts.length := by have := of_decide_eq_false h; omega
       exact ret_true ho ⟨h8, fun j r hj => hv j r (by rw [e]; exact get_lt hj) hj⟩)
    | trace_state
set_option maxHeartbeats 8000000 in
theorem implDbRight (ts : List Tab) (hl : ts.length ≤ 2000000) (ha : ∀ t, t ∈ ts → t.fits) : Ent Tryz.prog 111 [.d (.agg [.sl false (ts.map tabD)])] [] (.d (.b (dec (dbP ts)))) [] := by
  obtain ⟨o, ho⟩ : ∃ o, o = dec (dbP ts) := ⟨_, rfl⟩
  rw [← ho]
  have hm := le_max2 hl
  have htl : (ts.map tabD).length = ts.length := List.length_map ..
  refine ent_of tok mixed (f := 111) Tryz.func111 (by kernel_rfl) (keep := false) ?_
  repeat' ((conv => whnf) <;> (first | ((with_reducible refine isCall ?_) <;> (first | (refine ⟨_, c2, ?_⟩; rintro _ _ ⟨rfl, rfl⟩) | refine ⟨_, get_map' ht, ?_⟩ | (obtain ⟨p, hp, hpi⟩ := prevOf (f := tabD) (xs := ts) (k := k) (by assumption) (get_lt ht) (by have := get_lt ht; omega); refine ⟨_, hpi, ?_⟩) | (refine ⟨(by rw [wrap_prev (by assumption) (by have := get_lt ht; omega)]; omega), ?_⟩) | fail)) | ((with_reducible refine isLoop ?_) <;> (first | (refine ⟨[1, 6, 7, 8], [10001], fun st => ∃ (k : Nat) (i : Int), i = k ∧ k ≤ ts.length ∧ (∀ j r, j < k → ts[j]? = some r → tabOk ts j r) ∧ st = ⟨[(1, .ptr 10001 0), (6, .d (.sl false (ts.map tabD))), (7, .d (.i .i64 ((ts.map tabD).length : Int))), (8, .d (.i .i64 i))], [(10001, .var [.d (.sl false (ts.map tabD))])]⟩, fun st => match look 8 st.env with | some (.d (.i _ i)) => ts.length - i.toNat | _ => 0, rfl, ⟨0, _, rfl, Nat.zero_le _, (fun j r hj => absurd hj (Nat.not_lt_zero _)), rfl⟩, ?_⟩; rintro st ⟨k, i, rfl, hk, hv, rfl⟩) | refine ⟨_, get_map' ht, ?_⟩ | (obtain ⟨p, hp, hpi⟩ := prevOf (f := tabD) (xs := ts) (k := k) (by assumption) (get_lt ht) (by have := get_lt ht; omega); refine ⟨_, hpi, ?_⟩) | (refine ⟨(by rw [wrap_prev (by assumption) (by have := get_lt ht; omega)]; omega), ?_⟩) | fail)) | ((with_reducible refine isCut ?_) <;> (first | refine ⟨⟨none⟩, ?_⟩)) | ((first | with_reducible refine isEx ?_ | with_reducible refine isAnd ?_ | with_reducible refine isOr ?_) <;> (first | refine ⟨_, get_map' ht, ?_⟩ | ((with_reducible refine isGet (xs := ts.map tabD) (i := ((k : Nat) : Int).toNat) ?_); obtain ⟨t, ht⟩ := get_ex (ss := ts) (k := k) (lt_of_dec (by assumption)); have c2 := implTableRight t (ha t (get_mem ht)); refine ⟨_, get_map' ht, ?_⟩) | (obtain ⟨p, hp, hpi⟩ := prevOf (f := tabD) (xs := ts) (k := k) (by assumption) (get_lt ht) (by have := get_lt ht; omega); refine ⟨_, hpi, ?_⟩) | (refine ⟨(by rw [wrap_prev (by assumption) (by have := get_lt ht; omega)]; omega), ?_⟩) | ((with_reducible refine isSmall ?_) <;> (refine ⟨?_, ?_⟩; kernel_rfl)) | refine ⟨rfl, ?_⟩ | refine ⟨Int.natCast_nonneg _, ?_⟩)) | with_reducible refine Both.mk ?_ ?_ | rintro _ rfl | exact rfl | (split <;> (rename_i h; first | (simp only [beq_self_eq_true, eq_self, decide_true, Bool.not_true, Bool.false_eq_true] at h; done) | (try rw [h])))))
  all_goals (conv => whnf)
  all_goals first
    | exact ret_false ho fun hP => of_ndec (not_ok' h) (hP.tabs k t ht).tab
    | exact ret_false ho fun hP => Bool.noConfusion ((not_ok' ((less_back p.sch.name t.sch.name).symm.trans h)).symm.trans ((hP.tabs k t ht).ord p (by have := of_decide_eq_true (by assumption : decide ((k : Int) > 0) = true); omega) hp) : false = true)
    | exact ⟨⟨k + 1, _, step_up (get_lt ht) hm, get_lt ht, up_tabs hv ht ⟨of_dec (not_ok (by assumption)), fun p' _ hp' => by rw [hp] at hp'; cases hp'; exact not_ok ((less_back p.sch.name t.sch.name).symm.trans h)⟩, rfl⟩, mu_up (get_lt ht) hm⟩
    | exact ⟨⟨k + 1, _, step_up (get_lt ht) hm, get_lt ht, up_tabs hv ht ⟨of_dec (not_ok (by assumption)), fun p' h0 _ => by have := of_decide_eq_false h; omega⟩, rfl⟩, mu_up (get_lt ht) hm⟩
    | (have e : k = ts.length := by have := of_decide_eq_false h; omega
       refine ret_b ho ⟨fun hb => ⟨by have := of_decide_eq_true hb; omega, fun j r hj => hv j r (by rw [e]; exact get_lt hj) hj⟩, fun hP => decide_eq_true (by rw [htl]; have := hP.most; omega)⟩)
    | trace_state
end Go.Pm.Tryz
namespace Go.Pm.Tryz
open Go Go.Proofs
set_option linter.unusedVariables false
set_option linter.unusedSimpArgs false
set_option maxRecDepth 100000
def rowO (r : List Val) : D := .os 3 false (r.map valD)
def tabO (t : Tab) : D := .agg [.s t.sch.name, .os 3 false (t.sch.cols.map colD), .os 1 false (t.sch.keys.map i64D), .os 2 true (t.sch.idxs.map idxO), .os 1 true (t.rows.map rowO)]
theorem erase_rows : ∀ l : List (List Val), eraseL (l.map rowO) = l.map rowD
  | [] => rfl
  | x :: l => by simp only [List.map_cons, eraseL, erase_rows l, rowO, rowD, D.erase, erase_vals]
theorem erase_tabs : ∀ l : List Tab, eraseL (l.map tabO) = l.map tabD
  | [] => rfl
  | x :: l => by simp only [List.map_cons, eraseL, erase_tabs l, tabO, tabD, D.erase, erase_ints, erase_cols, erase_rows, erase_idx]
end Go.Pm.Tryz
namespace Go.Pm
open Go
theorem deep_rep {w : World} {X : Nat → Prop} {J : Nat → Option Place} {p : Place} {sz : Nat} {xs : List D} (h : (Ob.arr sz false xs).rep w X J p) : (Ob.arr sz true xs).rep w X J p := by
  obtain ⟨h0, a, cap, h1, h2, h3⟩ := h
  refine ⟨h0, a, cap, h1, h2, ?_⟩
  rcases h3 with h3 | ⟨g1, g2, g3, g4, _⟩
  · exact .inl h3
  · exact .inr ⟨g1, g2, g3, g4, fun h => by cases h⟩
theorem Mem.deep {X0 : Nat → Prop} {J : Nat → Option Place} {obj obj' : Nat → Option Ob} {w : World} (m : Mem X0 J obj w) (h : ∀ k, obj' k = obj k ∨ ∃ sz xs, obj k = some (.arr sz false xs) ∧ obj' k = some (.arr sz true xs)) : Mem X0 J obj' w where
  ob k o ho := by
    rcases h k with e | ⟨sz, xs, e1, e2⟩
    · rw [e] at ho; exact m.ob k o ho
    · rw [e2] at ho; cases ho
      obtain ⟨p, hp, hr⟩ := m.ob k _ e1
      exact ⟨p, hp, deep_rep hr⟩
  dom k p hp := by
    obtain ⟨o, ho⟩ := m.dom k p hp
    rcases h k with e | ⟨sz, xs, e1, e2⟩
    · exact ⟨o, e.trans ho⟩
    · exact ⟨_, e2⟩
  sep := m.sep
  nd := m.nd
  x0 := m.x0
theorem ent_deep {P : Program} {f : FuncId} {args : List AV} {objs : List Ob} {sz : Nat} {xs : List D} {R : AV} (h : EntQ P f args objs fun R' O => R' = R ∧ ∃ dp, O = [.arr sz dp xs]) : Ent P f args objs R [.arr sz true xs] where
  enters := h.enters
  calls X0 J w vs hr hm := (h.calls X0 J w vs hr hm).mono fun e w' ⟨R', O, v, J', ⟨hR, dp, hO⟩, he, hrep, hm', hk, h1, h2⟩ => by
    subst hR hO
    refine ⟨_, [.arr sz true xs], v, J', ⟨rfl, rfl⟩, he, hrep, hm'.deep fun k => ?_, hk, h1, h2⟩
    cases dp with
    | true => exact .inl rfl
    | false =>
      cases k with
      | zero => exact .inr ⟨sz, xs, rfl, rfl⟩
      | succ k => exact .inl rfl
theorem ent_deepL {P : Program} {f : FuncId} {args : List AV} {objs O1 : List Ob} {R : AV} (h : EntQ P f args objs fun R' O => R' = R ∧ ∀ k : Nat, O1[k]? = O[k]? ∨ ∃ sz xs, O[k]? = some (.arr sz false xs) ∧ O1[k]? = some (.arr sz true xs)) : Ent P f args objs R O1 where
  enters := h.enters
  calls X0 J w vs hr hm := (h.calls X0 J w vs hr hm).mono fun e w' ⟨R', O, v, J', ⟨hR, hO⟩, he, hrep, hm', hk, h1, h2⟩ => by
    subst hR
    exact ⟨_, O1, v, J', ⟨rfl, rfl⟩, he, hrep, hm'.deep hO, hk, h1, h2⟩
end Go.Pm
namespace Go.Pm.Tryz
open Go Go.Proofs
set_option linter.unusedVariables false
set_option linter.unusedSimpArgs false
set_option maxRecDepth 100000
theorem sub_small {a : Int} {n : Nat} (h0 : 0 ≤ a) (h1 : a ≤ 1048576) (hn : n ≤ maxLen) : IntKind.i64.wrap (a - (n : Int)) = a - n := by
  have : maxLen = 9223372036854775807 := rfl
  exact wrap_i64_id _ (by omega) (by omega)
def wValue (_ : Val) : Nat := 0
def wColumn (_ : Col) : Nat := 0
def wsum {α : Type} (w : α → Nat) (xs : List α) : Nat := (xs.map w).sum
def wl {α : Type} (w : α → Nat) (xs : List α) : Nat := xs.length + wsum w xs
theorem wsum_zero {α : Type} {w : α → Nat} {xs : List α} : wsum w (xs.take 0) = 0 := rfl
theorem wsum_up {α : Type} {w : α → Nat} {xs : List α} {k : Nat} {x : α} (h : xs[k]? = some x) : wsum w (xs.take (k + 1)) = wsum w (xs.take k) + w x := by
  simp only [wsum, take_up h, List.map_append, List.sum_append, List.map_cons, List.map_nil, List.sum_cons, List.sum_nil]; omega
theorem wsum_mem {α : Type} {w : α → Nat} : ∀ {xs : List α} {x : α}, x ∈ xs → w x ≤ wsum w xs
  | y :: ys, x, h => by
    simp only [wsum, List.map_cons, List.sum_cons]
    rcases List.mem_cons.1 h with rfl | h
    · omega
    · have := wsum_mem (w := w) h
      simp only [wsum] at this; omega
def wRow (r : List Val) : Nat := wl wValue r
def wIdx (i : Idx) : Nat := i.cols.length
def wSch (s : Schema) : Nat := wl wColumn s.cols + s.keys.length + wl wIdx s.idxs
def wTab (t : Tab) : Nat := wSch t.sch + wl wRow t.rows
def fitVal (v : Val) : Prop := v.text.length ≤ maxLen
def fitCol (c : Col) : Prop := c.name.length ≤ maxLen
def fitRow (r : List Val) : Prop := r.length ≤ maxLen ∧ ∀ v, v ∈ r → fitVal v
def fitIdx (i : Idx) : Prop := i.cols.length ≤ maxLen
def szRow (r : List Val) : Prop := r.length ≤ 1048576
def szIdx (i : Idx) : Prop := i.cols.length ≤ 1048576
structure szSch (s : Schema) : Prop where
  cols : s.cols.length ≤ 1048576
  keys : s.keys.length ≤ 1048576
  idxs : s.idxs.length ≤ 1048576
  lists : ∀ i, i ∈ s.idxs → szIdx i
structure szTab (t : Tab) : Prop where
  sch : szSch t.sch
  rows : t.rows.length ≤ 1048576
  row : ∀ r, r ∈ t.rows → szRow r
theorem sz_sch {s : Schema} (h : wSch s ≤ 1048576) : szSch s := by
  unfold wSch wl at h
  exact ⟨by omega, by omega, by omega, fun i hi => by have := wsum_mem (w := wIdx) hi; show i.cols.length ≤ 1048576; unfold wIdx at *; omega⟩
theorem sz_tab {t : Tab} (h : wTab t ≤ 1048576) : szTab t := by
  unfold wTab wl at h
  exact ⟨sz_sch (by omega), by omega, fun r hr => by have := wsum_mem (w := wRow) hr; show r.length ≤ 1048576; have e : wRow r = r.length + wsum wValue r := rfl; omega⟩
theorem sz_tabs {ts : List Tab} (h : wl wTab ts ≤ 1048576) : ts.length ≤ 1048576 ∧ ∀ t, t ∈ ts → szTab t := by
  unfold wl at h
  exact ⟨by omega, fun t ht => sz_tab (by have := wsum_mem (w := wTab) ht; omega)⟩
structure Tab.fit2 (t : Tab) : Prop where
  sch : t.sch.fits
  rows : t.rows.length ≤ maxLen
  row : ∀ r, r ∈ t.rows → fitRow r
def filled {α : Type} (g : α → D) (z : D) (xs : List α) (k : Nat) : List D := (xs.take k).map g ++ List.replicate (xs.length - k) z
theorem filled_zero {α : Type} (g : α → D) (z : D) (xs : List α) : List.replicate xs.length z = filled g z xs 0 := by simp [filled]
theorem filled_all {α : Type} (g : α → D) (z : D) (xs : List α) : filled g z xs xs.length = xs.map g := by simp [filled]
theorem filled_up {α : Type} {g : α → D} {z : D} {xs : List α} {k : Nat} {x : α} (h : xs[k]? = some x) : (filled g z xs k).set k (g x) = filled g z xs (k + 1) := by
  obtain ⟨hk, rfl⟩ := List.getElem?_eq_some_iff.1 h
  unfold filled
  rw [List.set_append_right _ _ (by simp; omega)]
  rw [List.take_succ_eq_append_getElem hk, List.map_append, List.append_assoc]
  congr 1
  have e : xs.length - k = (xs.length - (k + 1)) + 1 := by omega
  rw [e, List.replicate_succ]
  simp [Nat.min_eq_left (Nat.le_of_lt hk)]
theorem filled_len {α : Type} {g : α → D} {z : D} {xs : List α} {k : Nat} (h : k ≤ xs.length) : (filled g z xs k).length = xs.length := by simp [filled]; omega
theorem filled_get {α : Type} {g : α → D} {z : D} {xs : List α} {k : Nat} (h : k < xs.length) : (filled g z xs k)[k]? = some z := by
  have e : ((xs.take k).map g).length = k := by rw [List.length_map, List.length_take]; omega
  unfold filled
  rw [List.getElem?_append_right (by omega), e, Nat.sub_self, List.getElem?_replicate, if_pos (by omega)]
theorem szColumn (x : Col) (hf : x.name.length ≤ maxLen) (left : Int) (h0 : 0 ≤ left) (h1 : left ≤ 1048576) : EntQ Tryz.prog 192 [.d (colD x), .d (.i .i64 left)] [] (fun R O => ∃ r, R = .d (.i .i64 r) ∧ O = [] ∧ r ≤ left ∧ (0 ≤ r → r + ((wColumn x : Nat) : Int) ≤ left)) := by
  have e1 := sub_small (n := x.name.length) h0 h1 hf
  refine ent_of tok mixed (f := 192) Tryz.func192 (by kernel_rfl) (keep := false) ?_
  repeat' ((conv => whnf) <;> (first | ((with_reducible refine isCall ?_) <;> (first | fail)) | ((with_reducible refine isCut ?_) <;> (first | refine ⟨⟨none⟩, ?_⟩)) | ((first | with_reducible refine isEx ?_ | with_reducible refine isAnd ?_ | with_reducible refine isOr ?_) <;> (first | ((with_reducible refine isSmall ?_) <;> (refine ⟨?_, ?_⟩; kernel_rfl)) | refine ⟨rfl, ?_⟩ | refine ⟨Int.natCast_nonneg _, ?_⟩)) | with_reducible refine Both.mk ?_ ?_ | rintro _ rfl | exact rfl | (split <;> (rename_i h; first | (simp only [beq_self_eq_true, eq_self, decide_true, Bool.not_true, Bool.false_eq_true] at h; done) | (try rw [h])))))
  all_goals (conv => whnf)
  all_goals first
    | exact ⟨_, rfl, rfl, by omega, fun h => absurd h (by decide)⟩
    | exact ⟨_, rfl, rfl, by omega, fun _ => by show _ + ((0 : Nat) : Int) ≤ _; omega⟩
    | trace_state
theorem szValue (x : Val) (hf : x.text.length ≤ maxLen) (left : Int) (h0 : 0 ≤ left) (h1 : left ≤ 1048576) : EntQ Tryz.prog 194 [.d (valD x), .d (.i .i64 left)] [] (fun R O => ∃ r, R = .d (.i .i64 r) ∧ O = [] ∧ r ≤ left ∧ (0 ≤ r → r + ((wValue x : Nat) : Int) ≤ left)) := by
  have e1 := sub_small (n := x.text.length) h0 h1 hf
  refine ent_of tok mixed (f := 194) Tryz.func194 (by kernel_rfl) (keep := false) ?_
  repeat' ((conv => whnf) <;> (first | ((with_reducible refine isCall ?_) <;> (first | fail)) | ((with_reducible refine isCut ?_) <;> (first | refine ⟨⟨none⟩, ?_⟩)) | ((first | with_reducible refine isEx ?_ | with_reducible refine isAnd ?_ | with_reducible refine isOr ?_) <;> (first | ((with_reducible refine isSmall ?_) <;> (refine ⟨?_, ?_⟩; kernel_rfl)) | refine ⟨rfl, ?_⟩ | refine ⟨Int.natCast_nonneg _, ?_⟩)) | with_reducible refine Both.mk ?_ ?_ | rintro _ rfl | exact rfl | (split <;> (rename_i h; first | (simp only [beq_self_eq_true, eq_self, decide_true, Bool.not_true, Bool.false_eq_true] at h; done) | (try rw [h])))))
  all_goals (conv => whnf)
  all_goals first
    | exact ⟨_, rfl, rfl, by omega, fun h => absurd h (by decide)⟩
    | exact ⟨_, rfl, rfl, by omega, fun _ => by show _ + ((0 : Nat) : Int) ≤ _; omega⟩
    | trace_state
theorem szInt64S (xs : List Int) (hl : xs.length ≤ maxLen) (left : Int) (h0 : 0 ≤ left) (h1 : left ≤ 1048576) : EntQ Tryz.prog 164 [.d (.sl false (xs.map i64D)), .d (.i .i64 left)] [] (fun R O => ∃ r, R = .d (.i .i64 r) ∧ O = [] ∧ r ≤ left ∧ (0 ≤ r → r + ((xs.length : Nat) : Int) ≤ left)) := by
  have e1 := sub_small (n := (xs.map i64D).length) h0 h1 (by rw [List.length_map]; exact hl)
  have hxl : (xs.map i64D).length = xs.length := List.length_map ..
  refine ent_of tok mixed (f := 164) Tryz.func164 (by kernel_rfl) (keep := false) ?_
  repeat' ((conv => whnf) <;> (first | ((with_reducible refine isCall ?_) <;> (first | fail)) | ((with_reducible refine isCut ?_) <;> (first | refine ⟨⟨none⟩, ?_⟩)) | ((first | with_reducible refine isEx ?_ | with_reducible refine isAnd ?_ | with_reducible refine isOr ?_) <;> (first | ((with_reducible refine isSmall ?_) <;> (refine ⟨?_, ?_⟩; kernel_rfl)) | refine ⟨rfl, ?_⟩ | refine ⟨Int.natCast_nonneg _, ?_⟩)) | with_reducible refine Both.mk ?_ ?_ | rintro _ rfl | exact rfl | (split <;> (rename_i h; first | (simp only [beq_self_eq_true, eq_self, decide_true, Bool.not_true, Bool.false_eq_true] at h; done) | (try rw [h])))))
  all_goals (conv => whnf)
  all_goals first
    | exact ⟨_, rfl, rfl, by omega, fun h => absurd h (by decide)⟩
    | exact ⟨_, rfl, rfl, by omega, fun h => by omega⟩
    | trace_state
theorem szIndex (x : Idx) (hf : fitIdx x) (left : Int) (h0 : 0 ≤ left) (h1 : left ≤ 1048576) : EntQ Tryz.prog 193 [.d (idxD x), .d (.i .i64 left)] [] (fun R O => ∃ r, R = .d (.i .i64 r) ∧ O = [] ∧ r ≤ left ∧ (0 ≤ r → r + ((wIdx x : Nat) : Int) ≤ left)) := by
  have c1 := szInt64S x.cols hf left h0 h1
  refine ent_of tok mixed (f := 193) Tryz.func193 (by kernel_rfl) (keep := false) ?_
  repeat' ((conv => whnf) <;> (first | ((with_reducible refine isCall ?_) <;> (first | (refine ⟨_, c1, ?_⟩; rintro _ _ ⟨r, rfl, rfl, hr, hro⟩) | fail)) | ((with_reducible refine isCut ?_) <;> (first | refine ⟨⟨none⟩, ?_⟩)) | ((first | with_reducible refine isEx ?_ | with_reducible refine isAnd ?_ | with_reducible refine isOr ?_) <;> (first | ((with_reducible refine isSmall ?_) <;> (refine ⟨?_, ?_⟩; kernel_rfl)) | refine ⟨rfl, ?_⟩ | refine ⟨Int.natCast_nonneg _, ?_⟩)) | with_reducible refine Both.mk ?_ ?_ | rintro _ rfl | exact rfl | (split <;> (rename_i h; first | (simp only [beq_self_eq_true, eq_self, decide_true, Bool.not_true, Bool.false_eq_true] at h; done) | (try rw [h])))))
  all_goals (conv => whnf)
  all_goals first
    | exact ⟨_, rfl, rfl, by omega, fun h => absurd h (by decide)⟩
    | exact ⟨_, rfl, rfl, hr, hro⟩
    | trace_state
set_option maxHeartbeats 1000000 in
theorem szColumnS (xs : List (Col)) (hl : xs.length ≤ maxLen) (hf : ∀ x, x ∈ xs → fitCol x) (left : Int) (h0 : 0 ≤ left) (h1 : left ≤ 1048576) : EntQ Tryz.prog 163 [.d (.sl false (xs.map colD)), .d (.i .i64 left)] [] (fun R O => ∃ r, R = .d (.i .i64 r) ∧ O = [] ∧ r ≤ left ∧ (0 ≤ r → r + ((wl wColumn xs : Nat) : Int) ≤ left)) := by
  have e1 := sub_small (n := (xs.map colD).length) h0 h1 (by rw [List.length_map]; exact hl)
  have hxl : (xs.map colD).length = xs.length := List.length_map ..
  refine ent_of tok mixed (f := 163) Tryz.func163 (by kernel_rfl) (keep := false) ?_
  repeat' ((conv => whnf) <;> (first | ((with_reducible refine isCall ?_) <;> (first | (refine ⟨_, c1, ?_⟩; rintro _ _ ⟨r, rfl, rfl, hr, hro⟩) | fail)) | ((with_reducible refine isLoop ?_) <;> (first | (refine ⟨[5, 1, 0], [], fun s => ∃ (k : Nat) (n l : Int), n = k ∧ k ≤ xs.length ∧ (0 ≤ l ∧ l + ((xs.length + wsum wColumn (xs.take k) : Nat) : Int) ≤ left) ∧ s = ⟨[(5, .d (.i .i64 n)), (1, .d (.i .i64 l)), (0, .d (.sl false (xs.map colD)))], []⟩, fun s => match look 5 s.env with | some (.d (.i _ n)) => xs.length - n.toNat | _ => 0, rfl, ⟨0, _, _, rfl, Nat.zero_le _, (by have := of_decide_eq_false (by assumption : decide (IntKind.i64.wrap (left - ((xs.map colD).length : Int)) < 0) = false); rw [wsum_zero]; omega), rfl⟩, ?_⟩; rintro s ⟨k, n, l, rfl, hk, hl2, rfl⟩) | fail)) | ((with_reducible refine isCut ?_) <;> (first | refine ⟨⟨none⟩, ?_⟩)) | ((first | with_reducible refine isEx ?_ | with_reducible refine isAnd ?_ | with_reducible refine isOr ?_) <;> (first | ((with_reducible refine isGet (xs := xs.map colD) (i := ((k : Nat) : Int).toNat) ?_); obtain ⟨x, hx⟩ := get_ex (ss := xs) (k := k) (lt_of_dec (by assumption)); have c1 := szColumn x (hf x (get_mem hx)) l hl2.1 (by omega); refine ⟨_, get_map' hx, ?_⟩) | ((with_reducible refine isSmall ?_) <;> (refine ⟨?_, ?_⟩; kernel_rfl)) | refine ⟨rfl, ?_⟩ | refine ⟨Int.natCast_nonneg _, ?_⟩)) | with_reducible refine Both.mk ?_ ?_ | rintro _ rfl | exact rfl | (split <;> (rename_i h; first | (simp only [beq_self_eq_true, eq_self, decide_true, Bool.not_true, Bool.false_eq_true] at h; done) | (try rw [h])))))
  all_goals (conv => whnf)
  all_goals first
    | exact ⟨_, rfl, rfl, by omega, fun h => absurd h (by decide)⟩
    | (have hp := of_decide_eq_false (by assumption : decide (r < 0) = false)
       have hq := hro (by omega)
       exact ⟨⟨k + 1, _, _, step_up (get_lt hx) hl, get_lt hx, (by rw [wsum_up hx]; omega), rfl⟩, mu_up (get_lt hx) hl⟩)
    | (have e : k = xs.length := by have := of_decide_eq_false h; omega
       rw [e, List.take_length] at hl2
       exact ⟨_, rfl, rfl, by omega, fun h => hl2.2⟩)
    | trace_state
set_option maxHeartbeats 1000000 in
theorem szValueS (xs : List (Val)) (hl : xs.length ≤ maxLen) (hf : ∀ x, x ∈ xs → fitVal x) (left : Int) (h0 : 0 ≤ left) (h1 : left ≤ 1048576) : EntQ Tryz.prog 166 [.d (.sl false (xs.map valD)), .d (.i .i64 left)] [] (fun R O => ∃ r, R = .d (.i .i64 r) ∧ O = [] ∧ r ≤ left ∧ (0 ≤ r → r + ((wl wValue xs : Nat) : Int) ≤ left)) := by
  have e1 := sub_small (n := (xs.map valD).length) h0 h1 (by rw [List.length_map]; exact hl)
  have hxl : (xs.map valD).length = xs.length := List.length_map ..
  refine ent_of tok mixed (f := 166) Tryz.func166 (by kernel_rfl) (keep := false) ?_
  repeat' ((conv => whnf) <;> (first | ((with_reducible refine isCall ?_) <;> (first | (refine ⟨_, c1, ?_⟩; rintro _ _ ⟨r, rfl, rfl, hr, hro⟩) | fail)) | ((with_reducible refine isLoop ?_) <;> (first | (refine ⟨[5, 1, 0], [], fun s => ∃ (k : Nat) (n l : Int), n = k ∧ k ≤ xs.length ∧ (0 ≤ l ∧ l + ((xs.length + wsum wValue (xs.take k) : Nat) : Int) ≤ left) ∧ s = ⟨[(5, .d (.i .i64 n)), (1, .d (.i .i64 l)), (0, .d (.sl false (xs.map valD)))], []⟩, fun s => match look 5 s.env with | some (.d (.i _ n)) => xs.length - n.toNat | _ => 0, rfl, ⟨0, _, _, rfl, Nat.zero_le _, (by have := of_decide_eq_false (by assumption : decide (IntKind.i64.wrap (left - ((xs.map valD).length : Int)) < 0) = false); rw [wsum_zero]; omega), rfl⟩, ?_⟩; rintro s ⟨k, n, l, rfl, hk, hl2, rfl⟩) | fail)) | ((with_reducible refine isCut ?_) <;> (first | refine ⟨⟨none⟩, ?_⟩)) | ((first | with_reducible refine isEx ?_ | with_reducible refine isAnd ?_ | with_reducible refine isOr ?_) <;> (first | ((with_reducible refine isGet (xs := xs.map valD) (i := ((k : Nat) : Int).toNat) ?_); obtain ⟨x, hx⟩ := get_ex (ss := xs) (k := k) (lt_of_dec (by assumption)); have c1 := szValue x (hf x (get_mem hx)) l hl2.1 (by omega); refine ⟨_, get_map' hx, ?_⟩) | ((with_reducible refine isSmall ?_) <;> (refine ⟨?_, ?_⟩; kernel_rfl)) | refine ⟨rfl, ?_⟩ | refine ⟨Int.natCast_nonneg _, ?_⟩)) | with_reducible refine Both.mk ?_ ?_ | rintro _ rfl | exact rfl | (split <;> (rename_i h; first | (simp only [beq_self_eq_true, eq_self, decide_true, Bool.not_true, Bool.false_eq_true] at h; done) | (try rw [h])))))
  all_goals (conv => whnf)
  all_goals first
    | exact ⟨_, rfl, rfl, by omega, fun h => absurd h (by decide)⟩
    | (have hp := of_decide_eq_false (by assumption : decide (r < 0) = false)
       have hq := hro (by omega)
       exact ⟨⟨k + 1, _, _, step_up (get_lt hx) hl, get_lt hx, (by rw [wsum_up hx]; omega), rfl⟩, mu_up (get_lt hx) hl⟩)
    | (have e : k = xs.length := by have := of_decide_eq_false h; omega
       rw [e, List.take_length] at hl2
       exact ⟨_, rfl, rfl, by omega, fun h => hl2.2⟩)
    | trace_state
set_option maxHeartbeats 1000000 in
theorem szIndexS (xs : List (Idx)) (hl : xs.length ≤ maxLen) (hf : ∀ x, x ∈ xs → fitIdx x) (left : Int) (h0 : 0 ≤ left) (h1 : left ≤ 1048576) : EntQ Tryz.prog 165 [.d (.sl false (xs.map idxD)), .d (.i .i64 left)] [] (fun R O => ∃ r, R = .d (.i .i64 r) ∧ O = [] ∧ r ≤ left ∧ (0 ≤ r → r + ((wl wIdx xs : Nat) : Int) ≤ left)) := by
  have e1 := sub_small (n := (xs.map idxD).length) h0 h1 (by rw [List.length_map]; exact hl)
  have hxl : (xs.map idxD).length = xs.length := List.length_map ..
  refine ent_of tok mixed (f := 165) Tryz.func165 (by kernel_rfl) (keep := false) ?_
  repeat' ((conv => whnf) <;> (first | ((with_reducible refine isCall ?_) <;> (first | (refine ⟨_, c1, ?_⟩; rintro _ _ ⟨r, rfl, rfl, hr, hro⟩) | fail)) | ((with_reducible refine isLoop ?_) <;> (first | (refine ⟨[5, 1, 0], [], fun s => ∃ (k : Nat) (n l : Int), n = k ∧ k ≤ xs.length ∧ (0 ≤ l ∧ l + ((xs.length + wsum wIdx (xs.take k) : Nat) : Int) ≤ left) ∧ s = ⟨[(5, .d (.i .i64 n)), (1, .d (.i .i64 l)), (0, .d (.sl false (xs.map idxD)))], []⟩, fun s => match look 5 s.env with | some (.d (.i _ n)) => xs.length - n.toNat | _ => 0, rfl, ⟨0, _, _, rfl, Nat.zero_le _, (by have := of_decide_eq_false (by assumption : decide (IntKind.i64.wrap (left - ((xs.map idxD).length : Int)) < 0) = false); rw [wsum_zero]; omega), rfl⟩, ?_⟩; rintro s ⟨k, n, l, rfl, hk, hl2, rfl⟩) | fail)) | ((with_reducible refine isCut ?_) <;> (first | refine ⟨⟨none⟩, ?_⟩)) | ((first | with_reducible refine isEx ?_ | with_reducible refine isAnd ?_ | with_reducible refine isOr ?_) <;> (first | ((with_reducible refine isGet (xs := xs.map idxD) (i := ((k : Nat) : Int).toNat) ?_); obtain ⟨x, hx⟩ := get_ex (ss := xs) (k := k) (lt_of_dec (by assumption)); have c1 := szIndex x (hf x (get_mem hx)) l hl2.1 (by omega); refine ⟨_, get_map' hx, ?_⟩) | ((with_reducible refine isSmall ?_) <;> (refine ⟨?_, ?_⟩; kernel_rfl)) | refine ⟨rfl, ?_⟩ | refine ⟨Int.natCast_nonneg _, ?_⟩)) | with_reducible refine Both.mk ?_ ?_ | rintro _ rfl | exact rfl | (split <;> (rename_i h; first | (simp only [beq_self_eq_true, eq_self, decide_true, Bool.not_true, Bool.false_eq_true] at h; done) | (try rw [h])))))
  all_goals (conv => whnf)
  all_goals first
    | exact ⟨_, rfl, rfl, by omega, fun h => absurd h (by decide)⟩
    | (have hp := of_decide_eq_false (by assumption : decide (r < 0) = false)
       have hq := hro (by omega)
       exact ⟨⟨k + 1, _, _, step_up (get_lt hx) hl, get_lt hx, (by rw [wsum_up hx]; omega), rfl⟩, mu_up (get_lt hx) hl⟩)
    | (have e : k = xs.length := by have := of_decide_eq_false h; omega
       rw [e, List.take_length] at hl2
       exact ⟨_, rfl, rfl, by omega, fun h => hl2.2⟩)
    | trace_state
theorem szRowOf (x : List Val) (hf : fitRow x) (left : Int) (h0 : 0 ≤ left) (h1 : left ≤ 1048576) : EntQ Tryz.prog 166 [.d (rowD x), .d (.i .i64 left)] [] (fun R O => ∃ r, R = .d (.i .i64 r) ∧ O = [] ∧ r ≤ left ∧ (0 ≤ r → r + ((wRow x : Nat) : Int) ≤ left)) := szValueS x hf.1 hf.2 left h0 h1
set_option maxHeartbeats 1000000 in
theorem szValueSS (xs : List (List Val)) (hl : xs.length ≤ maxLen) (hf : ∀ x, x ∈ xs → fitRow x) (left : Int) (h0 : 0 ≤ left) (h1 : left ≤ 1048576) : EntQ Tryz.prog 138 [.d (.sl false (xs.map rowD)), .d (.i .i64 left)] [] (fun R O => ∃ r, R = .d (.i .i64 r) ∧ O = [] ∧ r ≤ left ∧ (0 ≤ r → r + ((wl wRow xs : Nat) : Int) ≤ left)) := by
  have e1 := sub_small (n := (xs.map rowD).length) h0 h1 (by rw [List.length_map]; exact hl)
  have hxl : (xs.map rowD).length = xs.length := List.length_map ..
  refine ent_of tok mixed (f := 138) Tryz.func138 (by kernel_rfl) (keep := false) ?_
  repeat' ((conv => whnf) <;> (first | ((with_reducible refine isCall ?_) <;> (first | (refine ⟨_, c1, ?_⟩; rintro _ _ ⟨r, rfl, rfl, hr, hro⟩) | fail)) | ((with_reducible refine isLoop ?_) <;> (first | (refine ⟨[5, 1, 0], [], fun s => ∃ (k : Nat) (n l : Int), n = k ∧ k ≤ xs.length ∧ (0 ≤ l ∧ l + ((xs.length + wsum wRow (xs.take k) : Nat) : Int) ≤ left) ∧ s = ⟨[(5, .d (.i .i64 n)), (1, .d (.i .i64 l)), (0, .d (.sl false (xs.map rowD)))], []⟩, fun s => match look 5 s.env with | some (.d (.i _ n)) => xs.length - n.toNat | _ => 0, rfl, ⟨0, _, _, rfl, Nat.zero_le _, (by have := of_decide_eq_false (by assumption : decide (IntKind.i64.wrap (left - ((xs.map rowD).length : Int)) < 0) = false); rw [wsum_zero]; omega), rfl⟩, ?_⟩; rintro s ⟨k, n, l, rfl, hk, hl2, rfl⟩) | fail)) | ((with_reducible refine isCut ?_) <;> (first | refine ⟨⟨none⟩, ?_⟩)) | ((first | with_reducible refine isEx ?_ | with_reducible refine isAnd ?_ | with_reducible refine isOr ?_) <;> (first | ((with_reducible refine isGet (xs := xs.map rowD) (i := ((k : Nat) : Int).toNat) ?_); obtain ⟨x, hx⟩ := get_ex (ss := xs) (k := k) (lt_of_dec (by assumption)); have c1 := szRowOf x (hf x (get_mem hx)) l hl2.1 (by omega); refine ⟨_, get_map' hx, ?_⟩) | ((with_reducible refine isSmall ?_) <;> (refine ⟨?_, ?_⟩; kernel_rfl)) | refine ⟨rfl, ?_⟩ | refine ⟨Int.natCast_nonneg _, ?_⟩)) | with_reducible refine Both.mk ?_ ?_ | rintro _ rfl | exact rfl | (split <;> (rename_i h; first | (simp only [beq_self_eq_true, eq_self, decide_true, Bool.not_true, Bool.false_eq_true] at h; done) | (try rw [h])))))
  all_goals (conv => whnf)
  all_goals first
    | exact ⟨_, rfl, rfl, by omega, fun h => absurd h (by decide)⟩
    | (have hp := of_decide_eq_false (by assumption : decide (r < 0) = false)
       have hq := hro (by omega)
       exact ⟨⟨k + 1, _, _, step_up (get_lt hx) hl, get_lt hx, (by rw [wsum_up hx]; omega), rfl⟩, mu_up (get_lt hx) hl⟩)
    | (have e : k = xs.length := by have := of_decide_eq_false h; omega
       rw [e, List.take_length] at hl2
       exact ⟨_, rfl, rfl, by omega, fun h => hl2.2⟩)
    | trace_state
set_option maxHeartbeats 1000000 in
theorem szSchema (x : Schema) (hf : x.fits) (left : Int) (h0 : 0 ≤ left) (h1 : left ≤ 1048576) : EntQ Tryz.prog 137 [.d (schemaD x), .d (.i .i64 left)] [] (fun R O => ∃ r, R = .d (.i .i64 r) ∧ O = [] ∧ r ≤ left ∧ (0 ≤ r → r + ((wSch x : Nat) : Int) ≤ left)) := by
  have e1 := sub_small (n := x.name.length) h0 h1 hf.name
  refine ent_of tok mixed (f := 137) Tryz.func137 (by kernel_rfl) (keep := false) ?_
  repeat' ((conv => whnf) <;> (first | ((with_reducible refine isCall ?_) <;> (first | (refine ⟨_, szColumnS x.cols hf.cols hf.names _ (Int.not_lt.1 (of_decide_eq_false (by assumption))) (by omega), ?_⟩; rintro _ _ ⟨r1, rfl, rfl, hr1, ho1⟩) | (refine ⟨_, szInt64S x.keys hf.keys _ (Int.not_lt.1 (of_decide_eq_false (by assumption))) (by omega), ?_⟩; rintro _ _ ⟨r2, rfl, rfl, hr2, ho2⟩) | (refine ⟨_, szIndexS x.idxs hf.idxs hf.lists _ (Int.not_lt.1 (of_decide_eq_false (by assumption))) (by omega), ?_⟩; rintro _ _ ⟨r3, rfl, rfl, hr3, ho3⟩) | fail)) | ((with_reducible refine isCut ?_) <;> (first | refine ⟨⟨none⟩, ?_⟩)) | ((first | with_reducible refine isEx ?_ | with_reducible refine isAnd ?_ | with_reducible refine isOr ?_) <;> (first | ((with_reducible refine isSmall ?_) <;> (refine ⟨?_, ?_⟩; kernel_rfl)) | refine ⟨rfl, ?_⟩ | refine ⟨Int.natCast_nonneg _, ?_⟩)) | with_reducible refine Both.mk ?_ ?_ | rintro _ rfl | exact rfl | (split <;> (rename_i h; first | (simp only [beq_self_eq_true, eq_self, decide_true, Bool.not_true, Bool.false_eq_true] at h; done) | (try rw [h])))))
  all_goals (conv => whnf)
  all_goals first
    | exact ⟨_, rfl, rfl, by omega, fun h => absurd h (by decide)⟩
    | exact ⟨_, rfl, rfl, by omega, fun h => by have q1 := ho1 (by omega); have q2 := ho2 (by omega); have q3 := ho3 (by omega); unfold wSch; omega⟩
    | trace_state
set_option maxHeartbeats 1000000 in
theorem szTable (x : Tab) (hf : x.fit2) (left : Int) (h0 : 0 ≤ left) (h1 : left ≤ 1048576) : EntQ Tryz.prog 96 [.d (tabD x), .d (.i .i64 left)] [] (fun R O => ∃ r, R = .d (.i .i64 r) ∧ O = [] ∧ r ≤ left ∧ (0 ≤ r → r + ((wTab x : Nat) : Int) ≤ left)) := by
  refine ent_of tok mixed (f := 96) Tryz.func96 (by kernel_rfl) (keep := false) ?_
  repeat' ((conv => whnf) <;> (first | ((with_reducible refine isCall ?_) <;> (first | (refine ⟨_, szSchema x.sch hf.sch left h0 h1, ?_⟩; rintro _ _ ⟨r1, rfl, rfl, hr1, ho1⟩) | (refine ⟨_, szValueSS x.rows hf.rows hf.row _ (Int.not_lt.1 (of_decide_eq_false (by assumption))) (by omega), ?_⟩; rintro _ _ ⟨r2, rfl, rfl, hr2, ho2⟩) | fail)) | ((with_reducible refine isCut ?_) <;> (first | refine ⟨⟨none⟩, ?_⟩)) | ((first | with_reducible refine isEx ?_ | with_reducible refine isAnd ?_ | with_reducible refine isOr ?_) <;> (first | ((with_reducible refine isSmall ?_) <;> (refine ⟨?_, ?_⟩; kernel_rfl)) | refine ⟨rfl, ?_⟩ | refine ⟨Int.natCast_nonneg _, ?_⟩)) | with_reducible refine Both.mk ?_ ?_ | rintro _ rfl | exact rfl | (split <;> (rename_i h; first | (simp only [beq_self_eq_true, eq_self, decide_true, Bool.not_true, Bool.false_eq_true] at h; done) | (try rw [h])))))
  all_goals (conv => whnf)
  all_goals first
    | exact ⟨_, rfl, rfl, by omega, fun h => absurd h (by decide)⟩
    | exact ⟨_, rfl, rfl, by omega, fun h => by have q1 := ho1 (by omega); have q2 := ho2 (by omega); unfold wTab; omega⟩
    | trace_state
set_option maxHeartbeats 1000000 in
theorem szTableS (xs : List (Tab)) (hl : xs.length ≤ maxLen) (hf : ∀ x, x ∈ xs → Tab.fit2 x) (left : Int) (h0 : 0 ≤ left) (h1 : left ≤ 1048576) : EntQ Tryz.prog 57 [.d (.sl false (xs.map tabD)), .d (.i .i64 left)] [] (fun R O => ∃ r, R = .d (.i .i64 r) ∧ O = [] ∧ r ≤ left ∧ (0 ≤ r → r + ((wl wTab xs : Nat) : Int) ≤ left)) := by
  have e1 := sub_small (n := (xs.map tabD).length) h0 h1 (by rw [List.length_map]; exact hl)
  have hxl : (xs.map tabD).length = xs.length := List.length_map ..
  refine ent_of tok mixed (f := 57) Tryz.func57 (by kernel_rfl) (keep := false) ?_
  repeat' ((conv => whnf) <;> (first | ((with_reducible refine isCall ?_) <;> (first | (refine ⟨_, c1, ?_⟩; rintro _ _ ⟨r, rfl, rfl, hr, hro⟩) | fail)) | ((with_reducible refine isLoop ?_) <;> (first | (refine ⟨[5, 1, 0], [], fun s => ∃ (k : Nat) (n l : Int), n = k ∧ k ≤ xs.length ∧ (0 ≤ l ∧ l + ((xs.length + wsum wTab (xs.take k) : Nat) : Int) ≤ left) ∧ s = ⟨[(5, .d (.i .i64 n)), (1, .d (.i .i64 l)), (0, .d (.sl false (xs.map tabD)))], []⟩, fun s => match look 5 s.env with | some (.d (.i _ n)) => xs.length - n.toNat | _ => 0, rfl, ⟨0, _, _, rfl, Nat.zero_le _, (by have := of_decide_eq_false (by assumption : decide (IntKind.i64.wrap (left - ((xs.map tabD).length : Int)) < 0) = false); rw [wsum_zero]; omega), rfl⟩, ?_⟩; rintro s ⟨k, n, l, rfl, hk, hl2, rfl⟩) | fail)) | ((with_reducible refine isCut ?_) <;> (first | refine ⟨⟨none⟩, ?_⟩)) | ((first | with_reducible refine isEx ?_ | with_reducible refine isAnd ?_ | with_reducible refine isOr ?_) <;> (first | ((with_reducible refine isGet (xs := xs.map tabD) (i := ((k : Nat) : Int).toNat) ?_); obtain ⟨x, hx⟩ := get_ex (ss := xs) (k := k) (lt_of_dec (by assumption)); have c1 := szTable x (hf x (get_mem hx)) l hl2.1 (by omega); refine ⟨_, get_map' hx, ?_⟩) | ((with_reducible refine isSmall ?_) <;> (refine ⟨?_, ?_⟩; kernel_rfl)) | refine ⟨rfl, ?_⟩ | refine ⟨Int.natCast_nonneg _, ?_⟩)) | with_reducible refine Both.mk ?_ ?_ | rintro _ rfl | exact rfl | (split <;> (rename_i h; first | (simp only [beq_self_eq_true, eq_self, decide_true, Bool.not_true, Bool.false_eq_true] at h; done) | (try rw [h])))))
  all_goals (conv => whnf)
  all_goals first
    | exact ⟨_, rfl, rfl, by omega, fun h => absurd h (by decide)⟩
    | (have hp := of_decide_eq_false (by assumption : decide (r < 0) = false)
       have hq := hro (by omega)
       exact ⟨⟨k + 1, _, _, step_up (get_lt hx) hl, get_lt hx, (by rw [wsum_up hx]; omega), rfl⟩, mu_up (get_lt hx) hl⟩)
    | (have e : k = xs.length := by have := of_decide_eq_false h; omega
       rw [e, List.take_length] at hl2
       exact ⟨_, rfl, rfl, by omega, fun h => hl2.2⟩)
    | trace_state
theorem szDb (xs : List Tab) (hl : xs.length ≤ maxLen) (hf : ∀ x, x ∈ xs → x.fit2) : EntQ Tryz.prog 29 [.d (.agg [.sl false (xs.map tabD)]), .d (.i .i64 1048576)] [] (fun R O => ∃ r, R = .d (.i .i64 r) ∧ O = [] ∧ (0 ≤ r → wl wTab xs ≤ 1048576)) := by
  have c1 := szTableS xs hl hf 1048576 (by decide) (by decide)
  refine ent_of tok mixed (f := 29) Tryz.func29 (by kernel_rfl) (keep := false) ?_
  repeat' ((conv => whnf) <;> (first | ((with_reducible refine isCall ?_) <;> (first | (refine ⟨_, c1, ?_⟩; rintro _ _ ⟨r, rfl, rfl, hr, hro⟩) | fail)) | ((with_reducible refine isCut ?_) <;> (first | refine ⟨⟨none⟩, ?_⟩)) | ((first | with_reducible refine isEx ?_ | with_reducible refine isAnd ?_ | with_reducible refine isOr ?_) <;> (first | ((with_reducible refine isSmall ?_) <;> (refine ⟨?_, ?_⟩; kernel_rfl)) | refine ⟨rfl, ?_⟩ | refine ⟨Int.natCast_nonneg _, ?_⟩)) | with_reducible refine Both.mk ?_ ?_ | rintro _ rfl | exact rfl | (split <;> (rename_i h; first | (simp only [beq_self_eq_true, eq_self, decide_true, Bool.not_true, Bool.false_eq_true] at h; done) | (try rw [h])))))
  all_goals (conv => whnf)
  all_goals first
    | exact ⟨_, rfl, rfl, fun h => absurd h (by decide)⟩
    | exact ⟨_, rfl, rfl, fun h => by have := hro h; omega⟩
    | trace_state
theorem toColumn (x : Col) : Ent Tryz.prog 195 [.d (colD x)] [] (.d (colD x)) [] := by
  refine ent_of tok mixed (f := 195) Tryz.func195 (by kernel_rfl) (keep := false) ?_
  repeat' ((conv => whnf) <;> (first | ((with_reducible refine isCall ?_) <;> (first | fail)) | ((with_reducible refine isCut ?_) <;> (first | refine ⟨⟨none⟩, ?_⟩)) | ((first | with_reducible refine isEx ?_ | with_reducible refine isAnd ?_ | with_reducible refine isOr ?_) <;> (first | ((with_reducible refine isSmall ?_) <;> (refine ⟨?_, ?_⟩; kernel_rfl)) | refine ⟨rfl, ?_⟩ | refine ⟨Int.natCast_nonneg _, ?_⟩)) | with_reducible refine Both.mk ?_ ?_ | rintro _ rfl | exact rfl | (split <;> (rename_i h; first | (simp only [beq_self_eq_true, eq_self, decide_true, Bool.not_true, Bool.false_eq_true] at h; done) | (try rw [h])))))
theorem toValue (x : Val) : Ent Tryz.prog 197 [.d (valD x)] [] (.d (valD x)) [] := by
  refine ent_of tok mixed (f := 197) Tryz.func197 (by kernel_rfl) (keep := false) ?_
  repeat' ((conv => whnf) <;> (first | ((with_reducible refine isCall ?_) <;> (first | fail)) | ((with_reducible refine isCut ?_) <;> (first | refine ⟨⟨none⟩, ?_⟩)) | ((first | with_reducible refine isEx ?_ | with_reducible refine isAnd ?_ | with_reducible refine isOr ?_) <;> (first | ((with_reducible refine isSmall ?_) <;> (refine ⟨?_, ?_⟩; kernel_rfl)) | refine ⟨rfl, ?_⟩ | refine ⟨Int.natCast_nonneg _, ?_⟩)) | with_reducible refine Both.mk ?_ ?_ | rintro _ rfl | exact rfl | (split <;> (rename_i h; first | (simp only [beq_self_eq_true, eq_self, decide_true, Bool.not_true, Bool.false_eq_true] at h; done) | (try rw [h])))))
set_option maxHeartbeats 4000000 in
theorem toInt64S (xs : List (Int)) (hl : xs.length ≤ 1048576) : Ent Tryz.prog 169 [.d (.sl false (xs.map i64D))] [] (.own 0) [.arr 1 false (xs.map i64D)] := by
  have hm : xs.length ≤ maxLen := Nat.le_trans hl (by decide)
  have hxl : (xs.map i64D).length = xs.length := List.length_map ..
  refine ent_of (cx := ⟨tab, [], []⟩) tok mixed (f := 169) Tryz.func169 (by kernel_rfl) (keep := true) ?_
  repeat' ((conv => whnf) <;> (first | ((with_reducible refine isCall ?_) <;> (first | refine ⟨⟨rfl, Int.natCast_nonneg _, (by rw [List.length_map]; show (xs.length : Int) * ((8 : Nat) : Int) ≤ 281474976710656; omega), (by rw [List.length_map]; have : ((maxLen : Nat) : Int) = 9223372036854775807 := rfl; omega)⟩, ?_⟩ | refine ⟨⟨(by rw [hz]; show k < _; rw [filled_len hk]; exact get_lt hx), rfl⟩, ?_⟩ | refine ⟨⟨Int.natCast_nonneg _, (by rw [hz, filled_len hk]; have := get_lt hx; omega)⟩, ?_⟩ | fail)) | ((with_reducible refine isLoop ?_) <;> (first | (refine ⟨[4, 3, 0], [10007], fun s => ∃ (k : Nat) (n : Int) (zs : List D), n = k ∧ k ≤ xs.length ∧ zs = filled i64D (.i .i64 (Int.ofNat 0)) xs k ∧ s = ⟨[(4, .d (.i .i64 n)), (3, .own 10007), (0, .d (.sl false (xs.map i64D)))], [(10007, .arr 1 false zs)]⟩, fun s => match look 4 s.env with | some (.d (.i _ n)) => xs.length - n.toNat | _ => 0, rfl, ⟨0, _, _, rfl, Nat.zero_le _, ?_, rfl⟩, ?_⟩; rotate_left; rintro s ⟨k, n, zs, rfl, hk, hz, rfl⟩) | refine ⟨⟨rfl, Int.natCast_nonneg _, (by rw [List.length_map]; show (xs.length : Int) * ((8 : Nat) : Int) ≤ 281474976710656; omega), (by rw [List.length_map]; have : ((maxLen : Nat) : Int) = 9223372036854775807 := rfl; omega)⟩, ?_⟩ | refine ⟨⟨(by rw [hz]; show k < _; rw [filled_len hk]; exact get_lt hx), rfl⟩, ?_⟩ | refine ⟨⟨Int.natCast_nonneg _, (by rw [hz, filled_len hk]; have := get_lt hx; omega)⟩, ?_⟩ | fail)) | ((with_reducible refine isCut ?_) <;> (first | refine ⟨⟨none⟩, ?_⟩)) | ((first | with_reducible refine isEx ?_ | with_reducible refine isAnd ?_ | with_reducible refine isOr ?_) <;> (first | ((with_reducible refine isGet (xs := xs.map i64D) (i := ((k : Nat) : Int).toNat) ?_); obtain ⟨x, hx⟩ := get_ex (ss := xs) (k := k) (lt_of_dec (by assumption)); refine ⟨_, get_map' hx, ?_⟩) | refine ⟨⟨rfl, Int.natCast_nonneg _, (by rw [List.length_map]; show (xs.length : Int) * ((8 : Nat) : Int) ≤ 281474976710656; omega), (by rw [List.length_map]; have : ((maxLen : Nat) : Int) = 9223372036854775807 := rfl; omega)⟩, ?_⟩ | refine ⟨⟨(by rw [hz]; show k < _; rw [filled_len hk]; exact get_lt hx), rfl⟩, ?_⟩ | refine ⟨⟨Int.natCast_nonneg _, (by rw [hz, filled_len hk]; have := get_lt hx; omega)⟩, ?_⟩ | ((with_reducible refine isSmall ?_) <;> (refine ⟨?_, ?_⟩; kernel_rfl)) | refine ⟨rfl, ?_⟩ | refine ⟨Int.natCast_nonneg _, ?_⟩)) | with_reducible refine Both.mk ?_ ?_ | rintro _ rfl | exact rfl | (split <;> (rename_i h; first | (simp only [beq_self_eq_true, eq_self, decide_true, Bool.not_true, Bool.false_eq_true] at h; done) | (try rw [h])))))
  all_goals (conv => whnf)
  all_goals first
    | exact ⟨⟨k + 1, _, _, step_up (get_lt hx) hm, get_lt hx, (by rw [hz]; exact filled_up hx), rfl⟩, mu_up (get_lt hx) hm⟩
    | (have e : k = xs.length := by have := of_decide_eq_false h; omega
       rw [hz, e, filled_all]; rfl)
    | (show List.replicate (xs.map i64D).length _ = _
       rw [List.length_map]; exact filled_zero _ _ _)
    | trace_state
set_option maxHeartbeats 4000000 in
theorem toColumnS (xs : List (Col)) (hl : xs.length ≤ 1048576) : Ent Tryz.prog 168 [.d (.sl false (xs.map colD))] [] (.own 0) [.arr 3 false (xs.map colD)] := by
  have hm : xs.length ≤ maxLen := Nat.le_trans hl (by decide)
  have hxl : (xs.map colD).length = xs.length := List.length_map ..
  refine ent_of (cx := ⟨tab, [], []⟩) tok mixed (f := 168) Tryz.func168 (by kernel_rfl) (keep := true) ?_
  repeat' ((conv => whnf) <;> (first | ((with_reducible refine isCall ?_) <;> (first | (refine ⟨_, toColumn x, ?_⟩; rintro _ _ ⟨rfl, rfl⟩) | refine ⟨⟨rfl, Int.natCast_nonneg _, (by rw [List.length_map]; show (xs.length : Int) * ((32 : Nat) : Int) ≤ 281474976710656; omega), (by rw [List.length_map]; have : ((maxLen : Nat) : Int) = 9223372036854775807 := rfl; omega)⟩, ?_⟩ | refine ⟨⟨(by rw [hz]; show k < _; rw [filled_len hk]; exact get_lt hx), rfl⟩, ?_⟩ | refine ⟨⟨Int.natCast_nonneg _, (by rw [hz, filled_len hk]; have := get_lt hx; omega)⟩, ?_⟩ | fail)) | ((with_reducible refine isLoop ?_) <;> (first | (refine ⟨[4, 3, 0], [10007], fun s => ∃ (k : Nat) (n : Int) (zs : List D), n = k ∧ k ≤ xs.length ∧ zs = filled colD (.agg [.s [], .i .i64 (Int.ofNat 0), .b false]) xs k ∧ s = ⟨[(4, .d (.i .i64 n)), (3, .own 10007), (0, .d (.sl false (xs.map colD)))], [(10007, .arr 3 false zs)]⟩, fun s => match look 4 s.env with | some (.d (.i _ n)) => xs.length - n.toNat | _ => 0, rfl, ⟨0, _, _, rfl, Nat.zero_le _, ?_, rfl⟩, ?_⟩; rotate_left; rintro s ⟨k, n, zs, rfl, hk, hz, rfl⟩) | refine ⟨⟨rfl, Int.natCast_nonneg _, (by rw [List.length_map]; show (xs.length : Int) * ((32 : Nat) : Int) ≤ 281474976710656; omega), (by rw [List.length_map]; have : ((maxLen : Nat) : Int) = 9223372036854775807 := rfl; omega)⟩, ?_⟩ | refine ⟨⟨(by rw [hz]; show k < _; rw [filled_len hk]; exact get_lt hx), rfl⟩, ?_⟩ | refine ⟨⟨Int.natCast_nonneg _, (by rw [hz, filled_len hk]; have := get_lt hx; omega)⟩, ?_⟩ | fail)) | ((with_reducible refine isCut ?_) <;> (first | refine ⟨⟨none⟩, ?_⟩)) | ((first | with_reducible refine isEx ?_ | with_reducible refine isAnd ?_ | with_reducible refine isOr ?_) <;> (first | ((with_reducible refine isGet (xs := xs.map colD) (i := ((k : Nat) : Int).toNat) ?_); obtain ⟨x, hx⟩ := get_ex (ss := xs) (k := k) (lt_of_dec (by assumption)); refine ⟨_, get_map' hx, ?_⟩) | refine ⟨⟨rfl, Int.natCast_nonneg _, (by rw [List.length_map]; show (xs.length : Int) * ((32 : Nat) : Int) ≤ 281474976710656; omega), (by rw [List.length_map]; have : ((maxLen : Nat) : Int) = 9223372036854775807 := rfl; omega)⟩, ?_⟩ | refine ⟨⟨(by rw [hz]; show k < _; rw [filled_len hk]; exact get_lt hx), rfl⟩, ?_⟩ | refine ⟨⟨Int.natCast_nonneg _, (by rw [hz, filled_len hk]; have := get_lt hx; omega)⟩, ?_⟩ | ((with_reducible refine isSmall ?_) <;> (refine ⟨?_, ?_⟩; kernel_rfl)) | refine ⟨rfl, ?_⟩ | refine ⟨Int.natCast_nonneg _, ?_⟩)) | with_reducible refine Both.mk ?_ ?_ | rintro _ rfl | exact rfl | (split <;> (rename_i h; first | (simp only [beq_self_eq_true, eq_self, decide_true, Bool.not_true, Bool.false_eq_true] at h; done) | (try rw [h])))))
  all_goals (conv => whnf)
  all_goals first
    | exact ⟨⟨k + 1, _, _, step_up (get_lt hx) hm, get_lt hx, (by rw [hz]; exact filled_up hx), rfl⟩, mu_up (get_lt hx) hm⟩
    | (have e : k = xs.length := by have := of_decide_eq_false h; omega
       rw [hz, e, filled_all]; rfl)
    | (show List.replicate (xs.map colD).length _ = _
       rw [List.length_map]; exact filled_zero _ _ _)
    | trace_state
set_option maxHeartbeats 4000000 in
theorem toValueS (xs : List (Val)) (hl : xs.length ≤ 1048576) : Ent Tryz.prog 171 [.d (.sl false (xs.map valD))] [] (.own 0) [.arr 3 false (xs.map valD)] := by
  have hm : xs.length ≤ maxLen := Nat.le_trans hl (by decide)
  have hxl : (xs.map valD).length = xs.length := List.length_map ..
  refine ent_of (cx := ⟨tab, [], []⟩) tok mixed (f := 171) Tryz.func171 (by kernel_rfl) (keep := true) ?_
  repeat' ((conv => whnf) <;> (first | ((with_reducible refine isCall ?_) <;> (first | (refine ⟨_, toValue x, ?_⟩; rintro _ _ ⟨rfl, rfl⟩) | refine ⟨⟨rfl, Int.natCast_nonneg _, (by rw [List.length_map]; show (xs.length : Int) * ((32 : Nat) : Int) ≤ 281474976710656; omega), (by rw [List.length_map]; have : ((maxLen : Nat) : Int) = 9223372036854775807 := rfl; omega)⟩, ?_⟩ | refine ⟨⟨(by rw [hz]; show k < _; rw [filled_len hk]; exact get_lt hx), rfl⟩, ?_⟩ | refine ⟨⟨Int.natCast_nonneg _, (by rw [hz, filled_len hk]; have := get_lt hx; omega)⟩, ?_⟩ | fail)) | ((with_reducible refine isLoop ?_) <;> (first | (refine ⟨[4, 3, 0], [10007], fun s => ∃ (k : Nat) (n : Int) (zs : List D), n = k ∧ k ≤ xs.length ∧ zs = filled valD (.agg [.i .i64 (Int.ofNat 0), .i .i64 (Int.ofNat 0), .s []]) xs k ∧ s = ⟨[(4, .d (.i .i64 n)), (3, .own 10007), (0, .d (.sl false (xs.map valD)))], [(10007, .arr 3 false zs)]⟩, fun s => match look 4 s.env with | some (.d (.i _ n)) => xs.length - n.toNat | _ => 0, rfl, ⟨0, _, _, rfl, Nat.zero_le _, ?_, rfl⟩, ?_⟩; rotate_left; rintro s ⟨k, n, zs, rfl, hk, hz, rfl⟩) | refine ⟨⟨rfl, Int.natCast_nonneg _, (by rw [List.length_map]; show (xs.length : Int) * ((32 : Nat) : Int) ≤ 281474976710656; omega), (by rw [List.length_map]; have : ((maxLen : Nat) : Int) = 9223372036854775807 := rfl; omega)⟩, ?_⟩ | refine ⟨⟨(by rw [hz]; show k < _; rw [filled_len hk]; exact get_lt hx), rfl⟩, ?_⟩ | refine ⟨⟨Int.natCast_nonneg _, (by rw [hz, filled_len hk]; have := get_lt hx; omega)⟩, ?_⟩ | fail)) | ((with_reducible refine isCut ?_) <;> (first | refine ⟨⟨none⟩, ?_⟩)) | ((first | with_reducible refine isEx ?_ | with_reducible refine isAnd ?_ | with_reducible refine isOr ?_) <;> (first | ((with_reducible refine isGet (xs := xs.map valD) (i := ((k : Nat) : Int).toNat) ?_); obtain ⟨x, hx⟩ := get_ex (ss := xs) (k := k) (lt_of_dec (by assumption)); refine ⟨_, get_map' hx, ?_⟩) | refine ⟨⟨rfl, Int.natCast_nonneg _, (by rw [List.length_map]; show (xs.length : Int) * ((32 : Nat) : Int) ≤ 281474976710656; omega), (by rw [List.length_map]; have : ((maxLen : Nat) : Int) = 9223372036854775807 := rfl; omega)⟩, ?_⟩ | refine ⟨⟨(by rw [hz]; show k < _; rw [filled_len hk]; exact get_lt hx), rfl⟩, ?_⟩ | refine ⟨⟨Int.natCast_nonneg _, (by rw [hz, filled_len hk]; have := get_lt hx; omega)⟩, ?_⟩ | ((with_reducible refine isSmall ?_) <;> (refine ⟨?_, ?_⟩; kernel_rfl)) | refine ⟨rfl, ?_⟩ | refine ⟨Int.natCast_nonneg _, ?_⟩)) | with_reducible refine Both.mk ?_ ?_ | rintro _ rfl | exact rfl | (split <;> (rename_i h; first | (simp only [beq_self_eq_true, eq_self, decide_true, Bool.not_true, Bool.false_eq_true] at h; done) | (try rw [h])))))
  all_goals (conv => whnf)
  all_goals first
    | exact ⟨⟨k + 1, _, _, step_up (get_lt hx) hm, get_lt hx, (by rw [hz]; exact filled_up hx), rfl⟩, mu_up (get_lt hx) hm⟩
    | (have e : k = xs.length := by have := of_decide_eq_false h; omega
       rw [hz, e, filled_all]; rfl)
    | (show List.replicate (xs.map valD).length _ = _
       rw [List.length_map]; exact filled_zero _ _ _)
    | trace_state
theorem toIndex (x : Idx) (hs : szIdx x) : Ent Tryz.prog 196 [.d (idxD x)] [] (.agg [.own 0, .d (.b x.uniq)]) [.arr 1 false (x.cols.map i64D)] := by
  have c1 := toInt64S x.cols hs
  refine ent_of (cx := ⟨tab, [], []⟩) tok mixed (f := 196) Tryz.func196 (by kernel_rfl) (keep := true) ?_
  repeat' ((conv => whnf) <;> (first | ((with_reducible refine isCall ?_) <;> (first | (refine ⟨_, c1, ?_⟩; rintro _ _ ⟨rfl, rfl⟩) | fail)) | ((with_reducible refine isCut ?_) <;> (first | refine ⟨⟨none⟩, ?_⟩)) | ((first | with_reducible refine isEx ?_ | with_reducible refine isAnd ?_ | with_reducible refine isOr ?_) <;> (first | ((with_reducible refine isSmall ?_) <;> (refine ⟨?_, ?_⟩; kernel_rfl)) | refine ⟨rfl, ?_⟩ | refine ⟨Int.natCast_nonneg _, ?_⟩)) | with_reducible refine Both.mk ?_ ?_ | rintro _ rfl | exact rfl | (split <;> (rename_i h; first | (simp only [beq_self_eq_true, eq_self, decide_true, Bool.not_true, Bool.false_eq_true] at h; done) | (try rw [h])))))
set_option maxHeartbeats 4000000 in
theorem toIndexS (xs : List (Idx)) (hl : xs.length ≤ 1048576) (hs : ∀ x, x ∈ xs → szIdx x) : Ent Tryz.prog 170 [.d (.sl false (xs.map idxD))] [] (.own 0) [.arr 2 true (xs.map idxO)] := by
  refine ent_deep ?_
  have hm : xs.length ≤ maxLen := Nat.le_trans hl (by decide)
  have hxl : (xs.map idxD).length = xs.length := List.length_map ..
  refine ent_of (cx := ⟨tab, [], []⟩) tok mixed (f := 170) Tryz.func170 (by kernel_rfl) (keep := true) ?_
  repeat' ((conv => whnf) <;> (first | ((with_reducible refine isCall ?_) <;> (first | (refine ⟨_, toIndex x (hs x (get_mem hx)), ?_⟩; rintro _ _ ⟨rfl, rfl⟩) | refine ⟨⟨rfl, Int.natCast_nonneg _, (by rw [List.length_map]; show (xs.length : Int) * ((32 : Nat) : Int) ≤ 281474976710656; omega), (by rw [List.length_map]; have : ((maxLen : Nat) : Int) = 9223372036854775807 := rfl; omega)⟩, ?_⟩ | refine ⟨_, hzk, ?_⟩ | refine ⟨⟨Int.natCast_nonneg _, (by rw [hz, filled_len hk]; have := get_lt hx; omega)⟩, ?_⟩ | fail)) | ((with_reducible refine isLoop ?_) <;> (first | (refine ⟨[4, 3, 0], [10007], fun s => ∃ (k : Nat) (n : Int) (dp : Bool) (zs : List D), n = k ∧ k ≤ xs.length ∧ zs = filled idxO (.agg [.sl false [], .b false]) xs k ∧ s = ⟨[(4, .d (.i .i64 n)), (3, .own 10007), (0, .d (.sl false (xs.map idxD)))], [(10007, .arr 2 dp zs)]⟩, fun s => match look 4 s.env with | some (.d (.i _ n)) => xs.length - n.toNat | _ => 0, rfl, ⟨0, _, _, _, rfl, Nat.zero_le _, ?_, rfl⟩, ?_⟩; rotate_left; rintro s ⟨k, n, dp, zs, rfl, hk, hz, rfl⟩; cases dp) | refine ⟨⟨rfl, Int.natCast_nonneg _, (by rw [List.length_map]; show (xs.length : Int) * ((32 : Nat) : Int) ≤ 281474976710656; omega), (by rw [List.length_map]; have : ((maxLen : Nat) : Int) = 9223372036854775807 := rfl; omega)⟩, ?_⟩ | refine ⟨_, hzk, ?_⟩ | refine ⟨⟨Int.natCast_nonneg _, (by rw [hz, filled_len hk]; have := get_lt hx; omega)⟩, ?_⟩ | fail)) | ((with_reducible refine isCut ?_) <;> (first | refine ⟨⟨none⟩, ?_⟩)) | ((first | with_reducible refine isEx ?_ | with_reducible refine isAnd ?_ | with_reducible refine isOr ?_) <;> (first | ((with_reducible refine isGet (xs := xs.map idxD) (i := ((k : Nat) : Int).toNat) ?_); obtain ⟨x, hx⟩ := get_ex (ss := xs) (k := k) (lt_of_dec (by assumption)); have hzk := filled_get (g := idxO) (z := .agg [.sl false [], .b false]) (get_lt hx); rw [← hz] at hzk; refine ⟨_, get_map' hx, ?_⟩) | refine ⟨⟨rfl, Int.natCast_nonneg _, (by rw [List.length_map]; show (xs.length : Int) * ((32 : Nat) : Int) ≤ 281474976710656; omega), (by rw [List.length_map]; have : ((maxLen : Nat) : Int) = 9223372036854775807 := rfl; omega)⟩, ?_⟩ | refine ⟨_, hzk, ?_⟩ | refine ⟨⟨Int.natCast_nonneg _, (by rw [hz, filled_len hk]; have := get_lt hx; omega)⟩, ?_⟩ | ((with_reducible refine isSmall ?_) <;> (refine ⟨?_, ?_⟩; kernel_rfl)) | refine ⟨rfl, ?_⟩ | refine ⟨Int.natCast_nonneg _, ?_⟩)) | with_reducible refine Both.mk ?_ ?_ | rintro _ rfl | exact rfl | (split <;> (rename_i h; first | (simp only [beq_self_eq_true, eq_self, decide_true, Bool.not_true, Bool.false_eq_true] at h; done) | (try rw [h])))))
  all_goals (conv => whnf)
  all_goals first
    | exact ⟨⟨k + 1, _, _, _, step_up (get_lt hx) hm, get_lt hx, (by rw [hz]; exact filled_up hx), rfl⟩, mu_up (get_lt hx) hm⟩
    | (have e : k = xs.length := by have := of_decide_eq_false h; omega
       refine ⟨true, ?_⟩
       rw [hz, e, filled_all]; rfl)
    | (have e : k = xs.length := by have := of_decide_eq_false h; omega
       refine ⟨false, ?_⟩
       rw [hz, e, filled_all]; rfl)
    | (show List.replicate (xs.map idxD).length _ = _
       rw [List.length_map]; exact filled_zero _ _ _)
    | trace_state
theorem toRowOf (x : List Val) (hs : szRow x) : Ent Tryz.prog 171 [.d (rowD x)] [] (.own 0) [.arr 3 false (x.map valD)] := toValueS x hs
set_option maxHeartbeats 4000000 in
theorem toValueSS (xs : List (List Val)) (hl : xs.length ≤ 1048576) (hs : ∀ x, x ∈ xs → szRow x) : Ent Tryz.prog 144 [.d (.sl false (xs.map rowD))] [] (.own 0) [.arr 1 true (xs.map rowO)] := by
  refine ent_deep ?_
  have hm : xs.length ≤ maxLen := Nat.le_trans hl (by decide)
  have hxl : (xs.map rowD).length = xs.length := List.length_map ..
  refine ent_of (cx := ⟨tab, [], []⟩) tok mixed (f := 144) Tryz.func144 (by kernel_rfl) (keep := true) ?_
  repeat' ((conv => whnf) <;> (first | ((with_reducible refine isCall ?_) <;> (first | (refine ⟨_, toRowOf x (hs x (get_mem hx)), ?_⟩; rintro _ _ ⟨rfl, rfl⟩) | refine ⟨⟨rfl, Int.natCast_nonneg _, (by rw [List.length_map]; show (xs.length : Int) * ((24 : Nat) : Int) ≤ 281474976710656; omega), (by rw [List.length_map]; have : ((maxLen : Nat) : Int) = 9223372036854775807 := rfl; omega)⟩, ?_⟩ | refine ⟨_, hzk, ?_⟩ | refine ⟨⟨Int.natCast_nonneg _, (by rw [hz, filled_len hk]; have := get_lt hx; omega)⟩, ?_⟩ | fail)) | ((with_reducible refine isLoop ?_) <;> (first | (refine ⟨[4, 3, 0], [10007], fun s => ∃ (k : Nat) (n : Int) (dp : Bool) (zs : List D), n = k ∧ k ≤ xs.length ∧ zs = filled rowO (.sl false []) xs k ∧ s = ⟨[(4, .d (.i .i64 n)), (3, .own 10007), (0, .d (.sl false (xs.map rowD)))], [(10007, .arr 1 dp zs)]⟩, fun s => match look 4 s.env with | some (.d (.i _ n)) => xs.length - n.toNat | _ => 0, rfl, ⟨0, _, _, _, rfl, Nat.zero_le _, ?_, rfl⟩, ?_⟩; rotate_left; rintro s ⟨k, n, dp, zs, rfl, hk, hz, rfl⟩; cases dp) | refine ⟨⟨rfl, Int.natCast_nonneg _, (by rw [List.length_map]; show (xs.length : Int) * ((24 : Nat) : Int) ≤ 281474976710656; omega), (by rw [List.length_map]; have : ((maxLen : Nat) : Int) = 9223372036854775807 := rfl; omega)⟩, ?_⟩ | refine ⟨_, hzk, ?_⟩ | refine ⟨⟨Int.natCast_nonneg _, (by rw [hz, filled_len hk]; have := get_lt hx; omega)⟩, ?_⟩ | fail)) | ((with_reducible refine isCut ?_) <;> (first | refine ⟨⟨none⟩, ?_⟩)) | ((first | with_reducible refine isEx ?_ | with_reducible refine isAnd ?_ | with_reducible refine isOr ?_) <;> (first | ((with_reducible refine isGet (xs := xs.map rowD) (i := ((k : Nat) : Int).toNat) ?_); obtain ⟨x, hx⟩ := get_ex (ss := xs) (k := k) (lt_of_dec (by assumption)); have hzk := filled_get (g := rowO) (z := .sl false []) (get_lt hx); rw [← hz] at hzk; refine ⟨_, get_map' hx, ?_⟩) | refine ⟨⟨rfl, Int.natCast_nonneg _, (by rw [List.length_map]; show (xs.length : Int) * ((24 : Nat) : Int) ≤ 281474976710656; omega), (by rw [List.length_map]; have : ((maxLen : Nat) : Int) = 9223372036854775807 := rfl; omega)⟩, ?_⟩ | refine ⟨_, hzk, ?_⟩ | refine ⟨⟨Int.natCast_nonneg _, (by rw [hz, filled_len hk]; have := get_lt hx; omega)⟩, ?_⟩ | ((with_reducible refine isSmall ?_) <;> (refine ⟨?_, ?_⟩; kernel_rfl)) | refine ⟨rfl, ?_⟩ | refine ⟨Int.natCast_nonneg _, ?_⟩)) | with_reducible refine Both.mk ?_ ?_ | rintro _ rfl | exact rfl | (split <;> (rename_i h; first | (simp only [beq_self_eq_true, eq_self, decide_true, Bool.not_true, Bool.false_eq_true] at h; done) | (try rw [h])))))
  all_goals (conv => whnf)
  all_goals first
    | exact ⟨⟨k + 1, _, _, _, step_up (get_lt hx) hm, get_lt hx, (by rw [hz]; exact filled_up hx), rfl⟩, mu_up (get_lt hx) hm⟩
    | (have e : k = xs.length := by have := of_decide_eq_false h; omega
       refine ⟨true, ?_⟩
       rw [hz, e, filled_all]; rfl)
    | (have e : k = xs.length := by have := of_decide_eq_false h; omega
       refine ⟨false, ?_⟩
       rw [hz, e, filled_all]; rfl)
    | (show List.replicate (xs.map rowD).length _ = _
       rw [List.length_map]; exact filled_zero _ _ _)
    | trace_state
set_option maxHeartbeats 1000000 in
theorem toSchema (x : Schema) (hs : szSch x) : Ent Tryz.prog 143 [.d (schemaD x)] [] (.agg [.d (.s x.name), .own 0, .own 1, .own 2]) [.arr 3 false (x.cols.map colD), .arr 1 false (x.keys.map i64D), .arr 2 true (x.idxs.map idxO)] := by
  have c1 := toColumnS x.cols hs.cols
  have c2 := toInt64S x.keys hs.keys
  have c3 := toIndexS x.idxs hs.idxs hs.lists
  refine ent_of (cx := ⟨tab, [], []⟩) tok mixed (f := 143) Tryz.func143 (by kernel_rfl) (keep := true) ?_
  repeat' ((conv => whnf) <;> (first | ((with_reducible refine isCall ?_) <;> (first | (refine ⟨_, c1, ?_⟩; rintro _ _ ⟨rfl, rfl⟩) | (refine ⟨_, c2, ?_⟩; rintro _ _ ⟨rfl, rfl⟩) | (refine ⟨_, c3, ?_⟩; rintro _ _ ⟨rfl, rfl⟩) | fail)) | ((with_reducible refine isCut ?_) <;> (first | refine ⟨⟨none⟩, ?_⟩)) | ((first | with_reducible refine isEx ?_ | with_reducible refine isAnd ?_ | with_reducible refine isOr ?_) <;> (first | ((with_reducible refine isSmall ?_) <;> (refine ⟨?_, ?_⟩; kernel_rfl)) | refine ⟨rfl, ?_⟩ | refine ⟨Int.natCast_nonneg _, ?_⟩)) | with_reducible refine Both.mk ?_ ?_ | rintro _ rfl | exact rfl | (split <;> (rename_i h; first | (simp only [beq_self_eq_true, eq_self, decide_true, Bool.not_true, Bool.false_eq_true] at h; done) | (try rw [h])))))
set_option maxHeartbeats 1000000 in
theorem toTable (x : Tab) (hs : szTab x) : Ent Tryz.prog 109 [.d (tabD x)] [] (.agg [.d (.s x.sch.name), .own 0, .own 1, .own 2, .own 3]) [.arr 3 false (x.sch.cols.map colD), .arr 1 false (x.sch.keys.map i64D), .arr 2 true (x.sch.idxs.map idxO), .arr 1 true (x.rows.map rowO)] := by
  have c1 := toSchema x.sch hs.sch
  have c2 := toValueSS x.rows hs.rows hs.row
  refine ent_of (cx := ⟨tab, [], []⟩) tok mixed (f := 109) Tryz.func109 (by kernel_rfl) (keep := true) ?_
  repeat' ((conv => whnf) <;> (first | ((with_reducible refine isCall ?_) <;> (first | (refine ⟨_, c1, ?_⟩; rintro _ _ ⟨rfl, rfl⟩) | (refine ⟨_, c2, ?_⟩; rintro _ _ ⟨rfl, rfl⟩) | fail)) | ((with_reducible refine isCut ?_) <;> (first | refine ⟨⟨none⟩, ?_⟩)) | ((first | with_reducible refine isEx ?_ | with_reducible refine isAnd ?_ | with_reducible refine isOr ?_) <;> (first | ((with_reducible refine isSmall ?_) <;> (refine ⟨?_, ?_⟩; kernel_rfl)) | refine ⟨rfl, ?_⟩ | refine ⟨Int.natCast_nonneg _, ?_⟩)) | with_reducible refine Both.mk ?_ ?_ | rintro _ rfl | exact rfl | (split <;> (rename_i h; first | (simp only [beq_self_eq_true, eq_self, decide_true, Bool.not_true, Bool.false_eq_true] at h; done) | (try rw [h])))))
set_option maxHeartbeats 4000000 in
theorem toTableS (xs : List (Tab)) (hl : xs.length ≤ 1048576) (hs : ∀ x, x ∈ xs → szTab x) : Ent Tryz.prog 70 [.d (.sl false (xs.map tabD))] [] (.own 0) [.arr 5 true (xs.map tabO)] := by
  refine ent_deep ?_
  have hm : xs.length ≤ maxLen := Nat.le_trans hl (by decide)
  have hxl : (xs.map tabD).length = xs.length := List.length_map ..
  refine ent_of (cx := ⟨tab, [], []⟩) tok mixed (f := 70) Tryz.func70 (by kernel_rfl) (keep := true) ?_
  repeat' ((conv => whnf) <;> (first | ((with_reducible refine isCall ?_) <;> (first | (refine ⟨_, toTable x (hs x (get_mem hx)), ?_⟩; rintro _ _ ⟨rfl, rfl⟩) | refine ⟨⟨rfl, Int.natCast_nonneg _, (by rw [List.length_map]; show (xs.length : Int) * ((112 : Nat) : Int) ≤ 281474976710656; omega), (by rw [List.length_map]; have : ((maxLen : Nat) : Int) = 9223372036854775807 := rfl; omega)⟩, ?_⟩ | refine ⟨_, hzk, ?_⟩ | refine ⟨⟨Int.natCast_nonneg _, (by rw [hz, filled_len hk]; have := get_lt hx; omega)⟩, ?_⟩ | fail)) | ((with_reducible refine isLoop ?_) <;> (first | (refine ⟨[4, 3, 0], [10007], fun s => ∃ (k : Nat) (n : Int) (dp : Bool) (zs : List D), n = k ∧ k ≤ xs.length ∧ zs = filled tabO (.agg [.s [], .sl false [], .sl false [], .sl false [], .sl false []]) xs k ∧ s = ⟨[(4, .d (.i .i64 n)), (3, .own 10007), (0, .d (.sl false (xs.map tabD)))], [(10007, .arr 5 dp zs)]⟩, fun s => match look 4 s.env with | some (.d (.i _ n)) => xs.length - n.toNat | _ => 0, rfl, ⟨0, _, _, _, rfl, Nat.zero_le _, ?_, rfl⟩, ?_⟩; rotate_left; rintro s ⟨k, n, dp, zs, rfl, hk, hz, rfl⟩; cases dp) | refine ⟨⟨rfl, Int.natCast_nonneg _, (by rw [List.length_map]; show (xs.length : Int) * ((112 : Nat) : Int) ≤ 281474976710656; omega), (by rw [List.length_map]; have : ((maxLen : Nat) : Int) = 9223372036854775807 := rfl; omega)⟩, ?_⟩ | refine ⟨_, hzk, ?_⟩ | refine ⟨⟨Int.natCast_nonneg _, (by rw [hz, filled_len hk]; have := get_lt hx; omega)⟩, ?_⟩ | fail)) | ((with_reducible refine isCut ?_) <;> (first | refine ⟨⟨none⟩, ?_⟩)) | ((first | with_reducible refine isEx ?_ | with_reducible refine isAnd ?_ | with_reducible refine isOr ?_) <;> (first | ((with_reducible refine isGet (xs := xs.map tabD) (i := ((k : Nat) : Int).toNat) ?_); obtain ⟨x, hx⟩ := get_ex (ss := xs) (k := k) (lt_of_dec (by assumption)); have hzk := filled_get (g := tabO) (z := .agg [.s [], .sl false [], .sl false [], .sl false [], .sl false []]) (get_lt hx); rw [← hz] at hzk; refine ⟨_, get_map' hx, ?_⟩) | refine ⟨⟨rfl, Int.natCast_nonneg _, (by rw [List.length_map]; show (xs.length : Int) * ((112 : Nat) : Int) ≤ 281474976710656; omega), (by rw [List.length_map]; have : ((maxLen : Nat) : Int) = 9223372036854775807 := rfl; omega)⟩, ?_⟩ | refine ⟨_, hzk, ?_⟩ | refine ⟨⟨Int.natCast_nonneg _, (by rw [hz, filled_len hk]; have := get_lt hx; omega)⟩, ?_⟩ | ((with_reducible refine isSmall ?_) <;> (refine ⟨?_, ?_⟩; kernel_rfl)) | refine ⟨rfl, ?_⟩ | refine ⟨Int.natCast_nonneg _, ?_⟩)) | with_reducible refine Both.mk ?_ ?_ | rintro _ rfl | exact rfl | (split <;> (rename_i h; first | (simp only [beq_self_eq_true, eq_self, decide_true, Bool.not_true, Bool.false_eq_true] at h; done) | (try rw [h])))))
  all_goals (conv => whnf)
  all_goals first
    | exact ⟨⟨k + 1, _, _, _, step_up (get_lt hx) hm, get_lt hx, (by rw [hz]; exact filled_up hx), rfl⟩, mu_up (get_lt hx) hm⟩
    | (have e : k = xs.length := by have := of_decide_eq_false h; omega
       refine ⟨true, ?_⟩
       rw [hz, e, filled_all]; rfl)
    | (have e : k = xs.length := by have := of_decide_eq_false h; omega
       refine ⟨false, ?_⟩
       rw [hz, e, filled_all]; rfl)
    | (show List.replicate (xs.map tabD).length _ = _
       rw [List.length_map]; exact filled_zero _ _ _)
    | trace_state
theorem toDb (xs : List Tab) (hl : xs.length ≤ 1048576) (hs : ∀ x, x ∈ xs → szTab x) : Ent Tryz.prog 35 [.d (.agg [.sl false (xs.map tabD)])] [] (.agg [.own 0]) [.arr 5 true (xs.map tabO)] := by
  have c1 := toTableS xs hl hs
  refine ent_of (cx := ⟨tab, [], []⟩) tok mixed (f := 35) Tryz.func35 (by kernel_rfl) (keep := true) ?_
  repeat' ((conv => whnf) <;> (first | ((with_reducible refine isCall ?_) <;> (first | (refine ⟨_, c1, ?_⟩; rintro _ _ ⟨rfl, rfl⟩) | fail)) | ((with_reducible refine isCut ?_) <;> (first | refine ⟨⟨none⟩, ?_⟩)) | ((first | with_reducible refine isEx ?_ | with_reducible refine isAnd ?_ | with_reducible refine isOr ?_) <;> (first | ((with_reducible refine isSmall ?_) <;> (refine ⟨?_, ?_⟩; kernel_rfl)) | refine ⟨rfl, ?_⟩ | refine ⟨Int.natCast_nonneg _, ?_⟩)) | with_reducible refine Both.mk ?_ ?_ | rintro _ rfl | exact rfl | (split <;> (rename_i h; first | (simp only [beq_self_eq_true, eq_self, decide_true, Bool.not_true, Bool.false_eq_true] at h; done) | (try rw [h])))))
end Go.Pm.Tryz
namespace Go.Proofs
open Go.Shelf
def Tryz.lays105_ren : Go.Shelf.Ren := ⟨fun | 105 => 146 | 212 => 178 | 99 => 179 | 165 => 180 | 166 => 119 | 170 => 181 | 169 => 124 | 263 => 206 | 264 => 207 | 206 => 208 | 240 => 153 | 241 => 209 | 276 => 186 | 277 => 218 | n => n, fun | 9 => 9 | 3 => 3 | 4 => 4 | 20 => 20 | 0 => 0 | 46 => 214 | 109 => 234 | 5 => 5 | 72 => 185 | 76 => 188 | 51 => 262 | 146 => 263 | 53 => 203 | 148 => 265 | 70 => 183 | 37 => 148 | 75 => 187 | 127 => 215 | 164 => 243 | 80 => 178 | n => n, fun | n => n⟩
theorem Tryz.lays105 : Go.Proofs.Lays.n105 Tryz.prog Tryz.lays105_ren := {
  mixed := by kernel_rfl
  f99 := Tryz.func179.trans (congrArg some (by kernel_rfl))
  f105 := Tryz.func146.trans (congrArg some (by kernel_rfl))
  f165 := Tryz.func180.trans (congrArg some (by kernel_rfl))
  f166 := Tryz.func119.trans (congrArg some (by kernel_rfl))
  f169 := Tryz.func124.trans (congrArg some (by kernel_rfl))
  f170 := Tryz.func181.trans (congrArg some (by kernel_rfl))
  f206 := Tryz.func208.trans (congrArg some (by kernel_rfl))
  f212 := Tryz.func178.trans (congrArg some (by kernel_rfl))
  f240 := Tryz.func153.trans (congrArg some (by kernel_rfl))
  f241 := Tryz.func209.trans (congrArg some (by kernel_rfl))
  f263 := Tryz.func206.trans (congrArg some (by kernel_rfl))
  f264 := Tryz.func207.trans (congrArg some (by kernel_rfl))
  f276 := Tryz.func186.trans (congrArg some (by kernel_rfl))
  f277 := Tryz.func218.trans (congrArg some (by kernel_rfl))
  t0 := Tryz.underlying0
  a0 := Tryz.isAgg0
  z0 := Tryz.sizeOf0
  v0 := Tryz.zeroValue0
  t3 := Tryz.underlying3
  a3 := Tryz.isAgg3
  z3 := Tryz.sizeOf3
  v3 := Tryz.zeroValue3
  t4 := Tryz.underlying4
  a4 := Tryz.isAgg4
  z4 := Tryz.sizeOf4
  v4 := Tryz.zeroValue4
  t5 := Tryz.underlying5
  a5 := Tryz.isAgg5
  z5 := Tryz.sizeOf5
  v5 := Tryz.zeroValue5
  t9 := Tryz.underlying9
  a9 := Tryz.isAgg9
  z9 := Tryz.sizeOf9
  v9 := Tryz.zeroValue9
  t20 := Tryz.underlying20
  a20 := Tryz.isAgg20
  z20 := Tryz.sizeOf20
  v20 := Tryz.zeroValue20
  t37 := Tryz.underlying148
  a37 := Tryz.isAgg148
  z37 := Tryz.sizeOf148
  v37 := Tryz.zeroValue148
  t46 := Tryz.underlying214
  a46 := Tryz.isAgg214
  z46 := Tryz.sizeOf214
  v46 := Tryz.zeroValue214
  t51 := Tryz.underlying262
  a51 := Tryz.isAgg262
  z51 := Tryz.sizeOf262
  v51 := Tryz.zeroValue262
  t53 := Tryz.underlying203
  a53 := Tryz.isAgg203
  z53 := Tryz.sizeOf203
  v53 := Tryz.zeroValue203
  t70 := Tryz.underlying183
  a70 := Tryz.isAgg183
  z70 := Tryz.sizeOf183
  v70 := Tryz.zeroValue183
  t72 := Tryz.underlying185
  a72 := Tryz.isAgg185
  z72 := Tryz.sizeOf185
  v72 := Tryz.zeroValue185
  t75 := Tryz.underlying187
  a75 := Tryz.isAgg187
  z75 := Tryz.sizeOf187
  v75 := Tryz.zeroValue187
  t76 := Tryz.underlying188
  a76 := Tryz.isAgg188
  z76 := Tryz.sizeOf188
  v76 := Tryz.zeroValue188
  t109 := Tryz.underlying234
  a109 := Tryz.isAgg234
  z109 := Tryz.sizeOf234
  v109 := Tryz.zeroValue234
  t127 := Tryz.underlying215
  a127 := Tryz.isAgg215
  z127 := Tryz.sizeOf215
  v127 := Tryz.zeroValue215
  t146 := Tryz.underlying263
  a146 := Tryz.isAgg263
  z146 := Tryz.sizeOf263
  v146 := Tryz.zeroValue263
  t148 := Tryz.underlying265
  a148 := Tryz.isAgg265
  z148 := Tryz.sizeOf265
  v148 := Tryz.zeroValue265
  t164 := Tryz.underlying243
  a164 := Tryz.isAgg243
  z164 := Tryz.sizeOf243
  v164 := Tryz.zeroValue243 }
theorem Tryz.Builder_Extra_105 : Builder.Extra Tryz.prog Tryz.lays105_ren := {
  sizeBuilder := by kernel_rfl
  liesBuilder := by kernel_rfl
  t5 := Tryz.underlying5
  a5 := Tryz.isAgg5
  z5 := Tryz.sizeOf5
  v5 := Tryz.zeroValue5
  infoByte := by kernel_rfl
  cellsByte := by kernel_rfl
  sizeByte := by kernel_rfl
  neB5 := by decide }
open Go.RowKit Go.Lib in
theorem Tryz.strings_Repeat (s : ByteArray) (c : Nat) (w : World) (hc : c ≤ 9223372036854775807) (hlen : s.size * c ≤ 140737488355328) :
    Calls Tryz.prog 146 #[.string s, .int .i64 c] w fun e w' => e = .returned (.string ⟨(Lib.repeatL s.data.toList c).toArray⟩) ∧ Below w.heap.size w w' := Any.strings_Repeat Tryz.lays105 Tryz.Builder_Extra_105 s c w hc hlen
end Go.Proofs
namespace Go.Pm.Tryz
open Go Go.Proofs
set_option linter.unusedVariables false
set_option linter.unusedSimpArgs false
set_option maxRecDepth 100000
def findM (nm : List UInt8) : List Tab → Nat → Int
  | [], _ => -1
  | t :: ts, k => match decide (t.sch.name = nm) with | true => (k : Int) | false => findM nm ts (k + 1)
theorem find_here {nm : List UInt8} {ts : List Tab} {k : Nat} {t : Tab} (ht : ts[k]? = some t) (h : decide (t.sch.name = nm) = true) : findM nm (ts.drop k) k = (k : Int) := by
  obtain ⟨hk, rfl⟩ := List.getElem?_eq_some_iff.1 ht
  rw [List.drop_eq_getElem_cons hk, findM, h]
theorem find_next {nm : List UInt8} {ts : List Tab} {k : Nat} {t : Tab} (ht : ts[k]? = some t) (h : decide (t.sch.name = nm) = false) : findM nm (ts.drop k) k = findM nm (ts.drop (k + 1)) (k + 1) := by
  obtain ⟨hk, rfl⟩ := List.getElem?_eq_some_iff.1 ht
  rw [List.drop_eq_getElem_cons hk, findM, h]
theorem find_range {nm : List UInt8} : ∀ (ts : List Tab) (k : Nat), 0 ≤ findM nm ts k → ∃ j : Nat, findM nm ts k = ((k + j : Nat) : Int) ∧ j < ts.length
  | [], _, h => by simp [findM] at h
  | t :: ts, k, h => by
    rw [findM] at h ⊢
    cases hd : decide (t.sch.name = nm) with
    | true => exact ⟨0, by simp, by simp⟩
    | false =>
      rw [hd] at h
      obtain ⟨j, h1, h2⟩ := find_range ts (k + 1) h
      exact ⟨j + 1, by simp only []; rw [h1]; omega, by simp; omega⟩
def dbArg (ts : List Tab) : D := .agg [.sl false (ts.map tabD)]
theorem sameTable (t : Tab) (nm : List UInt8) : Ent Tryz.prog 117 [.d (tabD t), .ptr 0 0] [.var [.d (.s nm)]] (.d (.b (decide (t.sch.name = nm)))) [.var [.d (.s nm)]] := by
  refine ent_of tok mixed (f := 117) Tryz.func117 (by kernel_rfl) (keep := false) ?_
  repeat' ((conv => whnf) <;> (first | ((with_reducible refine isCall ?_) <;> (first | fail)) | ((with_reducible refine isCut ?_) <;> (first | refine ⟨⟨none⟩, ?_⟩)) | ((first | with_reducible refine isEx ?_ | with_reducible refine isAnd ?_ | with_reducible refine isOr ?_) <;> (first | ((with_reducible refine isSmall ?_) <;> (refine ⟨?_, ?_⟩; kernel_rfl)) | refine ⟨rfl, ?_⟩ | refine ⟨Int.natCast_nonneg _, ?_⟩)) | with_reducible refine Both.mk ?_ ?_ | rintro _ rfl | exact rfl | (split <;> (rename_i h; first | (simp only [beq_self_eq_true, eq_self, decide_true, Bool.not_true, Bool.false_eq_true] at h; done) | (try rw [h])))))
set_option maxHeartbeats 2000000 in
theorem indexTable (ts : List Tab) (hl : ts.length ≤ maxLen) (nm : List UInt8) : Ent Tryz.prog 116 [.d (.sl false (ts.map tabD)), .fn 117 [.ptr 0 0]] [.var [.d (.s nm)]] (.d (.i .i64 (findM nm ts 0))) [.var [.d (.s nm)]] := by
  obtain ⟨o, ho⟩ : ∃ o, o = findM nm ts 0 := ⟨_, rfl⟩
  rw [← ho]
  refine ent_of tok mixed (f := 116) Tryz.func116 (by kernel_rfl) (keep := false) ?_
  repeat' ((conv => whnf) <;> (first | ((with_reducible refine isCall ?_) <;> (first | (refine ⟨_, c1, ?_⟩; rintro _ _ ⟨rfl, rfl⟩) | fail)) | ((with_reducible refine isLoop ?_) <;> (first | (refine ⟨[8, 7, 0, 1], [0], fun st => ∃ (k : Nat) (n : Int), n = k ∧ k ≤ ts.length ∧ o = findM nm (ts.drop k) k ∧ st = ⟨[(8, .d (.i .i64 n)), (7, .d (.i .i64 ((ts.map tabD).length : Int))), (0, .d (.sl false (ts.map tabD))), (1, .fn 117 [.ptr 0 0])], [(0, .var [.d (.s nm)])]⟩, fun st => match look 8 st.env with | some (.d (.i _ n)) => ts.length - n.toNat | _ => 0, rfl, ⟨0, _, rfl, Nat.zero_le _, ho, rfl⟩, ?_⟩; rintro st ⟨k, n, rfl, hk, hu, rfl⟩) | fail)) | ((with_reducible refine isCut ?_) <;> (first | refine ⟨⟨none⟩, ?_⟩)) | ((first | with_reducible refine isEx ?_ | with_reducible refine isAnd ?_ | with_reducible refine isOr ?_) <;> (first | ((with_reducible refine isGet (xs := ts.map tabD) (i := ((k : Nat) : Int).toNat) ?_); obtain ⟨x, hx⟩ := get_ex (ss := ts) (k := k) (lt_of_dec (by assumption)); have c1 := sameTable x nm; refine ⟨_, get_map' hx, ?_⟩) | ((with_reducible refine isSmall ?_) <;> (refine ⟨?_, ?_⟩; kernel_rfl)) | refine ⟨rfl, ?_⟩ | refine ⟨Int.natCast_nonneg _, ?_⟩)) | with_reducible refine Both.mk ?_ ?_ | rintro _ rfl | exact rfl | (split <;> (rename_i h; first | (simp only [beq_self_eq_true, eq_self, decide_true, Bool.not_true, Bool.false_eq_true] at h; done) | (try rw [h])))))
  all_goals (conv => whnf)
  all_goals first
    | (rw [hu, find_here hx h]; exact ⟨rfl, rfl⟩)
    | exact ⟨⟨k + 1, _, step_up (get_lt hx) hl, get_lt hx, hu.trans (find_next hx h), rfl⟩, mu_up (get_lt hx) hl⟩
    | (have e : k = ts.length := by have := of_decide_eq_false h; rw [List.length_map] at this; omega
       rw [hu, e, List.drop_length]; exact ⟨rfl, rfl⟩)
    | trace_state
theorem implFind (ts : List Tab) (hl : ts.length ≤ maxLen) (nm : List UInt8) : Ent Tryz.prog 73 [.ptr 0 0, .d (.s nm)] [.var [.d (.sl false (ts.map tabD))]] (.d (.i .i64 (findM nm ts 0))) [.var [.d (.sl false (ts.map tabD))]] := by
  have c1 := indexTable ts hl nm
  generalize findM nm ts 0 = n at *
  refine ent_of tok mixed (f := 73) Tryz.func73 (by kernel_rfl) (keep := false) ?_
  repeat' ((conv => whnf) <;> (first | ((with_reducible refine isCall ?_) <;> (first | (refine ⟨_, c1, ?_⟩; rintro _ _ ⟨rfl, rfl⟩) | fail)) | ((with_reducible refine isCut ?_) <;> (first | refine ⟨⟨none⟩, ?_⟩)) | ((first | with_reducible refine isEx ?_ | with_reducible refine isAnd ?_ | with_reducible refine isOr ?_) <;> (first | ((with_reducible refine isSmall ?_) <;> (refine ⟨?_, ?_⟩; kernel_rfl)) | refine ⟨rfl, ?_⟩ | refine ⟨Int.natCast_nonneg _, ?_⟩)) | with_reducible refine Both.mk ?_ ?_ | rintro _ rfl | exact rfl | (split <;> (rename_i h; first | (simp only [beq_self_eq_true, eq_self, decide_true, Bool.not_true, Bool.false_eq_true] at h; done) | (try rw [h])))))
end Go.Pm.Tryz
namespace Go.Pm
open Go Go.RowKit
theorem ent_of_below {P : Program} {f : FuncId} {args : List AV} {R : AV} (hE : Enters P f)
    (h : ∀ (X : Nat → Prop) (J : Nat → Option Place) (w : World) (vs : Array Value), AV.repL w X J args vs.toList → Calls P f vs w fun e w' => Below w.heap.size w w' ∧ ∃ v, e = .returned v ∧ ∀ X J, R.rep w' X J v) : Ent P f args [] R [] :=
  ⟨hE, fun X0 J w vs hr hm => (h _ J w vs hr).mono fun e w' ⟨hw, v, he, hv⟩ => by
    have hs : Same w w' := ⟨hw.os, hw.tape, hw.output, hw.size, fun b hb => hw.block b hb⟩
    exact ⟨R, [], v, J, ⟨rfl, rfl⟩, he, hv _ _, hm.same hs, hs.kept _, fun k p b hp hb => .inl ⟨k, p, hp, hb⟩, fun k p hp => ⟨p, hp, p.like_refl⟩⟩⟩
end Go.Pm
namespace Go.Pm.Tryz
open Go Go.Proofs
set_option linter.unusedVariables false
set_option linter.unusedSimpArgs false
set_option maxRecDepth 100000
theorem ml2 {n : Nat} (h : n ≤ 700) : n ≤ maxLen := Nat.le_trans h (Nat.le_of_ble_eq_true rfl)
structure Wr where
  pos : Int
  text : List UInt8
structure Disk where
  secs : List (List UInt8)
  cache : List Wr
structure Sto where
  disk : Disk
  tabs : List Tab
  seq : Int
  next : Int
def wrD (w : Wr) : D := .agg [.i .i64 w.pos, .s w.text]
def diskD (d : Disk) : D := .agg [.sl false (d.secs.map strD), .sl false (d.cache.map wrD)]
def diskC (d : Disk) : List AV := [.d (.sl false (d.secs.map strD)), .d (.sl false (d.cache.map wrD))]
def stoD (s : Sto) : D := .agg [.sl false (s.disk.secs.map strD), .sl false (s.disk.cache.map wrD), .sl false (s.tabs.map tabD), .i .i64 s.seq, .i .i64 s.next]
def stoC (s : Sto) : List AV := [.d (.sl false (s.disk.secs.map strD)), .d (.sl false (s.disk.cache.map wrD)), .d (.sl false (s.tabs.map tabD)), .d (.i .i64 s.seq), .d (.i .i64 s.next)]
def badSec (t : List UInt8) : Bool := !decide ((t.length : Int) = 64)
def badWr (n : Nat) (w : Wr) : Bool := (decide (w.pos < 0) || decide (w.pos ≥ (n : Int))) || !decide ((w.text.length : Int) = 64)
section
variable {n : Nat} {w : Wr}
theorem wr_1 (h : decide (w.pos < 0) = true) : badWr n w = true := by unfold badWr; rw [h]; rfl
theorem wr_2 (h : decide (w.pos ≥ (n : Int)) = true) : badWr n w = true := by unfold badWr; rw [h, Bool.or_true]; rfl
theorem wr_3 (h : (!decide ((w.text.length : Int) = 64)) = true) : badWr n w = true := by unfold badWr; rw [h, Bool.or_true]
theorem wr_ok (h1 : decide (w.pos < 0) = false) (h2 : decide (w.pos ≥ (n : Int)) = false) (h3 : (!decide ((w.text.length : Int) = 64)) = false) : badWr n w = false := by unfold badWr; rw [h1, h2, h3]; rfl
theorem wr_in {m : Int} (hm : m = (n : Int) - 1) : (!inside w.pos 0 m) = (decide (w.pos < 0) || decide (w.pos ≥ (n : Int))) := by
  rw [Bool.eq_iff_iff]; subst hm
  simp only [inside, Bool.not_eq_true', Bool.and_eq_false_iff, decide_eq_false_iff_not, Bool.or_eq_true, decide_eq_true_eq]
  omega
theorem wr_4 {m : Int} (hm : m = (n : Int) - 1) (h : (!inside w.pos 0 m) = true) : badWr n w = true := by unfold badWr; rw [← wr_in hm, h]; rfl
theorem wr_ok2 {m : Int} (hm : m = (n : Int) - 1) (h : (!inside w.pos 0 m) = false) (h3 : (!decide ((w.text.length : Int) = 64)) = false) : badWr n w = false := by unfold badWr; rw [← wr_in hm, h, h3]; rfl
end
def diskOk (d : Disk) : Bool := (decide (d.secs.length ≤ 700) && decide (d.cache.length ≤ 400)) && (!d.secs.any badSec && !d.cache.any (badWr d.secs.length))
theorem hit_any {α : Type} {p : α → Bool} {xs : List α} {k : Nat} {x : α} (hx : xs[k]? = some x) (h : p x = true) : xs.any p = true := List.any_eq_true.2 ⟨x, List.mem_of_getElem? hx, h⟩
theorem end_any {α : Type} {p : α → Bool} {f : α → D} {xs : List α} {k : Nat} (hu : (xs.take k).any p = false) (h : ¬ (k : Int) < ((xs.map f).length : Int)) : xs.any p = false := by
  rw [List.length_map] at h
  rwa [List.take_of_length_le (by omega)] at hu
set_option maxHeartbeats 2000000 in
theorem specDiskRight (d : Disk) : Ent Tryz.prog 58 [.d (diskD d)] [] (.d (.b (diskOk d))) [] := by
  obtain ⟨o, ho⟩ : ∃ o, o = diskOk d := ⟨_, rfl⟩
  rw [← ho]
  unfold diskOk at ho
  have l1 : (d.secs.map strD).length = d.secs.length := List.length_map ..
  have l2 : (d.cache.map wrD).length = d.cache.length := List.length_map ..
  refine ent_of tok mixed (f := 58) Tryz.func58 (by kernel_rfl) (keep := false) ?_
  repeat' ((conv => whnf) <;> (first | ((with_reducible refine isCall ?_) <;> (first | (refine ⟨Int.natCast_nonneg _, ?_⟩) | fail)) | ((with_reducible refine isLoop ?_) <;> (first | (refine ⟨[1, 4], [10001], fun st => ∃ (k2 : Nat) (i : Int), i = k2 ∧ (d.cache.take k2).any (badWr d.secs.length) = false ∧ st = ⟨[(1, .ptr 10001 0), (4, .d (.i .i64 i))], [(10001, .var (diskC d))]⟩, fun s' => match look 4 s'.env with | some (.d (.i _ n)) => d.cache.length - n.toNat | _ => 0, rfl, ⟨0, _, rfl, rfl, rfl⟩, ?_⟩; rintro st ⟨k2, i, rfl, hu2, rfl⟩) | (refine ⟨[1, 3], [10001], fun st => ∃ (k : Nat) (i : Int), i = k ∧ (d.secs.take k).any badSec = false ∧ st = ⟨[(1, .ptr 10001 0), (3, .d (.i .i64 i))], [(10001, .var (diskC d))]⟩, fun s' => match look 3 s'.env with | some (.d (.i _ n)) => d.secs.length - n.toNat | _ => 0, rfl, ⟨0, _, rfl, rfl, rfl⟩, ?_⟩; rintro st ⟨k, i, rfl, hu, rfl⟩) | (refine ⟨Int.natCast_nonneg _, ?_⟩) | fail)) | ((with_reducible refine isCut ?_) <;> (first | refine ⟨⟨none⟩, ?_⟩)) | ((first | with_reducible refine isEx ?_ | with_reducible refine isAnd ?_ | with_reducible refine isOr ?_) <;> (first | ((with_reducible refine isGet (xs := d.cache.map wrD) (i := ((k2 : Nat) : Int).toNat) ?_); obtain ⟨y, hy⟩ := get_ex (ss := d.cache) (k := k2) (lt_of_dec (by assumption)); refine ⟨_, get_map' hy, ?_⟩) | ((with_reducible refine isGet (xs := d.secs.map strD) (i := ((k : Nat) : Int).toNat) ?_); obtain ⟨x, hx⟩ := get_ex (ss := d.secs) (k := k) (lt_of_dec (by assumption)); refine ⟨_, get_map' hx, ?_⟩) | (refine ⟨Int.natCast_nonneg _, ?_⟩) | ((with_reducible refine isSmall ?_) <;> (refine ⟨?_, ?_⟩; kernel_rfl)) | refine ⟨rfl, ?_⟩ | refine ⟨Int.natCast_nonneg _, ?_⟩)) | with_reducible refine Both.mk ?_ ?_ | rintro _ rfl | exact rfl | (split <;> (rename_i h; first | (simp only [beq_self_eq_true, eq_self, decide_true, Bool.not_true, Bool.false_eq_true] at h; done) | (try rw [h])))))
  all_goals try (conv => whnf)
  all_goals first
    | exact ⟨⟨k2 + 1, _, step_up (get_lt hy) (ml2 (by have := of_decide_eq_false (by assumption : decide (((d.cache.map wrD).length : Int) > 400) = false); omega)), any_up' hy hu2 (wr_ok (by assumption) (by rw [← l1]; assumption) (by assumption)), rfl⟩, mu_up (get_lt hy) (ml2 (by have := of_decide_eq_false (by assumption : decide (((d.cache.map wrD).length : Int) > 400) = false); omega))⟩
    | exact ⟨⟨k + 1, _, step_up (get_lt hx) (ml2 (by have := of_decide_eq_false (by assumption : decide (((d.secs.map strD).length : Int) > 700) = false); omega)), any_up' hx hu (by assumption), rfl⟩, mu_up (get_lt hx) (ml2 (by have := of_decide_eq_false (by assumption : decide (((d.secs.map strD).length : Int) > 700) = false); omega))⟩
    | (refine ⟨congrArg (fun b => AV.d (D.b b)) ?_, rfl⟩
       rw [ho]; symm
       first
         | (rw [hit_any hy (p := badWr d.secs.length) (by first | exact wr_1 (by assumption) | exact wr_2 (by rw [← l1]; assumption) | exact wr_3 (by assumption))]; simp; done)
         | (rw [hit_any hx (p := badSec) (by assumption)]; simp; done)
         | (rw [decide_eq_false (by have := of_decide_eq_true (by assumption : decide (((d.secs.map strD).length : Int) > 700) = true); omega : ¬ d.secs.length ≤ 700)]; rfl)
         | (rw [decide_eq_false (by have := of_decide_eq_true (by assumption : decide (((d.cache.map wrD).length : Int) > 400) = true); omega : ¬ d.cache.length ≤ 400), Bool.and_false]; rfl)
         | (rw [decide_eq_true (by have := of_decide_eq_false (by assumption : decide (((d.secs.map strD).length : Int) > 700) = false); omega : d.secs.length ≤ 700), decide_eq_true (by have := of_decide_eq_false (by assumption : decide (((d.cache.map wrD).length : Int) > 400) = false); omega : d.cache.length ≤ 400), end_any hu (of_decide_eq_false (by assumption)), end_any hu2 (of_decide_eq_false (by assumption))]; rfl))
    | trace_state
set_option maxHeartbeats 2000000 in
theorem implDiskRight (d : Disk) : Ent Tryz.prog 110 [.d (diskD d)] [] (.d (.b (diskOk d))) [] := by
  obtain ⟨o, ho⟩ : ∃ o, o = diskOk d := ⟨_, rfl⟩
  rw [← ho]
  unfold diskOk at ho
  have l1 : (d.secs.map strD).length = d.secs.length := List.length_map ..
  have l2 : (d.cache.map wrD).length = d.cache.length := List.length_map ..
  have lw : d.secs.length ≤ 700 → IntKind.i64.wrap (((d.secs.map strD).length : Int) - 1) = (d.secs.length : Int) - 1 := fun h => by rw [l1]; exact wrap_i64_id _ (by omega) (by omega)
  refine ent_of tok mixed (f := 110) Tryz.func110 (by kernel_rfl) (keep := false) ?_
  repeat' ((conv => whnf) <;> (first | ((with_reducible refine isCall ?_) <;> (first | (refine ⟨_, within _ _ _, ?_⟩; rintro _ _ ⟨rfl, rfl⟩) | (refine ⟨Int.natCast_nonneg _, ?_⟩) | fail)) | ((with_reducible refine isLoop ?_) <;> (first | (refine ⟨[1, 29, 30, 31], [10001], fun st => ∃ (k2 : Nat) (i : Int), i = k2 ∧ (d.cache.take k2).any (badWr d.secs.length) = false ∧ st = ⟨[(1, .ptr 10001 0), (29, .d (.sl false (d.cache.map wrD))), (30, .d (.i .i64 ((d.cache.map wrD).length : Int))), (31, .d (.i .i64 i))], [(10001, .var (diskC d))]⟩, fun s' => match look 31 s'.env with | some (.d (.i _ n)) => d.cache.length - n.toNat | _ => 0, rfl, ⟨0, _, rfl, rfl, rfl⟩, ?_⟩; rintro st ⟨k2, i, rfl, hu2, rfl⟩) | (refine ⟨[1, 18, 19, 20], [10001], fun st => ∃ (k : Nat) (i : Int), i = k ∧ (d.secs.take k).any badSec = false ∧ st = ⟨[(1, .ptr 10001 0), (18, .d (.sl false (d.secs.map strD))), (19, .d (.i .i64 ((d.secs.map strD).length : Int))), (20, .d (.i .i64 i))], [(10001, .var (diskC d))]⟩, fun s' => match look 20 s'.env with | some (.d (.i _ n)) => d.secs.length - n.toNat | _ => 0, rfl, ⟨0, _, rfl, rfl, rfl⟩, ?_⟩; rintro st ⟨k, i, rfl, hu, rfl⟩) | (refine ⟨Int.natCast_nonneg _, ?_⟩) | fail)) | ((with_reducible refine isCut ?_) <;> (first | refine ⟨⟨none⟩, ?_⟩)) | ((first | with_reducible refine isEx ?_ | with_reducible refine isAnd ?_ | with_reducible refine isOr ?_) <;> (first | ((with_reducible refine isGet (xs := d.cache.map wrD) (i := ((k2 : Nat) : Int).toNat) ?_); obtain ⟨y, hy⟩ := get_ex (ss := d.cache) (k := k2) (lt_of_dec (by assumption)); refine ⟨_, get_map' hy, ?_⟩) | ((with_reducible refine isGet (xs := d.secs.map strD) (i := ((k : Nat) : Int).toNat) ?_); obtain ⟨x, hx⟩ := get_ex (ss := d.secs) (k := k) (lt_of_dec (by assumption)); refine ⟨_, get_map' hx, ?_⟩) | (refine ⟨Int.natCast_nonneg _, ?_⟩) | ((with_reducible refine isSmall ?_) <;> (refine ⟨?_, ?_⟩; kernel_rfl)) | refine ⟨rfl, ?_⟩ | refine ⟨Int.natCast_nonneg _, ?_⟩)) | with_reducible refine Both.mk ?_ ?_ | rintro _ rfl | exact rfl | (split <;> (rename_i h; first | (simp only [beq_self_eq_true, eq_self, decide_true, Bool.not_true, Bool.false_eq_true] at h; done) | (try rw [h])))))
  all_goals try (conv => whnf)
  all_goals first
    | exact ⟨⟨k2 + 1, _, step_up (get_lt hy) (ml2 (by have := of_decide_eq_false (by assumption : decide (((d.cache.map wrD).length : Int) > 400) = false); omega)), any_up' hy hu2 (wr_ok2 (lw (by have := of_decide_eq_false (by assumption : decide (((d.secs.map strD).length : Int) > 700) = false); omega : d.secs.length ≤ 700)) (by assumption) (by assumption)), rfl⟩, mu_up (get_lt hy) (ml2 (by have := of_decide_eq_false (by assumption : decide (((d.cache.map wrD).length : Int) > 400) = false); omega))⟩
    | exact ⟨⟨k + 1, _, step_up (get_lt hx) (ml2 (by have := of_decide_eq_false (by assumption : decide (((d.secs.map strD).length : Int) > 700) = false); omega)), any_up' hx hu (by assumption), rfl⟩, mu_up (get_lt hx) (ml2 (by have := of_decide_eq_false (by assumption : decide (((d.secs.map strD).length : Int) > 700) = false); omega))⟩
    | (refine ⟨congrArg (fun b => AV.d (D.b b)) ?_, rfl⟩
       rw [ho]; symm
       first
         | (rw [hit_any hy (p := badWr d.secs.length) (by first | exact wr_4 (lw (by have := of_decide_eq_false (by assumption : decide (((d.secs.map strD).length : Int) > 700) = false); omega : d.secs.length ≤ 700)) (by assumption) | exact wr_3 (by assumption))]; simp; done)
         | (rw [hit_any hx (p := badSec) (by assumption)]; simp; done)
         | (rw [decide_eq_false (by have := of_decide_eq_true (by assumption : decide (((d.secs.map strD).length : Int) > 700) = true); omega : ¬ d.secs.length ≤ 700)]; rfl)
         | (rw [decide_eq_false (by have := of_decide_eq_true (by assumption : decide (((d.cache.map wrD).length : Int) > 400) = true); omega : ¬ d.cache.length ≤ 400), Bool.and_false]; rfl)
         | (rw [decide_eq_true (by have := of_decide_eq_false (by assumption : decide (((d.secs.map strD).length : Int) > 700) = false); omega : d.secs.length ≤ 700), decide_eq_true (by have := of_decide_eq_false (by assumption : decide (((d.cache.map wrD).length : Int) > 400) = false); omega : d.cache.length ≤ 400), end_any hu (of_decide_eq_false (by assumption)), end_any hu2 (of_decide_eq_false (by assumption))]; rfl))
    | trace_state
end Go.Pm.Tryz
