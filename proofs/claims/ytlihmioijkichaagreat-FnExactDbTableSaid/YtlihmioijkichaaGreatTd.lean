/-
Tables that are right.
-/
import Derived.Test.YtlihmioijkichaaGreatTa
namespace Go.Pm.Tryz
open Go Go.Proofs
set_option linter.unusedVariables false
set_option linter.unusedSimpArgs false
set_option maxRecDepth 100000
structure Tab where
  sch : Schema
  rows : List (List Val)
def rowD (r : List Val) : D := .sl false (r.map valD)
def tabD (t : Tab) : D := .agg [.s t.sch.name, .sl false (t.sch.cols.map colD), .sl false (t.sch.keys.map i64D), .sl false (t.sch.idxs.map idxD), .sl false (t.rows.map rowD)]
def tabC (t : Tab) : List AV := [.d (.s t.sch.name), .d (.sl false (t.sch.cols.map colD)), .d (.sl false (t.sch.keys.map i64D)), .d (.sl false (t.sch.idxs.map idxD)), .d (.sl false (t.rows.map rowD))]
structure Tab.fits (t : Tab) : Prop where
  sch : t.sch.fits
  rows : t.rows.length ≤ maxLen
  row : ∀ r, r ∈ t.rows → r.length ≤ maxLen
structure before (s : Schema) (rows : List (List Val)) (k : Nat) (row : List Val) : Prop where
  fit : rowP s.cols row
  ord : ∀ p, 0 < k → rows[k - 1]? = some p → cmpL (pickM p s.keys) (pickM row s.keys) < 0
structure rowOk (s : Schema) (rows : List (List Val)) (k : Nat) (row : List Val) : Prop where
  bef : before s rows k row
  apart : ∀ o, o ∈ rows.take k → ¬ clashP s.idxs row o
structure tableP (t : Tab) : Prop where
  sch : schemaP t.sch
  most : t.rows.length ≤ 60
  rows : ∀ k row, t.rows[k]? = some row → rowOk t.sch t.rows k row
theorem keys_len {s : Schema} (h : schemaP s) : s.keys.length ≤ 1000 := by have := colsP_len h.keys; have := h.hi; omega
theorem keys_in {s : Schema} (h : schemaP s) {row : List Val} (hr : rowP s.cols row) : inRow row s.keys := fun c hc => by
  have := colsP_in h.keys hc
  rw [hr.1]; exact this
theorem idxs_in {s : Schema} (h : schemaP s) {row : List Val} (hr : rowP s.cols row) : idxIn s.idxs row := fun x hx => by
  have h1 := h.idxs x hx
  refine ⟨by have := colsP_len h1; have := h.hi; omega, fun c hc => ?_⟩
  have := colsP_in h1 hc
  rw [hr.1]; exact this
theorem row_vals {cs : List Col} {row : List Val} (h : rowP cs row) : ∀ v, v ∈ row → valueP v := fun v hv => by
  obtain ⟨k, hk⟩ := List.getElem?_of_mem hv
  obtain ⟨c, hc⟩ := get_ex (ss := cs) (k := k) (by have := get_lt hk; have := h.1; omega)
  exact (h.2 k v c hk hc).1
theorem idx_max {s : Schema} (h : schemaP s) : s.idxs.length ≤ maxLen := Nat.le_trans h.idx (Nat.le_of_ble_eq_true rfl)
theorem pick_max {s : Schema} (h : schemaP s) (row : List Val) : (pickM row s.keys).length ≤ maxLen := by rw [pickM_len]; exact Nat.le_trans (keys_len h) (Nat.le_of_ble_eq_true rfl)
theorem le_max2 {n : Nat} (h : n ≤ 2000000) : n ≤ maxLen := Nat.le_trans h (Nat.le_of_ble_eq_true rfl)
theorem wrap_prev {k : Nat} (h0 : decide ((k : Int) > 0) = true) (h : k ≤ 2000000) : IntKind.i64.wrap ((k : Int) - 1) = ((k - 1 : Nat) : Int) := by
  have := of_decide_eq_true h0
  rw [wrap_i64_id _ (by omega) (by omega)]; omega
theorem prevOf {α : Type} {f : α → D} {xs : List α} {k : Nat} (h0 : decide ((k : Int) > 0) = true) (hk : k < xs.length) (hm : k ≤ 2000000) : ∃ p, xs[k - 1]? = some p ∧ (xs.map f)[(IntKind.i64.wrap ((k : Int) - 1)).toNat]? = some (f p) := by
  obtain ⟨p, hp⟩ := get_ex (ss := xs) (k := k - 1) (by omega)
  refine ⟨p, hp, ?_⟩
  rw [wrap_prev h0 hm]
  exact get_map' hp
theorem up_rows {s : Schema} {rows : List (List Val)} {k : Nat} (h : ∀ j r, j < k → rows[j]? = some r → rowOk s rows j r) {row : List Val} (hr : rows[k]? = some row) (h1 : rowOk s rows k row) : ∀ j r, j < k + 1 → rows[j]? = some r → rowOk s rows j r := by
  intro j r hj hjr
  by_cases e : j = k
  · subst e; rw [hr] at hjr; cases hjr; exact h1
  · exact h j r (by omega) hjr
set_option maxHeartbeats 8000000 in
theorem specTableRight (t : Tab) (ht : t.fits) : Ent Tryz.prog 99 [.d (tabD t)] [] (.d (.b (dec (tableP t)))) [] := by
  obtain ⟨o, ho⟩ : ∃ o, o = dec (tableP t) := ⟨_, rfl⟩
  rw [← ho]
  have hrl : (t.rows.map rowD).length = t.rows.length := List.length_map ..
  have c1 := specSchemaRight t.sch ht.sch
  refine ent_of tok mixed (f := 99) Tryz.func99 (by kernel_rfl) (keep := false) ?_
  repeat' ((conv => whnf) <;> (first
    | ((with_reducible refine isCall ?_) <;> (first
        | (refine ⟨_, c1, ?_⟩; rintro _ _ ⟨rfl, rfl⟩)
        | (refine ⟨_, c2, ?_⟩; rintro _ _ ⟨rfl, rfl⟩)
        | (refine ⟨_, c4 (not_ok (by assumption)), ?_⟩; rintro _ _ ⟨rfl, rfl⟩)
        | (refine ⟨_, c5, ?_⟩; rintro _ _ ⟨rfl, rfl⟩)
        | (refine ⟨_, c6, ?_⟩; rintro _ _ ⟨rfl, rfl⟩)
        | (refine ⟨_, c7, ?_⟩; rintro _ _ ⟨rfl, rfl⟩)
        | refine ⟨_, get_map' hrow, ?_⟩
        | refine ⟨_, get_map' hq, ?_⟩
        | ((with_reducible refine isGet (xs := t.rows.map rowD) (i := ((m : Nat) : Int).toNat) ?_); obtain ⟨q, hq⟩ := get_ex (ss := t.rows) (k := m) (by have := get_lt hrow; have := lt_of_dec' (by assumption : decide ((m : Int) < (k : Int)) = true); omega); have hqm := lt_of_dec' (by assumption : decide ((m : Int) < (k : Int)) = true); have c7 := specClash t.sch row q (idx_max hS) (idxs_in hS hB.fit) (idxs_in hS (hv m q hqm hq).bef.fit); refine ⟨_, get_map' hq, ?_⟩)
        | ((with_reducible refine isGet (xs := t.rows.map rowD) (i := ((k : Nat) : Int).toNat) ?_); obtain ⟨row, hrow⟩ := get_ex (ss := t.rows) (k := k) (lt_of_dec (by assumption)); have c2 := specRow t.sch row (ht.row row (get_mem hrow)); have c4 := (fun h : dec (rowP t.sch.cols row) = true => specKey t.sch row hkl (keys_in hS (of_dec h))); refine ⟨_, get_map' hrow, ?_⟩)
        | (obtain ⟨p, hp, hpi⟩ := prevOf (f := rowD) (xs := t.rows) (k := k) (by assumption) (get_lt hrow) (by omega); have hpR := (hv (k - 1) p (by have := of_decide_eq_true (by assumption : decide ((k : Int) > 0) = true); omega) hp).bef.fit; have c5 := specKey t.sch p hkl (keys_in hS hpR); have c6 := l02Compare (pickM p t.sch.keys) (pickM row t.sch.keys) (hpm p) (hpm row); refine ⟨_, hpi, ?_⟩)
        | (refine ⟨(by rw [wrap_prev (by assumption) (by omega)]; omega), ?_⟩)
        | fail))
    | ((with_reducible refine isLoop ?_) <;> (first
        | (refine ⟨[1, 3], [10001], fun st => ∃ (k : Nat) (i : Int), i = k ∧ k ≤ t.rows.length ∧ t.rows.length ≤ 60 ∧ schemaP t.sch ∧ (∀ j r, j < k → t.rows[j]? = some r → rowOk t.sch t.rows j r) ∧ st = ⟨[(1, .ptr 10001 0), (3, .d (.i .i64 i))], [(10001, .var (tabC t))]⟩, fun st => match look 3 st.env with | some (.d (.i _ i)) => t.rows.length - i.toNat | _ => 0, rfl, ⟨0, _, rfl, Nat.zero_le _, (by have := of_decide_eq_false (by assumption : decide (((t.rows.map rowD).length : Int) > 60) = false); omega), of_dec (not_ok (by assumption)), (fun j r hj => absurd hj (Nat.not_lt_zero _)), rfl⟩, ?_⟩; rintro st ⟨k, i, rfl, hk, h60, hS, hv, rfl⟩; have hkl := keys_len hS; have hpm := pick_max hS)
        | (refine ⟨[1, 3, 4], [10001], fun st => ∃ (m : Nat) (i : Int), i = m ∧ m ≤ k ∧ before t.sch t.rows k row ∧ (∀ o, o ∈ t.rows.take m → ¬ clashP t.sch.idxs row o) ∧ st = ⟨[(1, .ptr 10001 0), (3, .d (.i .i64 k)), (4, .d (.i .i64 i))], [(10001, .var (tabC t))]⟩, fun st => match look 4 st.env with | some (.d (.i _ i)) => k - i.toNat | _ => 0, rfl, ⟨0, _, rfl, Nat.zero_le _, ?_, (fun x hx => by simp at hx), rfl⟩, ?_⟩; rotate_left; rintro st ⟨m, i, rfl, hm, hB, hw, rfl⟩)
        | refine ⟨_, get_map' hrow, ?_⟩
        | refine ⟨_, get_map' hq, ?_⟩
        | ((with_reducible refine isGet (xs := t.rows.map rowD) (i := ((m : Nat) : Int).toNat) ?_); obtain ⟨q, hq⟩ := get_ex (ss := t.rows) (k := m) (by have := get_lt hrow; have := lt_of_dec' (by assumption : decide ((m : Int) < (k : Int)) = true); omega); have hqm := lt_of_dec' (by assumption : decide ((m : Int) < (k : Int)) = true); have c7 := specClash t.sch row q (idx_max hS) (idxs_in hS hB.fit) (idxs_in hS (hv m q hqm hq).bef.fit); refine ⟨_, get_map' hq, ?_⟩)
        | ((with_reducible refine isGet (xs := t.rows.map rowD) (i := ((k : Nat) : Int).toNat) ?_); obtain ⟨row, hrow⟩ := get_ex (ss := t.rows) (k := k) (lt_of_dec (by assumption)); have c2 := specRow t.sch row (ht.row row (get_mem hrow)); have c4 := (fun h : dec (rowP t.sch.cols row) = true => specKey t.sch row hkl (keys_in hS (of_dec h))); refine ⟨_, get_map' hrow, ?_⟩)
        | (obtain ⟨p, hp, hpi⟩ := prevOf (f := rowD) (xs := t.rows) (k := k) (by assumption) (get_lt hrow) (by omega); have hpR := (hv (k - 1) p (by have := of_decide_eq_true (by assumption : decide ((k : Int) > 0) = true); omega) hp).bef.fit; have c5 := specKey t.sch p hkl (keys_in hS hpR); have c6 := l02Compare (pickM p t.sch.keys) (pickM row t.sch.keys) (hpm p) (hpm row); refine ⟨_, hpi, ?_⟩)
        | (refine ⟨(by rw [wrap_prev (by assumption) (by omega)]; omega), ?_⟩)
        | fail))
    | ((with_reducible refine isCut ?_) <;> (first
        | refine ⟨⟨none⟩, ?_⟩))
    | ((first | with_reducible refine isEx ?_ | with_reducible refine isAnd ?_ | with_reducible refine isOr ?_) <;> (first
        | refine ⟨_, get_map' hrow, ?_⟩
        | refine ⟨_, get_map' hq, ?_⟩
        | ((with_reducible refine isGet (xs := t.rows.map rowD) (i := ((m : Nat) : Int).toNat) ?_); obtain ⟨q, hq⟩ := get_ex (ss := t.rows) (k := m) (by have := get_lt hrow; have := lt_of_dec' (by assumption : decide ((m : Int) < (k : Int)) = true); omega); have hqm := lt_of_dec' (by assumption : decide ((m : Int) < (k : Int)) = true); have c7 := specClash t.sch row q (idx_max hS) (idxs_in hS hB.fit) (idxs_in hS (hv m q hqm hq).bef.fit); refine ⟨_, get_map' hq, ?_⟩)
        | ((with_reducible refine isGet (xs := t.rows.map rowD) (i := ((k : Nat) : Int).toNat) ?_); obtain ⟨row, hrow⟩ := get_ex (ss := t.rows) (k := k) (lt_of_dec (by assumption)); have c2 := specRow t.sch row (ht.row row (get_mem hrow)); have c4 := (fun h : dec (rowP t.sch.cols row) = true => specKey t.sch row hkl (keys_in hS (of_dec h))); refine ⟨_, get_map' hrow, ?_⟩)
        | (obtain ⟨p, hp, hpi⟩ := prevOf (f := rowD) (xs := t.rows) (k := k) (by assumption) (get_lt hrow) (by omega); have hpR := (hv (k - 1) p (by have := of_decide_eq_true (by assumption : decide ((k : Int) > 0) = true); omega) hp).bef.fit; have c5 := specKey t.sch p hkl (keys_in hS hpR); have c6 := l02Compare (pickM p t.sch.keys) (pickM row t.sch.keys) (hpm p) (hpm row); refine ⟨_, hpi, ?_⟩)
        | (refine ⟨(by rw [wrap_prev (by assumption) (by omega)]; omega), ?_⟩)
        | ((with_reducible refine isSmall ?_) <;> (refine ⟨?_, ?_⟩; kernel_rfl))
        | refine ⟨rfl, ?_⟩
        | refine ⟨Int.natCast_nonneg _, ?_⟩))
    | with_reducible refine Both.mk ?_ ?_
    | rintro _ rfl
    | exact rfl
    | (split <;> (rename_i h; first | (simp only [beq_self_eq_true, eq_self, decide_true, Bool.not_true, Bool.false_eq_true] at h; done) | (try rw [h])))))
  all_goals (conv => whnf)
  all_goals first
    | exact ret_false ho fun hP => of_ndec (not_ok' h) hP.sch
    | exact ret_false ho fun hP => by have := of_decide_eq_true h; have := hP.most; omega
    | exact ret_false ho fun hP => of_ndec (not_ok' h) (hP.rows k row hrow).bef.fit
    | exact ret_false ho fun hP => Int.not_le.2 ((hP.rows k row hrow).bef.ord p (by have := of_decide_eq_true (by assumption : decide ((k : Int) > 0) = true); omega) hp) (of_decide_eq_true h)
    | exact ret_false ho fun hP => (hP.rows k row hrow).apart q (take_mem hq hqm) (of_dec h)
    | exact ⟨⟨m + 1, _, step_up (n := t.rows.length) (by have := get_lt hrow; omega) ht.rows, hqm, hB, take_all hw hq (of_ndec h), rfl⟩, by have := ht.rows; have := get_lt hrow; exact mu_up (n := k) hqm (by omega)⟩
    | (have e : m = k := by have := of_decide_eq_false (by assumption : decide ((m : Int) < (k : Int)) = false); omega
       rw [e] at hw
       exact ⟨⟨k + 1, _, step_up (get_lt hrow) ht.rows, get_lt hrow, h60, hS, up_rows hv hrow ⟨hB, hw⟩, rfl⟩, mu_up (get_lt hrow) ht.rows⟩)
    | exact ⟨of_dec (not_ok (by assumption)), fun p' _ hp' => by rw [hp] at hp'; cases hp'; exact Int.not_le.1 (of_decide_eq_false h)⟩
    | exact ⟨of_dec (not_ok (by assumption)), fun p' h0 _ => by have := of_decide_eq_false h; omega⟩
    | (have e : k = t.rows.length := by have := of_decide_eq_false h; omega
       exact ret_true ho ⟨hS, h60, fun j r hj => hv j r (by rw [e]; exact get_lt hj) hj⟩)
    | trace_state
theorem clashRow (t : Tab) (row o : List Val) (hS : schemaP t.sch) (h1 : rowP t.sch.cols row) (h2 : rowP t.sch.cols o) : Ent Tryz.prog 186 [.d (rowD o), .ptr 0 0, .ptr 1 0] [.var (tabC t), .var [.d (rowD row)]] (.d (.b (dec (clashP t.sch.idxs o row)))) [.var (tabC t), .var [.d (rowD row)]] := by
  have c1 := implClash t.sch o row (idx_max hS) (idxs_in hS h2) (idxs_in hS h1) (row_vals h2)
  generalize dec (clashP t.sch.idxs o row) = u at *
  refine ent_of tok mixed (f := 186) Tryz.func186 (by kernel_rfl) (keep := false) ?_
  repeat' ((conv => whnf) <;> (first
    | ((with_reducible refine isCall ?_) <;> (first
        | (refine ⟨_, c1, ?_⟩; rintro _ _ ⟨rfl, rfl⟩)
        | fail))
    | ((with_reducible refine isLoop ?_) <;> (first
        | fail))
    | ((with_reducible refine isCut ?_) <;> (first
        | refine ⟨⟨none⟩, ?_⟩))
    | ((first | with_reducible refine isEx ?_ | with_reducible refine isAnd ?_ | with_reducible refine isOr ?_) <;> (first
        | ((with_reducible refine isSmall ?_) <;> (refine ⟨?_, ?_⟩; kernel_rfl))
        | refine ⟨rfl, ?_⟩
        | refine ⟨Int.natCast_nonneg _, ?_⟩))
    | with_reducible refine Both.mk ?_ ?_
    | rintro _ rfl
    | exact rfl
    | (split <;> (rename_i h; first | (simp only [beq_self_eq_true, eq_self, decide_true, Bool.not_true, Bool.false_eq_true] at h; done) | (try rw [h])))))
set_option maxHeartbeats 2000000 in
theorem indexRows (t : Tab) (row : List Val) (os : List (List Val)) (hl : os.length ≤ maxLen) (hS : schemaP t.sch) (h1 : rowP t.sch.cols row) (h2 : ∀ o, o ∈ os → rowP t.sch.cols o) : EntQ Tryz.prog 253 [.d (.sl false (os.map rowD)), .fn 186 [.ptr 0 0, .ptr 1 0]] [.var (tabC t), .var [.d (rowD row)]]
    (fun R O => ∃ n : Int, R = .d (.i .i64 n) ∧ O = [.var (tabC t), .var [.d (rowD row)]] ∧ decide (n ≥ 0) = dec (∃ o, o ∈ os ∧ clashP t.sch.idxs o row)) := by
  refine ent_of tok mixed (f := 253) Tryz.func253 (by kernel_rfl) (keep := false) ?_
  repeat' ((conv => whnf) <;> (first
    | ((with_reducible refine isCall ?_) <;> (first
        | (refine ⟨_, c1, ?_⟩; rintro _ _ ⟨rfl, rfl⟩)
        | ((with_reducible refine isGet (xs := os.map rowD) (i := ((k : Nat) : Int).toNat) ?_); obtain ⟨i, hi⟩ := get_ex (ss := os) (k := k) (lt_of_dec (by assumption)); have c1 := clashRow t row i hS h1 (h2 i (get_mem hi)); refine ⟨_, get_map' hi, ?_⟩)
        | fail))
    | ((with_reducible refine isLoop ?_) <;> (first
        | (refine ⟨[8, 7, 0, 1], [0, 1], fun st => ∃ (k : Nat) (n : Int), n = k ∧ k ≤ os.length ∧ (∀ i, i ∈ os.take k → ¬ clashP t.sch.idxs i row) ∧ st = ⟨[(8, .d (.i .i64 n)), (7, .d (.i .i64 ((os.map rowD).length : Int))), (0, .d (.sl false (os.map rowD))), (1, .fn 186 [.ptr 0 0, .ptr 1 0])], [(0, .var (tabC t)), (1, .var [.d (rowD row)])]⟩, fun st => match look 8 st.env with | some (.d (.i _ n)) => os.length - n.toNat | _ => 0, rfl, ⟨0, _, rfl, Nat.zero_le _, (fun x hx => by simp at hx), rfl⟩, ?_⟩; rintro st ⟨k, n, rfl, hk, hv, rfl⟩)
        | ((with_reducible refine isGet (xs := os.map rowD) (i := ((k : Nat) : Int).toNat) ?_); obtain ⟨i, hi⟩ := get_ex (ss := os) (k := k) (lt_of_dec (by assumption)); have c1 := clashRow t row i hS h1 (h2 i (get_mem hi)); refine ⟨_, get_map' hi, ?_⟩)
        | fail))
    | ((with_reducible refine isCut ?_) <;> (first
        | refine ⟨⟨none⟩, ?_⟩))
    | ((first | with_reducible refine isEx ?_ | with_reducible refine isAnd ?_ | with_reducible refine isOr ?_) <;> (first
        | ((with_reducible refine isGet (xs := os.map rowD) (i := ((k : Nat) : Int).toNat) ?_); obtain ⟨i, hi⟩ := get_ex (ss := os) (k := k) (lt_of_dec (by assumption)); have c1 := clashRow t row i hS h1 (h2 i (get_mem hi)); refine ⟨_, get_map' hi, ?_⟩)
        | ((with_reducible refine isSmall ?_) <;> (refine ⟨?_, ?_⟩; kernel_rfl))
        | refine ⟨rfl, ?_⟩
        | refine ⟨Int.natCast_nonneg _, ?_⟩))
    | with_reducible refine Both.mk ?_ ?_
    | rintro _ rfl
    | exact rfl
    | (split <;> (rename_i h; first | (simp only [beq_self_eq_true, eq_self, decide_true, Bool.not_true, Bool.false_eq_true] at h; done) | (try rw [h])))))
  all_goals (conv => whnf)
  · refine ⟨_, rfl, rfl, ?_⟩
    rw [dec_true ⟨i, get_mem hi, of_dec h⟩]
    exact decide_eq_true (Int.natCast_nonneg k)
  · exact ⟨⟨k + 1, _, step_up (get_lt hi) hl, get_lt hi, any_no hv hi (of_ndec h), rfl⟩, mu_up (get_lt hi) hl⟩
  · refine ⟨_, rfl, rfl, ?_⟩
    have e : k = os.length := by have := of_decide_eq_false h; rw [List.length_map] at this; omega
    rw [e, List.take_length] at hv
    rw [dec_false fun ⟨c, h1, h2⟩ => hv c h1 h2]; rfl
theorem containsRows (t : Tab) (row : List Val) (os : List (List Val)) (k : Nat) (hl : os.length ≤ maxLen) (hS : schemaP t.sch) (h1 : rowP t.sch.cols row) (h2 : ∀ o, o ∈ os.take k → rowP t.sch.cols o) : Ent Tryz.prog 185 [.d (.sl false (((os.map rowD).take k).drop 0)), .fn 186 [.ptr 0 0, .ptr 1 0]] [.var (tabC t), .var [.d (rowD row)]]
    (.d (.b (dec (∃ o, o ∈ os.take k ∧ clashP t.sch.idxs o row)))) [.var (tabC t), .var [.d (rowD row)]] := by
  have e : ((os.map rowD).take k).drop 0 = (os.take k).map rowD := by simp [List.map_take]
  rw [e]
  have c1 := indexRows t row (os.take k) (by rw [List.length_take]; omega) hS h1 h2
  refine ent_of tok mixed (f := 185) Tryz.func185 (by kernel_rfl) (keep := false) ?_
  repeat' ((conv => whnf) <;> (first
    | ((with_reducible refine isCall ?_) <;> (first
        | (refine ⟨_, c1, ?_⟩; rintro _ _ ⟨n, rfl, rfl, hn⟩)
        | fail))
    | ((with_reducible refine isLoop ?_) <;> (first
        | fail))
    | ((with_reducible refine isCut ?_) <;> (first
        | refine ⟨⟨none⟩, ?_⟩))
    | ((first | with_reducible refine isEx ?_ | with_reducible refine isAnd ?_ | with_reducible refine isOr ?_) <;> (first
        | ((with_reducible refine isSmall ?_) <;> (refine ⟨?_, ?_⟩; kernel_rfl))
        | refine ⟨rfl, ?_⟩
        | refine ⟨Int.natCast_nonneg _, ?_⟩))
    | with_reducible refine Both.mk ?_ ?_
    | rintro _ rfl
    | exact rfl
    | (split <;> (rename_i h; first | (simp only [beq_self_eq_true, eq_self, decide_true, Bool.not_true, Bool.false_eq_true] at h; done) | (try rw [h])))))
  all_goals (conv => whnf)
  all_goals (rw [hn]; exact ⟨rfl, rfl⟩)
theorem rowOnes (rs : List (List Val)) : ∀ x, x ∈ rs.map rowD → x.cells.length = 1 := by
  intro x hx
  obtain ⟨n, _, rfl⟩ := List.mem_map.1 hx
  rfl
theorem prev_rows {s : Schema} {rows : List (List Val)} {k : Nat} (h : ∀ j r, j < k → rows[j]? = some r → rowOk s rows j r) : ∀ o, o ∈ rows.take k → rowP s.cols o := fun o ho => by
  obtain ⟨j, hj⟩ := List.getElem?_of_mem ho
  rw [List.getElem?_take] at hj
  by_cases e : j < k
  · rw [if_pos e] at hj; exact (h j o e hj).bef.fit
  · rw [if_neg e] at hj; cases hj
set_option maxHeartbeats 8000000 in
theorem implTableRight (t : Tab) (ht : t.fits) : Ent Tryz.prog 102 [.d (tabD t)] [] (.d (.b (dec (tableP t)))) [] := by
  obtain ⟨o, ho⟩ : ∃ o, o = dec (tableP t) := ⟨_, rfl⟩
  rw [← ho]
  have hrl : (t.rows.map rowD).length = t.rows.length := List.length_map ..
  have c1 := implSchemaRight t.sch ht.sch
  refine ent_of tok mixed (f := 102) Tryz.func102 (by kernel_rfl) (keep := false) ?_
  repeat' ((conv => whnf) <;> (first
    | ((with_reducible refine isCall ?_) <;> (first
        | (refine ⟨_, c1, ?_⟩; rintro _ _ ⟨rfl, rfl⟩)
        | (refine ⟨_, c2, ?_⟩; rintro _ _ ⟨rfl, rfl⟩)
        | (refine ⟨_, c4 (not_ok (by assumption)), ?_⟩; rintro _ _ ⟨rfl, rfl⟩)
        | (refine ⟨_, c5, ?_⟩; rintro _ _ ⟨rfl, rfl⟩)
        | (refine ⟨_, c6, ?_⟩; rintro _ _ ⟨rfl, rfl⟩)
        | (refine ⟨_, c7 (not_ok (by assumption)), ?_⟩; rintro _ _ ⟨rfl, rfl⟩)
        | refine ⟨_, get_map' hrow, ?_⟩
        | ((with_reducible refine isGet (xs := t.rows.map rowD) (i := ((k : Nat) : Int).toNat) ?_); obtain ⟨row, hrow⟩ := get_ex (ss := t.rows) (k := k) (lt_of_dec (by assumption)); have c2 := implRow t.sch row (ht.row row (get_mem hrow)); have c4 := (fun h : dec (rowP t.sch.cols row) = true => implKey t.sch row hkl (keys_in hS (of_dec h))); have c7 := (fun h : dec (rowP t.sch.cols row) = true => containsRows t row t.rows k ht.rows hS (of_dec h) (prev_rows hv)); refine ⟨_, get_map' hrow, ?_⟩)
        | (obtain ⟨p, hp, hpi⟩ := prevOf (f := rowD) (xs := t.rows) (k := k) (by assumption) (get_lt hrow) (by omega); have hpR := (hv (k - 1) p (by have := of_decide_eq_true (by assumption : decide ((k : Int) > 0) = true); omega) hp).bef.fit; have c5 := implKey t.sch p hkl (keys_in hS hpR); have c6 := implCompare (pickM p t.sch.keys) (pickM row t.sch.keys) (hpm p) (hpm row); refine ⟨_, hpi, ?_⟩)
        | refine ⟨⟨rowOnes _, by decide⟩, ?_⟩
        | refine ⟨⟨Int.natCast_nonneg _, (by have := get_lt hrow; rw [List.length_map]; omega)⟩, ?_⟩
        | (refine ⟨(by rw [wrap_prev (by assumption) (by omega)]; omega), ?_⟩)
        | fail))
    | ((with_reducible refine isLoop ?_) <;> (first
        | (refine ⟨[1, 16, 17, 18], [10001], fun st => ∃ (k : Nat) (i : Int), i = k ∧ k ≤ t.rows.length ∧ t.rows.length ≤ 60 ∧ schemaP t.sch ∧ (∀ j r, j < k → t.rows[j]? = some r → rowOk t.sch t.rows j r) ∧ st = ⟨[(1, .ptr 10001 0), (16, .d (.sl false (t.rows.map rowD))), (17, .d (.i .i64 ((t.rows.map rowD).length : Int))), (18, .d (.i .i64 i))], [(10001, .var (tabC t))]⟩, fun st => match look 18 st.env with | some (.d (.i _ i)) => t.rows.length - i.toNat | _ => 0, rfl, ⟨0, _, rfl, Nat.zero_le _, (by have := of_decide_eq_false (by assumption : decide (((t.rows.map rowD).length : Int) > 60) = false); omega), of_dec (not_ok (by assumption)), (fun j r hj => absurd hj (Nat.not_lt_zero _)), rfl⟩, ?_⟩; rintro st ⟨k, i, rfl, hk, h60, hS, hv, rfl⟩; have hkl := keys_len hS; have hpm := pick_max hS)
        | refine ⟨_, get_map' hrow, ?_⟩
        | ((with_reducible refine isGet (xs := t.rows.map rowD) (i := ((k : Nat) : Int).toNat) ?_); obtain ⟨row, hrow⟩ := get_ex (ss := t.rows) (k := k) (lt_of_dec (by assumption)); have c2 := implRow t.sch row (ht.row row (get_mem hrow)); have c4 := (fun h : dec (rowP t.sch.cols row) = true => implKey t.sch row hkl (keys_in hS (of_dec h))); have c7 := (fun h : dec (rowP t.sch.cols row) = true => containsRows t row t.rows k ht.rows hS (of_dec h) (prev_rows hv)); refine ⟨_, get_map' hrow, ?_⟩)
        | (obtain ⟨p, hp, hpi⟩ := prevOf (f := rowD) (xs := t.rows) (k := k) (by assumption) (get_lt hrow) (by omega); have hpR := (hv (k - 1) p (by have := of_decide_eq_true (by assumption : decide ((k : Int) > 0) = true); omega) hp).bef.fit; have c5 := implKey t.sch p hkl (keys_in hS hpR); have c6 := implCompare (pickM p t.sch.keys) (pickM row t.sch.keys) (hpm p) (hpm row); refine ⟨_, hpi, ?_⟩)
        | refine ⟨⟨rowOnes _, by decide⟩, ?_⟩
        | refine ⟨⟨Int.natCast_nonneg _, (by have := get_lt hrow; rw [List.length_map]; omega)⟩, ?_⟩
        | (refine ⟨(by rw [wrap_prev (by assumption) (by omega)]; omega), ?_⟩)
        | fail))
    | ((with_reducible refine isCut ?_) <;> (first
        | refine ⟨⟨none⟩, ?_⟩))
    | ((first | with_reducible refine isEx ?_ | with_reducible refine isAnd ?_ | with_reducible refine isOr ?_) <;> (first
        | refine ⟨_, get_map' hrow, ?_⟩
        | ((with_reducible refine isGet (xs := t.rows.map rowD) (i := ((k : Nat) : Int).toNat) ?_); obtain ⟨row, hrow⟩ := get_ex (ss := t.rows) (k := k) (lt_of_dec (by assumption)); have c2 := implRow t.sch row (ht.row row (get_mem hrow)); have c4 := (fun h : dec (rowP t.sch.cols row) = true => implKey t.sch row hkl (keys_in hS (of_dec h))); have c7 := (fun h : dec (rowP t.sch.cols row) = true => containsRows t row t.rows k ht.rows hS (of_dec h) (prev_rows hv)); refine ⟨_, get_map' hrow, ?_⟩)
        | (obtain ⟨p, hp, hpi⟩ := prevOf (f := rowD) (xs := t.rows) (k := k) (by assumption) (get_lt hrow) (by omega); have hpR := (hv (k - 1) p (by have := of_decide_eq_true (by assumption : decide ((k : Int) > 0) = true); omega) hp).bef.fit; have c5 := implKey t.sch p hkl (keys_in hS hpR); have c6 := implCompare (pickM p t.sch.keys) (pickM row t.sch.keys) (hpm p) (hpm row); refine ⟨_, hpi, ?_⟩)
        | refine ⟨⟨rowOnes _, by decide⟩, ?_⟩
        | refine ⟨⟨Int.natCast_nonneg _, (by have := get_lt hrow; rw [List.length_map]; omega)⟩, ?_⟩
        | (refine ⟨(by rw [wrap_prev (by assumption) (by omega)]; omega), ?_⟩)
        | ((with_reducible refine isSmall ?_) <;> (refine ⟨?_, ?_⟩; kernel_rfl))
        | refine ⟨rfl, ?_⟩
        | refine ⟨Int.natCast_nonneg _, ?_⟩))
    | with_reducible refine Both.mk ?_ ?_
    | rintro _ rfl
    | exact rfl
    | (split <;> (rename_i h; first | (simp only [beq_self_eq_true, eq_self, decide_true, Bool.not_true, Bool.false_eq_true] at h; done) | (try rw [h])))))
  all_goals (conv => whnf)
  all_goals first
    | exact ret_false ho fun hP => of_ndec (not_ok' h) hP.sch
    | exact ret_false ho fun hP => by have := of_decide_eq_true h; have := hP.most; omega
    | exact ret_false ho fun hP => of_ndec (not_ok' h) (hP.rows k row hrow).bef.fit
    | exact ret_false ho fun hP => Int.not_le.2 ((hP.rows k row hrow).bef.ord p (by have := of_decide_eq_true (by assumption : decide ((k : Int) > 0) = true); omega) hp) (of_decide_eq_true h)
    | exact ret_false ho fun hP => (of_dec h).elim fun o hc => (hP.rows k row hrow).apart o hc.1 (clash_symm.1 hc.2)
    | (have ho2 := of_decide_eq_false (by assumption : decide (cmpL (pickM p t.sch.keys) (pickM row t.sch.keys) ≥ 0) = false)
       have hB : before t.sch t.rows k row := ⟨of_dec (not_ok (by assumption)), fun p' _ hp' => by rw [hp] at hp'; cases hp'; exact Int.not_le.1 ho2⟩
       exact ⟨⟨k + 1, _, step_up (get_lt hrow) ht.rows, get_lt hrow, h60, hS, up_rows hv hrow ⟨hB, fun o hc1 hc2 => of_ndec h ⟨o, hc1, clash_symm.1 hc2⟩⟩, rfl⟩, mu_up (get_lt hrow) ht.rows⟩)
    | (have ho2 := of_decide_eq_false (by assumption : decide ((k : Int) > 0) = false)
       have hB : before t.sch t.rows k row := ⟨of_dec (not_ok (by assumption)), fun p' h0 _ => by omega⟩
       exact ⟨⟨k + 1, _, step_up (get_lt hrow) ht.rows, get_lt hrow, h60, hS, up_rows hv hrow ⟨hB, fun o hc1 hc2 => of_ndec h ⟨o, hc1, clash_symm.1 hc2⟩⟩, rfl⟩, mu_up (get_lt hrow) ht.rows⟩)
    | (have e : k = t.rows.length := by have := of_decide_eq_false h; omega
       exact ret_true ho ⟨hS, h60, fun j r hj => hv j r (by rw [e]; exact get_lt hj) hj⟩)
    | trace_state
theorem less_back : ∀ (a b : List UInt8), (Op.bytesLess b a || decide (b = a)) = !Op.bytesLess a b
  | [], [] => by simp [Op.bytesLess]
  | [], _ :: _ => by simp [Op.bytesLess]
  | _ :: _, [] => by simp [Op.bytesLess]
  | x :: a, y :: b => by
    have ih := less_back a b
    by_cases h1 : x < y
    · have h2 : ¬ y < x := fun h => UInt8.lt_irrefl _ (UInt8.lt_trans h1 h)
      have hne : ¬ y = x := fun e => by subst e; exact UInt8.lt_irrefl _ h1
      simp [Op.bytesLess, h1, h2, hne]
    · by_cases h2 : y < x
      · have hne : ¬ x = y := fun e => by subst e; exact h1 h2
        simp [Op.bytesLess, h1, h2, hne]
      · have e : x = y := UInt8.le_antisymm (UInt8.not_lt.1 h2) (UInt8.not_lt.1 h1)
        subst e
        simp [Op.bytesLess, h1]
        simpa using ih
/-! Databases. -/
structure tabOk (ts : List Tab) (k : Nat) (t : Tab) : Prop where
  tab : tableP t
  ord : ∀ p, 0 < k → ts[k - 1]? = some p → Op.bytesLess p.sch.name t.sch.name = true
structure dbP (ts : List Tab) : Prop where
  most : ts.length ≤ 8
  tabs : ∀ k t, ts[k]? = some t → tabOk ts k t
theorem up_tabs {ts : List Tab} {k : Nat} (h : ∀ j r, j < k → ts[j]? = some r → tabOk ts j r) {t : Tab} (ht : ts[k]? = some t) (h1 : tabOk ts k t) : ∀ j r, j < k + 1 → ts[j]? = some r → tabOk ts j r := by
  intro j r hj hjr
  by_cases e : j = k
  · subst e; rw [ht] at hjr; cases hjr; exact h1
  · exact h j r (by omega) hjr
set_option maxHeartbeats 8000000 in
theorem specDbRight (ts : List Tab) (hl : ts.length ≤ 2000000) (ha : ∀ t, t ∈ ts → t.fits) : Ent Tryz.prog 43 [.d (.agg [.sl false (ts.map tabD)])] [] (.d (.b (dec (dbP ts)))) [] := by
  obtain ⟨o, ho⟩ : ∃ o, o = dec (dbP ts) := ⟨_, rfl⟩
  rw [← ho]
  have hm := le_max2 hl
  have htl : (ts.map tabD).length = ts.length := List.length_map ..
  refine ent_of tok mixed (f := 43) Tryz.func43 (by kernel_rfl) (keep := false) ?_
  repeat' ((conv => whnf) <;> (first
    | ((with_reducible refine isCall ?_) <;> (first
        | (refine ⟨_, c2, ?_⟩; rintro _ _ ⟨rfl, rfl⟩)
        | refine ⟨_, get_map' ht, ?_⟩
        | ((with_reducible refine isGet (xs := ts.map tabD) (i := ((k : Nat) : Int).toNat) ?_); obtain ⟨t, ht⟩ := get_ex (ss := ts) (k := k) (lt_of_dec (by assumption)); have c2 := specTableRight t (ha t (get_mem ht)); refine ⟨_, get_map' ht, ?_⟩)
        | (obtain ⟨p, hp, hpi⟩ := prevOf (f := tabD) (xs := ts) (k := k) (by assumption) (get_lt ht) (by omega); refine ⟨_, hpi, ?_⟩)
        | (refine ⟨(by rw [wrap_prev (by assumption) (by omega)]; omega), ?_⟩)
        | fail))
    | ((with_reducible refine isLoop ?_) <;> (first
        | (refine ⟨[1, 3], [10001], fun st => ∃ (k : Nat) (i : Int), i = k ∧ k ≤ ts.length ∧ ts.length ≤ 8 ∧ (∀ j r, j < k → ts[j]? = some r → tabOk ts j r) ∧ st = ⟨[(1, .ptr 10001 0), (3, .d (.i .i64 i))], [(10001, .var [.d (.sl false (ts.map tabD))])]⟩, fun st => match look 3 st.env with | some (.d (.i _ i)) => ts.length - i.toNat | _ => 0, rfl, ⟨0, _, rfl, Nat.zero_le _, (by have := of_decide_eq_false (by assumption : decide (((ts.map tabD).length : Int) > 8) = false); omega), (fun j r hj => absurd hj (Nat.not_lt_zero _)), rfl⟩, ?_⟩; rintro st ⟨k, i, rfl, hk, h8, hv, rfl⟩)
        | refine ⟨_, get_map' ht, ?_⟩
        | ((with_reducible refine isGet (xs := ts.map tabD) (i := ((k : Nat) : Int).toNat) ?_); obtain ⟨t, ht⟩ := get_ex (ss := ts) (k := k) (lt_of_dec (by assumption)); have c2 := specTableRight t (ha t (get_mem ht)); refine ⟨_, get_map' ht, ?_⟩)
        | (obtain ⟨p, hp, hpi⟩ := prevOf (f := tabD) (xs := ts) (k := k) (by assumption) (get_lt ht) (by omega); refine ⟨_, hpi, ?_⟩)
        | (refine ⟨(by rw [wrap_prev (by assumption) (by omega)]; omega), ?_⟩)
        | fail))
    | ((with_reducible refine isCut ?_) <;> (first
        | refine ⟨⟨none⟩, ?_⟩))
    | ((first | with_reducible refine isEx ?_ | with_reducible refine isAnd ?_ | with_reducible refine isOr ?_) <;> (first
        | refine ⟨_, get_map' ht, ?_⟩
        | ((with_reducible refine isGet (xs := ts.map tabD) (i := ((k : Nat) : Int).toNat) ?_); obtain ⟨t, ht⟩ := get_ex (ss := ts) (k := k) (lt_of_dec (by assumption)); have c2 := specTableRight t (ha t (get_mem ht)); refine ⟨_, get_map' ht, ?_⟩)
        | (obtain ⟨p, hp, hpi⟩ := prevOf (f := tabD) (xs := ts) (k := k) (by assumption) (get_lt ht) (by omega); refine ⟨_, hpi, ?_⟩)
        | (refine ⟨(by rw [wrap_prev (by assumption) (by omega)]; omega), ?_⟩)
        | ((with_reducible refine isSmall ?_) <;> (refine ⟨?_, ?_⟩; kernel_rfl))
        | refine ⟨rfl, ?_⟩
        | refine ⟨Int.natCast_nonneg _, ?_⟩))
    | with_reducible refine Both.mk ?_ ?_
    | rintro _ rfl
    | exact rfl
    | (split <;> (rename_i h; first | (simp only [beq_self_eq_true, eq_self, decide_true, Bool.not_true, Bool.false_eq_true] at h; done) | (try rw [h])))))
  all_goals (conv => whnf)
  all_goals first
    | exact ret_false ho fun hP => by have := of_decide_eq_true h; have := hP.most; omega
    | exact ret_false ho fun hP => of_ndec (not_ok' h) (hP.tabs k t ht).tab
    | exact ret_false ho fun hP => Bool.noConfusion ((not_ok' h).symm.trans ((hP.tabs k t ht).ord p (by have := of_decide_eq_true (by assumption : decide ((k : Int) > 0) = true); omega) hp) : false = true)
    | exact ⟨⟨k + 1, _, step_up (get_lt ht) hm, get_lt ht, h8, up_tabs hv ht ⟨of_dec (not_ok (by assumption)), fun p' _ hp' => by rw [hp] at hp'; cases hp'; exact not_ok h⟩, rfl⟩, mu_up (get_lt ht) hm⟩
    | exact ⟨⟨k + 1, _, step_up (get_lt ht) hm, get_lt ht, h8, up_tabs hv ht ⟨of_dec (not_ok (by assumption)), fun p' h0 _ => by have := of_decide_eq_false h; omega⟩, rfl⟩, mu_up (get_lt ht) hm⟩
    | (have e : k = ts.length := by have := of_decide_eq_false h; omega
       exact ret_true ho ⟨h8, fun j r hj => hv j r (by rw [e]; exact get_lt hj) hj⟩)
    | trace_state
set_option maxHeartbeats 8000000 in
theorem implDbRight (ts : List Tab) (hl : ts.length ≤ 2000000) (ha : ∀ t, t ∈ ts → t.fits) : Ent Tryz.prog 48 [.d (.agg [.sl false (ts.map tabD)])] [] (.d (.b (dec (dbP ts)))) [] := by
  obtain ⟨o, ho⟩ : ∃ o, o = dec (dbP ts) := ⟨_, rfl⟩
  rw [← ho]
  have hm := le_max2 hl
  have htl : (ts.map tabD).length = ts.length := List.length_map ..
  refine ent_of tok mixed (f := 48) Tryz.func48 (by kernel_rfl) (keep := false) ?_
  repeat' ((conv => whnf) <;> (first
    | ((with_reducible refine isCall ?_) <;> (first
        | (refine ⟨_, c2, ?_⟩; rintro _ _ ⟨rfl, rfl⟩)
        | refine ⟨_, get_map' ht, ?_⟩
        | ((with_reducible refine isGet (xs := ts.map tabD) (i := ((k : Nat) : Int).toNat) ?_); obtain ⟨t, ht⟩ := get_ex (ss := ts) (k := k) (lt_of_dec (by assumption)); have c2 := implTableRight t (ha t (get_mem ht)); refine ⟨_, get_map' ht, ?_⟩)
        | (obtain ⟨p, hp, hpi⟩ := prevOf (f := tabD) (xs := ts) (k := k) (by assumption) (get_lt ht) (by have := get_lt ht; omega); refine ⟨_, hpi, ?_⟩)
        | (refine ⟨(by rw [wrap_prev (by assumption) (by have := get_lt ht; omega)]; omega), ?_⟩)
        | fail))
    | ((with_reducible refine isLoop ?_) <;> (first
        | (refine ⟨[1, 6, 7, 8], [10001], fun st => ∃ (k : Nat) (i : Int), i = k ∧ k ≤ ts.length ∧ (∀ j r, j < k → ts[j]? = some r → tabOk ts j r) ∧ st = ⟨[(1, .ptr 10001 0), (6, .d (.sl false (ts.map tabD))), (7, .d (.i .i64 ((ts.map tabD).length : Int))), (8, .d (.i .i64 i))], [(10001, .var [.d (.sl false (ts.map tabD))])]⟩, fun st => match look 8 st.env with | some (.d (.i _ i)) => ts.length - i.toNat | _ => 0, rfl, ⟨0, _, rfl, Nat.zero_le _, (fun j r hj => absurd hj (Nat.not_lt_zero _)), rfl⟩, ?_⟩; rintro st ⟨k, i, rfl, hk, hv, rfl⟩)
        | refine ⟨_, get_map' ht, ?_⟩
        | ((with_reducible refine isGet (xs := ts.map tabD) (i := ((k : Nat) : Int).toNat) ?_); obtain ⟨t, ht⟩ := get_ex (ss := ts) (k := k) (lt_of_dec (by assumption)); have c2 := implTableRight t (ha t (get_mem ht)); refine ⟨_, get_map' ht, ?_⟩)
        | (obtain ⟨p, hp, hpi⟩ := prevOf (f := tabD) (xs := ts) (k := k) (by assumption) (get_lt ht) (by have := get_lt ht; omega); refine ⟨_, hpi, ?_⟩)
        | (refine ⟨(by rw [wrap_prev (by assumption) (by have := get_lt ht; omega)]; omega), ?_⟩)
        | fail))
    | ((with_reducible refine isCut ?_) <;> (first
        | refine ⟨⟨none⟩, ?_⟩))
    | ((first | with_reducible refine isEx ?_ | with_reducible refine isAnd ?_ | with_reducible refine isOr ?_) <;> (first
        | refine ⟨_, get_map' ht, ?_⟩
        | ((with_reducible refine isGet (xs := ts.map tabD) (i := ((k : Nat) : Int).toNat) ?_); obtain ⟨t, ht⟩ := get_ex (ss := ts) (k := k) (lt_of_dec (by assumption)); have c2 := implTableRight t (ha t (get_mem ht)); refine ⟨_, get_map' ht, ?_⟩)
        | (obtain ⟨p, hp, hpi⟩ := prevOf (f := tabD) (xs := ts) (k := k) (by assumption) (get_lt ht) (by have := get_lt ht; omega); refine ⟨_, hpi, ?_⟩)
        | (refine ⟨(by rw [wrap_prev (by assumption) (by have := get_lt ht; omega)]; omega), ?_⟩)
        | ((with_reducible refine isSmall ?_) <;> (refine ⟨?_, ?_⟩; kernel_rfl))
        | refine ⟨rfl, ?_⟩
        | refine ⟨Int.natCast_nonneg _, ?_⟩))
    | with_reducible refine Both.mk ?_ ?_
    | rintro _ rfl
    | exact rfl
    | (split <;> (rename_i h; first | (simp only [beq_self_eq_true, eq_self, decide_true, Bool.not_true, Bool.false_eq_true] at h; done) | (try rw [h])))))
  all_goals (conv => whnf)
  all_goals first
    | exact ret_false ho fun hP => of_ndec (not_ok' h) (hP.tabs k t ht).tab
    | exact ret_false ho fun hP => Bool.noConfusion ((not_ok' ((less_back p.sch.name t.sch.name).symm.trans h)).symm.trans ((hP.tabs k t ht).ord p (by have := of_decide_eq_true (by assumption : decide ((k : Int) > 0) = true); omega) hp) : false = true)
    | exact ⟨⟨k + 1, _, step_up (get_lt ht) hm, get_lt ht, up_tabs hv ht ⟨of_dec (not_ok (by assumption)), fun p' _ hp' => by rw [hp] at hp'; cases hp'; exact not_ok ((less_back p.sch.name t.sch.name).symm.trans h)⟩, rfl⟩, mu_up (get_lt ht) hm⟩
    | exact ⟨⟨k + 1, _, step_up (get_lt ht) hm, get_lt ht, up_tabs hv ht ⟨of_dec (not_ok (by assumption)), fun p' h0 _ => by have := of_decide_eq_false h; omega⟩, rfl⟩, mu_up (get_lt ht) hm⟩
    | (have e : k = ts.length := by have := of_decide_eq_false h; omega
       refine ret_b ho ⟨fun hb => ⟨by have := of_decide_eq_true hb; omega, fun j r hj => hv j r (by rw [e]; exact get_lt hj) hj⟩, fun hP => decide_eq_true (by rw [htl]; have := hP.most; omega)⟩)
    | trace_state
end Go.Pm.Tryz
