/-
A database's table: both functions.
-/
import Derived.Test.YtlihmioijkichaaGreatTh
namespace Go.Pm.Tryz
open Go Go.Proofs
set_option linter.unusedVariables false
set_option linter.unusedSimpArgs false
set_option maxRecDepth 100000
def findM (nm : List UInt8) : List Tab → Nat → Int
  | [], _ => -1
  | t :: ts, k => match decide (t.sch.name = nm) with | true => (k : Int) | false => findM nm ts (k + 1)
theorem find_here {nm : List UInt8} {ts : List Tab} {k : Nat} {t : Tab} (ht : ts[k]? = some t) (h : decide (t.sch.name = nm) = true) : findM nm (ts.drop k) k = (k : Int) := by
  obtain ⟨hk, rfl⟩ := List.getElem?_eq_some_iff.1 ht
  rw [List.drop_eq_getElem_cons hk, findM, h]
theorem find_next {nm : List UInt8} {ts : List Tab} {k : Nat} {t : Tab} (ht : ts[k]? = some t) (h : decide (t.sch.name = nm) = false) : findM nm (ts.drop k) k = findM nm (ts.drop (k + 1)) (k + 1) := by
  obtain ⟨hk, rfl⟩ := List.getElem?_eq_some_iff.1 ht
  rw [List.drop_eq_getElem_cons hk, findM, h]
theorem find_range {nm : List UInt8} : ∀ (ts : List Tab) (k : Nat), 0 ≤ findM nm ts k → ∃ j : Nat, findM nm ts k = ((k + j : Nat) : Int) ∧ j < ts.length
  | [], _, h => by simp [findM] at h
  | t :: ts, k, h => by
    rw [findM] at h ⊢
    cases hd : decide (t.sch.name = nm) with
    | true => exact ⟨0, by simp, by simp⟩
    | false =>
      rw [hd] at h
      obtain ⟨j, h1, h2⟩ := find_range ts (k + 1) h
      exact ⟨j + 1, by simp only []; rw [h1]; omega, by simp; omega⟩
def dbArg (ts : List Tab) : D := .agg [.sl false (ts.map tabD)]
set_option maxHeartbeats 2000000 in
theorem specFind (ts : List Tab) (hl : ts.length ≤ maxLen) (nm : List UInt8) : Ent Tryz.prog 44 [.d (dbArg ts), .d (.s nm)] [] (.d (.i .i64 (findM nm ts 0))) [] := by
  obtain ⟨o, ho⟩ : ∃ o, o = findM nm ts 0 := ⟨_, rfl⟩
  rw [← ho]
  refine ent_of tok mixed (f := 44) Tryz.func44 (by kernel_rfl) (keep := false) ?_
  repeat' ((conv => whnf) <;> (first
    | ((with_reducible refine isCall ?_) <;> (first
        | refine ⟨_, get_map' hx, ?_⟩
        | ((with_reducible refine isGet (xs := ts.map tabD) (i := ((k : Nat) : Int).toNat) ?_); obtain ⟨x, hx⟩ := get_ex (ss := ts) (k := k) (lt_of_dec (by assumption)); refine ⟨_, get_map' hx, ?_⟩)
        | fail))
    | ((with_reducible refine isLoop ?_) <;> (first
        | (refine ⟨[1, 2, 5], [10002], fun st => ∃ (k : Nat) (n : Int), n = k ∧ k ≤ ts.length ∧ o = findM nm (ts.drop k) k ∧ st = ⟨[(1, .d (.s nm)), (2, .ptr 10002 0), (5, .d (.i .i64 n))], [(10002, .var [.d (.sl false (ts.map tabD))])]⟩, fun st => match look 5 st.env with | some (.d (.i _ n)) => ts.length - n.toNat | _ => 0, rfl, ⟨0, _, rfl, Nat.zero_le _, ho, rfl⟩, ?_⟩; rintro st ⟨k, n, rfl, hk, hu, rfl⟩)
        | refine ⟨_, get_map' hx, ?_⟩
        | ((with_reducible refine isGet (xs := ts.map tabD) (i := ((k : Nat) : Int).toNat) ?_); obtain ⟨x, hx⟩ := get_ex (ss := ts) (k := k) (lt_of_dec (by assumption)); refine ⟨_, get_map' hx, ?_⟩)
        | fail))
    | ((with_reducible refine isCut ?_) <;> (first
        | refine ⟨⟨none⟩, ?_⟩))
    | ((first | with_reducible refine isEx ?_ | with_reducible refine isAnd ?_ | with_reducible refine isOr ?_) <;> (first
        | refine ⟨_, get_map' hx, ?_⟩
        | ((with_reducible refine isGet (xs := ts.map tabD) (i := ((k : Nat) : Int).toNat) ?_); obtain ⟨x, hx⟩ := get_ex (ss := ts) (k := k) (lt_of_dec (by assumption)); refine ⟨_, get_map' hx, ?_⟩)
        | ((with_reducible refine isSmall ?_) <;> (refine ⟨?_, ?_⟩; kernel_rfl))
        | refine ⟨rfl, ?_⟩
        | refine ⟨Int.natCast_nonneg _, ?_⟩))
    | with_reducible refine Both.mk ?_ ?_
    | rintro _ rfl
    | exact rfl
    | (split <;> (rename_i h; first | (simp only [beq_self_eq_true, eq_self, decide_true, Bool.not_true, Bool.false_eq_true] at h; done) | (try rw [h])))))
  all_goals (conv => whnf)
  all_goals first
    | (rw [hu, find_here hx h]; exact ⟨rfl, rfl⟩)
    | exact ⟨⟨k + 1, _, step_up (get_lt hx) hl, get_lt hx, hu.trans (find_next hx h), rfl⟩, mu_up (get_lt hx) hl⟩
    | (have e : k = ts.length := by have := of_decide_eq_false h; rw [List.length_map] at this; omega
       rw [hu, e, List.drop_length]; exact ⟨rfl, rfl⟩)
    | trace_state
theorem sameTable (t : Tab) (nm : List UInt8) : Ent Tryz.prog 104 [.d (tabD t), .ptr 0 0] [.var [.d (.s nm)]] (.d (.b (decide (t.sch.name = nm)))) [.var [.d (.s nm)]] := by
  refine ent_of tok mixed (f := 104) Tryz.func104 (by kernel_rfl) (keep := false) ?_
  repeat' ((conv => whnf) <;> (first
    | ((with_reducible refine isCall ?_) <;> (first
        | fail))
    | ((with_reducible refine isLoop ?_) <;> (first
        | fail))
    | ((with_reducible refine isCut ?_) <;> (first
        | refine ⟨⟨none⟩, ?_⟩))
    | ((first | with_reducible refine isEx ?_ | with_reducible refine isAnd ?_ | with_reducible refine isOr ?_) <;> (first
        | ((with_reducible refine isSmall ?_) <;> (refine ⟨?_, ?_⟩; kernel_rfl))
        | refine ⟨rfl, ?_⟩
        | refine ⟨Int.natCast_nonneg _, ?_⟩))
    | with_reducible refine Both.mk ?_ ?_
    | rintro _ rfl
    | exact rfl
    | (split <;> (rename_i h; first | (simp only [beq_self_eq_true, eq_self, decide_true, Bool.not_true, Bool.false_eq_true] at h; done) | (try rw [h])))))
set_option maxHeartbeats 2000000 in
theorem indexTable (ts : List Tab) (hl : ts.length ≤ maxLen) (nm : List UInt8) : Ent Tryz.prog 103 [.d (.sl false (ts.map tabD)), .fn 104 [.ptr 0 0]] [.var [.d (.s nm)]] (.d (.i .i64 (findM nm ts 0))) [.var [.d (.s nm)]] := by
  obtain ⟨o, ho⟩ : ∃ o, o = findM nm ts 0 := ⟨_, rfl⟩
  rw [← ho]
  refine ent_of tok mixed (f := 103) Tryz.func103 (by kernel_rfl) (keep := false) ?_
  repeat' ((conv => whnf) <;> (first
    | ((with_reducible refine isCall ?_) <;> (first
        | (refine ⟨_, c1, ?_⟩; rintro _ _ ⟨rfl, rfl⟩)
        | ((with_reducible refine isGet (xs := ts.map tabD) (i := ((k : Nat) : Int).toNat) ?_); obtain ⟨x, hx⟩ := get_ex (ss := ts) (k := k) (lt_of_dec (by assumption)); have c1 := sameTable x nm; refine ⟨_, get_map' hx, ?_⟩)
        | fail))
    | ((with_reducible refine isLoop ?_) <;> (first
        | (refine ⟨[8, 7, 0, 1], [0], fun st => ∃ (k : Nat) (n : Int), n = k ∧ k ≤ ts.length ∧ o = findM nm (ts.drop k) k ∧ st = ⟨[(8, .d (.i .i64 n)), (7, .d (.i .i64 ((ts.map tabD).length : Int))), (0, .d (.sl false (ts.map tabD))), (1, .fn 104 [.ptr 0 0])], [(0, .var [.d (.s nm)])]⟩, fun st => match look 8 st.env with | some (.d (.i _ n)) => ts.length - n.toNat | _ => 0, rfl, ⟨0, _, rfl, Nat.zero_le _, ho, rfl⟩, ?_⟩; rintro st ⟨k, n, rfl, hk, hu, rfl⟩)
        | ((with_reducible refine isGet (xs := ts.map tabD) (i := ((k : Nat) : Int).toNat) ?_); obtain ⟨x, hx⟩ := get_ex (ss := ts) (k := k) (lt_of_dec (by assumption)); have c1 := sameTable x nm; refine ⟨_, get_map' hx, ?_⟩)
        | fail))
    | ((with_reducible refine isCut ?_) <;> (first
        | refine ⟨⟨none⟩, ?_⟩))
    | ((first | with_reducible refine isEx ?_ | with_reducible refine isAnd ?_ | with_reducible refine isOr ?_) <;> (first
        | ((with_reducible refine isGet (xs := ts.map tabD) (i := ((k : Nat) : Int).toNat) ?_); obtain ⟨x, hx⟩ := get_ex (ss := ts) (k := k) (lt_of_dec (by assumption)); have c1 := sameTable x nm; refine ⟨_, get_map' hx, ?_⟩)
        | ((with_reducible refine isSmall ?_) <;> (refine ⟨?_, ?_⟩; kernel_rfl))
        | refine ⟨rfl, ?_⟩
        | refine ⟨Int.natCast_nonneg _, ?_⟩))
    | with_reducible refine Both.mk ?_ ?_
    | rintro _ rfl
    | exact rfl
    | (split <;> (rename_i h; first | (simp only [beq_self_eq_true, eq_self, decide_true, Bool.not_true, Bool.false_eq_true] at h; done) | (try rw [h])))))
  all_goals (conv => whnf)
  all_goals first
    | (rw [hu, find_here hx h]; exact ⟨rfl, rfl⟩)
    | exact ⟨⟨k + 1, _, step_up (get_lt hx) hl, get_lt hx, hu.trans (find_next hx h), rfl⟩, mu_up (get_lt hx) hl⟩
    | (have e : k = ts.length := by have := of_decide_eq_false h; rw [List.length_map] at this; omega
       rw [hu, e, List.drop_length]; exact ⟨rfl, rfl⟩)
    | trace_state
theorem implFind (ts : List Tab) (hl : ts.length ≤ maxLen) (nm : List UInt8) : Ent Tryz.prog 49 [.ptr 0 0, .d (.s nm)] [.var [.d (.sl false (ts.map tabD))]] (.d (.i .i64 (findM nm ts 0))) [.var [.d (.sl false (ts.map tabD))]] := by
  have c1 := indexTable ts hl nm
  generalize findM nm ts 0 = n at *
  refine ent_of tok mixed (f := 49) Tryz.func49 (by kernel_rfl) (keep := false) ?_
  repeat' ((conv => whnf) <;> (first
    | ((with_reducible refine isCall ?_) <;> (first
        | (refine ⟨_, c1, ?_⟩; rintro _ _ ⟨rfl, rfl⟩)
        | fail))
    | ((with_reducible refine isLoop ?_) <;> (first
        | fail))
    | ((with_reducible refine isCut ?_) <;> (first
        | refine ⟨⟨none⟩, ?_⟩))
    | ((first | with_reducible refine isEx ?_ | with_reducible refine isAnd ?_ | with_reducible refine isOr ?_) <;> (first
        | ((with_reducible refine isSmall ?_) <;> (refine ⟨?_, ?_⟩; kernel_rfl))
        | refine ⟨rfl, ?_⟩
        | refine ⟨Int.natCast_nonneg _, ?_⟩))
    | with_reducible refine Both.mk ?_ ?_
    | rintro _ rfl
    | exact rfl
    | (split <;> (rename_i h; first | (simp only [beq_self_eq_true, eq_self, decide_true, Bool.not_true, Bool.false_eq_true] at h; done) | (try rw [h])))))
def noTab : Tab := ⟨noSch, []⟩
def tabAt (ts : List Tab) (n : Int) : Tab := match ts[n.toNat]? with | some t => t | none => noTab
noncomputable def dbTabM (ts : List Tab) (nm : List UInt8) : Tab := sel (decide (nm.length ≤ 20000)) (sel (dec (dbP ts)) (sel (decide (findM nm ts 0 < 0)) noTab (tabAt ts (findM nm ts 0))) noTab) noTab
structure Tab.few (t : Tab) : Prop where
  sch : t.sch.few
  rows : t.rows.length ≤ 1000
  row : ∀ r, r ∈ t.rows → r.length ≤ 1000
theorem tableP.few {t : Tab} (h : tableP t) : t.few := ⟨h.sch.few, by have := h.most; omega, fun r hr => by
  obtain ⟨k, hk⟩ := List.getElem?_of_mem hr
  have := (h.rows k r hk).bef.fit.1
  have := h.sch.hi
  omega⟩
theorem noTab_few : noTab.few := ⟨⟨Nat.zero_le _, Nat.zero_le _, Nat.zero_le _, fun i hi => by cases hi⟩, Nat.zero_le _, fun r hr => by cases hr⟩
theorem tabAt_few {ts : List Tab} (h : dbP ts) (n : Int) : (tabAt ts n).few := by
  unfold tabAt
  split
  · rename_i t ht; exact (h.tabs _ t ht).tab.few
  · exact noTab_few
theorem dbTab_few (ts : List Tab) (nm : List UInt8) : (dbTabM ts nm).few := by
  unfold dbTabM
  cases decide (nm.length ≤ 20000) with
  | false => exact noTab_few
  | true => cases h : dec (dbP ts) with
    | false => exact noTab_few
    | true => cases decide (findM nm ts 0 < 0) with
      | true => exact noTab_few
      | false => exact tabAt_few (of_dec h) _
theorem tabAt_eq {ts : List Tab} {n : Int} {t : Tab} (h : ts[n.toNat]? = some t) : tabAt ts n = t := by rw [tabAt, h]
set_option maxHeartbeats 4000000 in
theorem specDbTable (ts : List Tab) (hl : ts.length ≤ 2000000) (hf : ∀ t, t ∈ ts → t.fits) (nm : List UInt8) : Ent Tryz.prog 10 [.d (dbArg ts), .d (.s nm)] [] (.d (tabD (dbTabM ts nm))) [] := by
  obtain ⟨o, ho⟩ : ∃ o, o = dbTabM ts nm := ⟨_, rfl⟩
  rw [← ho]
  have c1 := specDbRight ts hl hf
  have c2 := specFind ts (le_max2 hl) nm
  unfold dbTabM at ho
  have hr := find_range (nm := nm) ts 0
  have hP : dec (dbP ts) = true → dbP ts := of_dec
  generalize findM nm ts 0 = n at *
  generalize dec (dbP ts) = ok at *
  by_cases hn : nm.length ≤ 20000
  · rw [decide_eq_true hn] at ho
    have hn2 : decide ((nm.length : Int) > 20000) = false := decide_eq_false (by omega)
    cases ok with
    | false =>
      have e : o = noTab := ho
      subst e
      refine ent_of tok mixed (f := 10) Tryz.func10 (by kernel_rfl) (keep := false) ?_
      repeat' ((conv => whnf) <;> (first
        | ((with_reducible refine isCall ?_) <;> (first
            | (refine ⟨_, c1, ?_⟩; rintro _ _ ⟨rfl, rfl⟩)
            | (refine ⟨_, c2, ?_⟩; rintro _ _ ⟨rfl, rfl⟩)
            | fail))
        | ((with_reducible refine isLoop ?_) <;> (first
            | fail))
        | ((with_reducible refine isCut ?_) <;> (first
            | refine ⟨⟨none⟩, ?_⟩))
        | ((first | with_reducible refine isEx ?_ | with_reducible refine isAnd ?_ | with_reducible refine isOr ?_) <;> (first
            | ((with_reducible refine isSmall ?_) <;> (refine ⟨?_, ?_⟩; kernel_rfl))
            | refine ⟨rfl, ?_⟩
            | refine ⟨Int.natCast_nonneg _, ?_⟩))
        | with_reducible refine Both.mk ?_ ?_
        | (exfalso; rw [hn2] at *; contradiction)
        | rintro _ rfl
        | exact rfl
        | (split <;> (rename_i h; first | (simp only [beq_self_eq_true, eq_self, decide_true, Bool.not_true, Bool.false_eq_true] at h; done) | (try rw [h])))))
    | true =>
      have ho : o = sel (decide (n < 0)) noTab (tabAt ts n) := ho
      by_cases hn0 : n < 0
      · rw [decide_eq_true hn0] at ho
        have e : o = noTab := ho
        subst e
        refine ent_of tok mixed (f := 10) Tryz.func10 (by kernel_rfl) (keep := false) ?_
        repeat' ((conv => whnf) <;> (first
          | ((with_reducible refine isCall ?_) <;> (first
              | (refine ⟨_, c1, ?_⟩; rintro _ _ ⟨rfl, rfl⟩)
              | (refine ⟨_, c2, ?_⟩; rintro _ _ ⟨rfl, rfl⟩)
              | fail))
          | ((with_reducible refine isLoop ?_) <;> (first
              | fail))
          | ((with_reducible refine isCut ?_) <;> (first
              | refine ⟨⟨none⟩, ?_⟩))
          | ((first | with_reducible refine isEx ?_ | with_reducible refine isAnd ?_ | with_reducible refine isOr ?_) <;> (first
              | ((with_reducible refine isSmall ?_) <;> (refine ⟨?_, ?_⟩; kernel_rfl))
              | refine ⟨rfl, ?_⟩
              | refine ⟨Int.natCast_nonneg _, ?_⟩))
          | with_reducible refine Both.mk ?_ ?_
          | (exfalso; rw [hn2] at *; contradiction)
          | (exfalso; exact of_decide_eq_false (by assumption : decide (n < 0) = false) hn0)
          | rintro _ rfl
          | exact rfl
          | (split <;> (rename_i h; first | (simp only [beq_self_eq_true, eq_self, decide_true, Bool.not_true, Bool.false_eq_true] at h; done) | (try rw [h])))))
      · rw [decide_eq_false hn0] at ho
        obtain ⟨j, hj, hjl⟩ := hr (by omega)
        rw [Nat.zero_add] at hj
        subst hj
        obtain ⟨t, ht⟩ := get_ex (ss := ts) (k := j) hjl
        have ho : o = t := by rw [ho]; exact tabAt_eq (by rw [Int.toNat_natCast]; exact ht)
        subst ho
        have hfew := ((hP rfl).tabs j o ht).tab.few
        have c3 := specCopy o hfew.sch hfew.rows hfew.row
        refine ent_of tok mixed (f := 10) Tryz.func10 (by kernel_rfl) (keep := false) ?_
        repeat' ((conv => whnf) <;> (first
          | ((with_reducible refine isCall ?_) <;> (first
              | (refine ⟨_, c1, ?_⟩; rintro _ _ ⟨rfl, rfl⟩)
              | (refine ⟨_, c2, ?_⟩; rintro _ _ ⟨rfl, rfl⟩)
              | (refine ⟨_, c3, ?_⟩; rintro _ _ ⟨rfl, rfl⟩)
              | refine ⟨_, get_map' ht, ?_⟩
              | fail))
          | ((with_reducible refine isLoop ?_) <;> (first
              | refine ⟨_, get_map' ht, ?_⟩
              | fail))
          | ((with_reducible refine isCut ?_) <;> (first
              | refine ⟨⟨none⟩, ?_⟩))
          | ((first | with_reducible refine isEx ?_ | with_reducible refine isAnd ?_ | with_reducible refine isOr ?_) <;> (first
              | refine ⟨_, get_map' ht, ?_⟩
              | ((with_reducible refine isSmall ?_) <;> (refine ⟨?_, ?_⟩; kernel_rfl))
              | refine ⟨rfl, ?_⟩
              | refine ⟨Int.natCast_nonneg _, ?_⟩))
          | with_reducible refine Both.mk ?_ ?_
          | (exfalso; rw [hn2] at *; contradiction)
          | (exfalso; exact hn0 (of_decide_eq_true (by assumption : decide ((j : Int) < 0) = true)))
          | rintro _ rfl
          | exact rfl
          | (split <;> (rename_i h; first | (simp only [beq_self_eq_true, eq_self, decide_true, Bool.not_true, Bool.false_eq_true] at h; done) | (try rw [h])))))
  · rw [decide_eq_false hn] at ho
    have hn2 : decide ((nm.length : Int) > 20000) = true := decide_eq_true (by omega)
    have e : o = noTab := ho
    subst e
    refine ent_of tok mixed (f := 10) Tryz.func10 (by kernel_rfl) (keep := false) ?_
    repeat' ((conv => whnf) <;> (first
      | ((with_reducible refine isCall ?_) <;> (first
          | fail))
      | ((with_reducible refine isLoop ?_) <;> (first
          | fail))
      | ((with_reducible refine isCut ?_) <;> (first
          | refine ⟨⟨none⟩, ?_⟩))
      | ((first | with_reducible refine isEx ?_ | with_reducible refine isAnd ?_ | with_reducible refine isOr ?_) <;> (first
          | ((with_reducible refine isSmall ?_) <;> (refine ⟨?_, ?_⟩; kernel_rfl))
          | refine ⟨rfl, ?_⟩
          | refine ⟨Int.natCast_nonneg _, ?_⟩))
      | with_reducible refine Both.mk ?_ ?_
      | (exfalso; rw [hn2] at *; contradiction)
      | rintro _ rfl
      | exact rfl
      | (split <;> (rename_i h; first | (simp only [beq_self_eq_true, eq_self, decide_true, Bool.not_true, Bool.false_eq_true] at h; done) | (try rw [h])))))
  all_goals trace_state
end Go.Pm.Tryz
/-
A database's table: the program's function.
-/
namespace Go.Pm.Tryz
open Go Go.Proofs
set_option linter.unusedVariables false
set_option linter.unusedSimpArgs false
set_option maxRecDepth 100000
set_option maxHeartbeats 4000000 in
theorem ownRowsK (rs : List (List Val)) (hl : rs.length ≤ 1000) (hr : ∀ r, r ∈ rs → r.length ≤ 1000) : Ent Tryz.prog 106 [.d (.sl false (rs.map rowD))] [] (.own 0) [.arr 1 true (rs.map rowO)] := by
  refine ent_deep ?_
  have hm : rs.length ≤ maxLen := Nat.le_trans hl (Nat.le_of_ble_eq_true rfl)
  refine ent_of (cx := ⟨tab, [], []⟩) tok mixed (f := 106) Tryz.func106 (by kernel_rfl) (keep := true) ?_
  repeat' ((conv => whnf) <;> (first
    | ((with_reducible refine isCall ?_) <;> (first
        | (refine ⟨_, c1, ?_⟩; rintro _ _ ⟨rfl, rfl⟩)
        | ((with_reducible refine isGet (xs := rs.map rowD) (i := ((k : Nat) : Int).toNat) ?_); obtain ⟨x, hx⟩ := get_ex (ss := rs) (k := k) (lt_of_dec (by assumption)); have c1 := cloneVals x (hr x (get_mem hx)); refine ⟨_, get_map' hx, ?_⟩)
        | (refine ⟨⟨by decide, rfl, rfl, room_add (by rw [hxs, List.length_map, List.length_take]; omega) (by decide)⟩, ?_⟩)
        | fail))
    | ((with_reducible refine isLoop ?_) <;> (first
        | (refine ⟨[3, 7, 8, 9], [10006], fun st => ∃ (k : Nat) (n : Int) (dp : Bool) (xs : List D), n = k ∧ k ≤ rs.length ∧ xs = (rs.take k).map rowO ∧ st = ⟨[(3, .own 10006), (7, .d (.sl false (rs.map rowD))), (8, .d (.i .i64 ((rs.map rowD).length : Int))), (9, .d (.i .i64 n))], [(10006, .arr 1 dp xs)]⟩, fun st => match look 9 st.env with | some (.d (.i _ n)) => rs.length - n.toNat | _ => 0, rfl, ⟨0, _, _, _, rfl, Nat.zero_le _, rfl, rfl⟩, ?_⟩; rintro st ⟨k, n, dp, xs, rfl, hk, hxs, rfl⟩; cases dp)
        | ((with_reducible refine isGet (xs := rs.map rowD) (i := ((k : Nat) : Int).toNat) ?_); obtain ⟨x, hx⟩ := get_ex (ss := rs) (k := k) (lt_of_dec (by assumption)); have c1 := cloneVals x (hr x (get_mem hx)); refine ⟨_, get_map' hx, ?_⟩)
        | (refine ⟨⟨by decide, rfl, rfl, room_add (by rw [hxs, List.length_map, List.length_take]; omega) (by decide)⟩, ?_⟩)
        | fail))
    | ((with_reducible refine isCut ?_) <;> (first
        | refine ⟨⟨none⟩, ?_⟩))
    | ((first | with_reducible refine isEx ?_ | with_reducible refine isAnd ?_ | with_reducible refine isOr ?_) <;> (first
        | ((with_reducible refine isGet (xs := rs.map rowD) (i := ((k : Nat) : Int).toNat) ?_); obtain ⟨x, hx⟩ := get_ex (ss := rs) (k := k) (lt_of_dec (by assumption)); have c1 := cloneVals x (hr x (get_mem hx)); refine ⟨_, get_map' hx, ?_⟩)
        | (refine ⟨⟨by decide, rfl, rfl, room_add (by rw [hxs, List.length_map, List.length_take]; omega) (by decide)⟩, ?_⟩)
        | ((with_reducible refine isSmall ?_) <;> (refine ⟨?_, ?_⟩; kernel_rfl))
        | refine ⟨rfl, ?_⟩
        | refine ⟨Int.natCast_nonneg _, ?_⟩))
    | with_reducible refine Both.mk ?_ ?_
    | rintro _ rfl
    | exact rfl
    | (split <;> (rename_i h; first | (simp only [beq_self_eq_true, eq_self, decide_true, Bool.not_true, Bool.false_eq_true] at h; done) | (try rw [h])))))
  all_goals (conv => whnf)
  all_goals first
    | exact ⟨⟨k + 1, _, _, _, step_up (get_lt hx) hm, get_lt hx, (by rw [hxs, take_up hx, List.map_append]; rfl), rfl⟩, mu_up (get_lt hx) hm⟩
    | (have e : k = rs.length := by have := of_decide_eq_false h; rw [List.length_map] at this; omega
       refine ⟨true, ?_⟩
       rw [hxs, e, List.take_length]; rfl)
    | (have e : k = rs.length := by have := of_decide_eq_false h; rw [List.length_map] at this; omega
       refine ⟨false, ?_⟩
       rw [hxs, e, List.take_length]; rfl)
    | trace_state
def tabK (t : Tab) : AV := .agg [.d (.s t.sch.name), .own 0, .own 1, .own 2, .own 3]
def tabObs (t : Tab) : List Ob := [.arr 3 false (t.sch.cols.map colD), .arr 1 false (t.sch.keys.map i64D), .arr 2 true (t.sch.idxs.map idxO), .arr 1 true (t.rows.map rowO)]
set_option maxHeartbeats 4000000 in
theorem ownTableK (t : Tab) (h : t.few) : Ent Tryz.prog 50 [.d (tabD t)] [] (tabK t) (tabObs t) := by
  have c1 := ownSchemaK t.sch h.sch
  have c2 := ownRowsK t.rows h.rows h.row
  refine ent_of (cx := ⟨tab, [], []⟩) tok mixed (f := 50) Tryz.func50 (by kernel_rfl) (keep := true) ?_
  repeat' ((conv => whnf) <;> (first
    | ((with_reducible refine isCall ?_) <;> (first
        | (refine ⟨_, c1, ?_⟩; rintro _ _ ⟨rfl, rfl⟩)
        | (refine ⟨_, c2, ?_⟩; rintro _ _ ⟨rfl, rfl⟩)
        | fail))
    | ((with_reducible refine isLoop ?_) <;> (first
        | fail))
    | ((with_reducible refine isCut ?_) <;> (first
        | refine ⟨⟨none⟩, ?_⟩))
    | ((first | with_reducible refine isEx ?_ | with_reducible refine isAnd ?_ | with_reducible refine isOr ?_) <;> (first
        | ((with_reducible refine isSmall ?_) <;> (refine ⟨?_, ?_⟩; kernel_rfl))
        | refine ⟨rfl, ?_⟩
        | refine ⟨Int.natCast_nonneg _, ?_⟩))
    | with_reducible refine Both.mk ?_ ?_
    | rintro _ rfl
    | exact rfl
    | (split <;> (rename_i h; first | (simp only [beq_self_eq_true, eq_self, decide_true, Bool.not_true, Bool.false_eq_true] at h; done) | (try rw [h])))))
  all_goals trace_state
set_option maxHeartbeats 4000000 in
theorem implDbTable (ts : List Tab) (hl : ts.length ≤ 2000000) (hf : ∀ t, t ∈ ts → t.fits) (nm : List UInt8) : Ent Tryz.prog 12 [.d (dbArg ts), .d (.s nm)] [] (tabK (dbTabM ts nm)) (tabObs (dbTabM ts nm)) := by
  obtain ⟨o, ho⟩ : ∃ o, o = dbTabM ts nm := ⟨_, rfl⟩
  rw [← ho]
  have c0 := isLong [nm] (Nat.le_of_ble_eq_true rfl)
  rw [longs1] at c0
  have c1 := implDbRight ts hl hf
  have c2 := implFind ts (le_max2 hl) nm
  unfold dbTabM at ho
  have hr := find_range (nm := nm) ts 0
  have hP : dec (dbP ts) = true → dbP ts := of_dec
  generalize findM nm ts 0 = n at *
  generalize dec (dbP ts) = ok at *
  by_cases hn : nm.length ≤ 20000
  · rw [decide_eq_true hn] at ho c0
    cases ok with
    | false =>
      have e : o = noTab := ho
      subst e
      refine ent_ofN (cx := ⟨tab, [], []⟩) tok mixed (f := 12) Tryz.func12 (by kernel_rfl) (keep := true) (nm := [.cell 20004 3 false 10004 1, .cell 30004 1 false 10004 2, .cell 40004 2 true 10004 3, .cell 50004 1 true 10004 4]) ?_
      repeat' ((conv => whnf) <;> (first
        | ((with_reducible refine isCall ?_) <;> (first
            | (refine ⟨_, c0, ?_⟩; rintro _ _ ⟨rfl, rfl⟩)
            | (refine ⟨_, c1, ?_⟩; rintro _ _ ⟨rfl, rfl⟩)
            | (refine ⟨_, c2, ?_⟩; rintro _ _ ⟨rfl, rfl⟩)
            | fail))
        | ((with_reducible refine isLoop ?_) <;> (first
            | fail))
        | ((with_reducible refine isCut ?_) <;> (first
            | refine ⟨⟨none⟩, ?_⟩))
        | ((first | with_reducible refine isEx ?_ | with_reducible refine isAnd ?_ | with_reducible refine isOr ?_) <;> (first
            | ((with_reducible refine isSmall ?_) <;> (refine ⟨?_, ?_⟩; kernel_rfl))
            | refine ⟨rfl, ?_⟩
            | refine ⟨Int.natCast_nonneg _, ?_⟩))
        | with_reducible refine Both.mk ?_ ?_
        | rintro _ rfl
        | exact rfl
        | (split <;> (rename_i h; first | (simp only [beq_self_eq_true, eq_self, decide_true, Bool.not_true, Bool.false_eq_true] at h; done) | (try rw [h])))))
    | true =>
      have ho : o = sel (decide (n < 0)) noTab (tabAt ts n) := ho
      by_cases hn0 : n < 0
      · rw [decide_eq_true hn0] at ho
        have e : o = noTab := ho
        subst e
        refine ent_ofN (cx := ⟨tab, [], []⟩) tok mixed (f := 12) Tryz.func12 (by kernel_rfl) (keep := true) (nm := [.cell 20004 3 false 10004 1, .cell 30004 1 false 10004 2, .cell 40004 2 true 10004 3, .cell 50004 1 true 10004 4]) ?_
        repeat' ((conv => whnf) <;> (first
          | ((with_reducible refine isCall ?_) <;> (first
              | (refine ⟨_, c0, ?_⟩; rintro _ _ ⟨rfl, rfl⟩)
              | (refine ⟨_, c1, ?_⟩; rintro _ _ ⟨rfl, rfl⟩)
              | (refine ⟨_, c2, ?_⟩; rintro _ _ ⟨rfl, rfl⟩)
              | fail))
          | ((with_reducible refine isLoop ?_) <;> (first
              | fail))
          | ((with_reducible refine isCut ?_) <;> (first
              | refine ⟨⟨none⟩, ?_⟩))
          | ((first | with_reducible refine isEx ?_ | with_reducible refine isAnd ?_ | with_reducible refine isOr ?_) <;> (first
              | ((with_reducible refine isSmall ?_) <;> (refine ⟨?_, ?_⟩; kernel_rfl))
              | refine ⟨rfl, ?_⟩
              | refine ⟨Int.natCast_nonneg _, ?_⟩))
          | with_reducible refine Both.mk ?_ ?_
          | (exfalso; exact absurd hn0 (Int.not_lt.2 (of_decide_eq_true (by assumption : decide (n ≥ 0) = true))))
          | rintro _ rfl
          | exact rfl
          | (split <;> (rename_i h; first | (simp only [beq_self_eq_true, eq_self, decide_true, Bool.not_true, Bool.false_eq_true] at h; done) | (try rw [h])))))
      · rw [decide_eq_false hn0] at ho
        obtain ⟨j, hj, hjl⟩ := hr (by omega)
        rw [Nat.zero_add] at hj
        subst hj
        obtain ⟨t, ht⟩ := get_ex (ss := ts) (k := j) hjl
        have ho : o = t := by rw [ho]; exact tabAt_eq (by rw [Int.toNat_natCast]; exact ht)
        subst ho
        have hfew := ((hP rfl).tabs j o ht).tab.few
        have c3 := ownTableK o hfew
        refine ent_ofN (cx := ⟨tab, [], []⟩) tok mixed (f := 12) Tryz.func12 (by kernel_rfl) (keep := true) (nm := [.cell 20004 3 false 10004 1, .cell 30004 1 false 10004 2, .cell 40004 2 true 10004 3, .cell 50004 1 true 10004 4]) ?_
        repeat' ((conv => whnf) <;> (first
          | ((with_reducible refine isCall ?_) <;> (first
              | (refine ⟨_, c0, ?_⟩; rintro _ _ ⟨rfl, rfl⟩)
              | (refine ⟨_, c1, ?_⟩; rintro _ _ ⟨rfl, rfl⟩)
              | (refine ⟨_, c2, ?_⟩; rintro _ _ ⟨rfl, rfl⟩)
              | (refine ⟨_, c3, ?_⟩; rintro _ _ ⟨rfl, rfl⟩)
              | refine ⟨_, get_map' ht, ?_⟩
              | fail))
          | ((with_reducible refine isLoop ?_) <;> (first
              | refine ⟨_, get_map' ht, ?_⟩
              | fail))
          | ((with_reducible refine isCut ?_) <;> (first
              | refine ⟨⟨none⟩, ?_⟩))
          | ((first | with_reducible refine isEx ?_ | with_reducible refine isAnd ?_ | with_reducible refine isOr ?_) <;> (first
              | refine ⟨_, get_map' ht, ?_⟩
              | ((with_reducible refine isSmall ?_) <;> (refine ⟨?_, ?_⟩; kernel_rfl))
              | refine ⟨rfl, ?_⟩
              | refine ⟨Int.natCast_nonneg _, ?_⟩))
          | with_reducible refine Both.mk ?_ ?_
          | (exfalso; exact of_decide_eq_false (by assumption : decide ((j : Int) ≥ 0) = false) (Int.natCast_nonneg j))
          | rintro _ rfl
          | exact rfl
          | (split <;> (rename_i h; first | (simp only [beq_self_eq_true, eq_self, decide_true, Bool.not_true, Bool.false_eq_true] at h; done) | (try rw [h])))))
  · rw [decide_eq_false hn] at ho c0
    have e : o = noTab := ho
    subst e
    refine ent_ofN (cx := ⟨tab, [], []⟩) tok mixed (f := 12) Tryz.func12 (by kernel_rfl) (keep := true) (nm := [.cell 20004 3 false 10004 1, .cell 30004 1 false 10004 2, .cell 40004 2 true 10004 3, .cell 50004 1 true 10004 4]) ?_
    repeat' ((conv => whnf) <;> (first
      | ((with_reducible refine isCall ?_) <;> (first
          | (refine ⟨_, c0, ?_⟩; rintro _ _ ⟨rfl, rfl⟩)
          | fail))
      | ((with_reducible refine isLoop ?_) <;> (first
          | fail))
      | ((with_reducible refine isCut ?_) <;> (first
          | refine ⟨⟨none⟩, ?_⟩))
      | ((first | with_reducible refine isEx ?_ | with_reducible refine isAnd ?_ | with_reducible refine isOr ?_) <;> (first
          | ((with_reducible refine isSmall ?_) <;> (refine ⟨?_, ?_⟩; kernel_rfl))
          | refine ⟨rfl, ?_⟩
          | refine ⟨Int.natCast_nonneg _, ?_⟩))
      | with_reducible refine Both.mk ?_ ?_
      | rintro _ rfl
      | exact rfl
      | (split <;> (rename_i h; first | (simp only [beq_self_eq_true, eq_self, decide_true, Bool.not_true, Bool.false_eq_true] at h; done) | (try rw [h])))))
  all_goals trace_state
end Go.Pm.Tryz
