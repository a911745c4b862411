import Derived.Test.YtjjnmkhcdbmhoaaCk
namespace Go.Pm.Try
open Go Go.Proofs
set_option linter.unusedVariables false
set_option linter.unusedSimpArgs false
set_option maxRecDepth 100000
structure schemaP (s : Schema) : Prop where
  name : nameOk s.name = true
  lo : 1 ≤ s.cols.length
  hi : s.cols.length ≤ 10
  idx : s.idxs.length ≤ 4
  keys : colsP s.keys s.cols.length
  cols : ∀ (k : Nat) (c : Col), s.cols[k]? = some c → nameOk c.name = true ∧ (1 ≤ c.kind ∧ c.kind ≤ 3) ∧ ∀ d, d ∈ s.cols.take k → d.name ≠ c.name
  uniq : ∀ x, x ∈ s.keys → ∀ c, s.cols[x.toNat]? = some c → c.uniq = false
  idxs : ∀ i, i ∈ s.idxs → colsP i.cols s.cols.length
structure Schema.fits (s : Schema) : Prop where
  name : s.name.length ≤ maxLen
  cols : s.cols.length ≤ maxLen
  names : ∀ c, c ∈ s.cols → c.name.length ≤ maxLen
  keys : s.keys.length ≤ maxLen
  idxs : s.idxs.length ≤ maxLen
  lists : ∀ i, i ∈ s.idxs → i.cols.length ≤ maxLen
theorem cols_up {cs : List Col} {k : Nat} {P : Nat → Col → Prop} (h : ∀ (j : Nat) (c : Col), j < k → cs[j]? = some c → P j c) {c : Col} (hc : cs[k]? = some c) (h1 : P k c) : ∀ (j : Nat) (d : Col), j < k + 1 → cs[j]? = some d → P j d := by
  intro j d hj hd
  by_cases e : j = k
  · subst e; rw [hc] at hd; cases hd; exact h1
  · exact h j d (by omega) hd
theorem take_all {α : Type} {xs : List α} {k : Nat} {P : α → Prop} (h : ∀ x, x ∈ xs.take k → P x) {x : α} (hx : xs[k]? = some x) (h1 : P x) : ∀ y, y ∈ xs.take (k + 1) → P y := by
  intro y hy
  rw [take_up hx] at hy
  rcases List.mem_append.1 hy with hy | hy
  · exact h y hy
  · rw [List.mem_singleton.1 hy]; exact h1
theorem take_mem {α : Type} {xs : List α} {m k : Nat} {d : α} (h : xs[m]? = some d) (hm : m < k) : d ∈ xs.take k := List.mem_of_getElem? (i := m) (by rw [List.getElem?_take, if_pos hm]; exact h)
def schC (s : Schema) : List AV := [.d (.s s.name), .d (.sl false (s.cols.map colD)), .d (.sl false (s.keys.map i64D)), .d (.sl false (s.idxs.map idxD))]
set_option maxHeartbeats 4000000 in
theorem specSchemaRight (s : Schema) (hs : s.fits) : Ent Try.prog 24 [.d (schemaD s)] [] (.d (.b (dec (schemaP s)))) [] := by
  obtain ⟨o, ho⟩ : ∃ o, o = dec (schemaP s) := ⟨_, rfl⟩
  rw [← ho]
  have c1 := specNameRight s.name hs.name
  have c2 := specColumns s.keys hs.keys s.cols.length
  have hcl : (s.cols.map colD).length = s.cols.length := List.length_map ..
  have hil : (s.idxs.map idxD).length = s.idxs.length := List.length_map ..
  have hkl : (s.keys.map i64D).length = s.keys.length := List.length_map ..
  rw [← hcl] at c2
  refine ent_of tok mixed (f := 24) Try.func24 (by kernel_rfl) (keep := false) ?_
  repeat' ((conv => whnf) <;> (first | ((with_reducible refine isCall ?_) <;> (first | (refine ⟨_, c1, ?_⟩; rintro _ _ ⟨rfl, rfl⟩) | (refine ⟨_, c2, ?_⟩; rintro _ _ ⟨rfl, rfl⟩) | (refine ⟨_, c3, ?_⟩; rintro _ _ ⟨rfl, rfl⟩) | (refine ⟨_, c4, ?_⟩; rintro _ _ ⟨rfl, rfl⟩) | refine ⟨_, get_map' hc, ?_⟩ | refine ⟨_, get_map' hd, ?_⟩ | refine ⟨_, get_map' hy, ?_⟩ | refine ⟨_, get_map' hi, ?_⟩ | refine ⟨hyr.1, ?_⟩ | fail)) | ((with_reducible refine isLoop ?_) <;> (first | (refine ⟨[4, 3, 1], [10001], fun st => ∃ (k : Nat) (i : Int), i = k ∧ k ≤ s.cols.length ∧ (nameOk s.name = true ∧ 1 ≤ s.cols.length ∧ s.cols.length ≤ 10 ∧ s.idxs.length ≤ 4 ∧ colsP s.keys s.cols.length) ∧ (∀ (j : Nat) (c : Col), j < k → s.cols[j]? = some c → nameOk c.name = true ∧ (1 ≤ c.kind ∧ c.kind ≤ 3) ∧ ∀ d, d ∈ s.cols.take j → d.name ≠ c.name) ∧ st = ⟨[(4, .d (.i .i64 i)), (3, .d (.i .i64 ((s.cols.map colD).length : Int))), (1, .ptr 10001 0)], [(10001, .var (schC s))]⟩, fun st => match look 4 st.env with | some (.d (.i _ i)) => s.cols.length - i.toNat | _ => 0, rfl, ⟨0, _, rfl, Nat.zero_le _, ?_, (fun j c hj => absurd hj (Nat.not_lt_zero _)), rfl⟩, ?_⟩; rotate_left; rintro st ⟨k, i, rfl, hk, hP0, hv, rfl⟩) | (refine ⟨[7, 3, 1], [10001], fun st => ∃ (k : Nat) (i : Int), i = k ∧ k ≤ s.keys.length ∧ (∀ x, x ∈ s.keys.take k → ∀ c, s.cols[x.toNat]? = some c → c.uniq = false) ∧ st = ⟨[(7, .d (.i .i64 i)), (3, .d (.i .i64 ((s.cols.map colD).length : Int))), (1, .ptr 10001 0)], [(10001, .var (schC s))]⟩, fun st => match look 7 st.env with | some (.d (.i _ i)) => s.keys.length - i.toNat | _ => 0, rfl, ⟨0, _, rfl, Nat.zero_le _, (fun x hx => by simp at hx), rfl⟩, ?_⟩; rintro st ⟨k2, i, rfl, hk2, hv2, rfl⟩) | (refine ⟨[8, 3, 1], [10001], fun st => ∃ (k : Nat) (i : Int), i = k ∧ k ≤ s.idxs.length ∧ (∀ x, x ∈ s.idxs.take k → colsP x.cols s.cols.length) ∧ st = ⟨[(8, .d (.i .i64 i)), (3, .d (.i .i64 ((s.cols.map colD).length : Int))), (1, .ptr 10001 0)], [(10001, .var (schC s))]⟩, fun st => match look 8 st.env with | some (.d (.i _ i)) => s.idxs.length - i.toNat | _ => 0, rfl, ⟨0, _, rfl, Nat.zero_le _, (fun x hx => by simp at hx), rfl⟩, ?_⟩; rintro st ⟨k3, i, rfl, hk3, hv3, rfl⟩) | (refine ⟨[6, 3, 1, 4, 5], [10001, 10005], fun st => ∃ (m : Nat) (i : Int), i = m ∧ m ≤ k ∧ nameOk c.name = true ∧ (1 ≤ c.kind ∧ c.kind ≤ 3) ∧ (∀ d, d ∈ s.cols.take m → d.name ≠ c.name) ∧ st = ⟨[(6, .d (.i .i64 i)), (3, .d (.i .i64 ((s.cols.map colD).length : Int))), (1, .ptr 10001 0), (4, .d (.i .i64 k)), (5, .ptr 10005 0)], [(10001, .var (schC s)), (10005, .var (AV.d (colD c)).cells)]⟩, fun st => match look 6 st.env with | some (.d (.i _ i)) => k - i.toNat | _ => 0, rfl, ⟨0, _, rfl, Nat.zero_le _, not_ok (by assumption), ⟨Int.not_lt.1 (of_decide_eq_false (by assumption)), Int.not_lt.1 (of_decide_eq_false (by assumption))⟩, (fun x hx => by simp at hx), rfl⟩, ?_⟩; rintro st ⟨m, i, rfl, hmk, hq1, hq2, hw, rfl⟩) | refine ⟨_, get_map' hc, ?_⟩ | refine ⟨_, get_map' hd, ?_⟩ | refine ⟨_, get_map' hy, ?_⟩ | refine ⟨_, get_map' hi, ?_⟩ | refine ⟨hyr.1, ?_⟩ | fail)) | ((with_reducible refine isCut ?_) <;> (first | refine ⟨⟨none⟩, ?_⟩)) | ((first | with_reducible refine isEx ?_ | with_reducible refine isAnd ?_ | with_reducible refine isOr ?_) <;> (first | refine ⟨_, get_map' hc, ?_⟩ | refine ⟨_, get_map' hd, ?_⟩ | refine ⟨_, get_map' hy, ?_⟩ | refine ⟨_, get_map' hi, ?_⟩ | ((with_reducible refine isGet (xs := s.cols.map colD) (i := ((m : Nat) : Int).toNat) ?_); obtain ⟨d, hd⟩ := get_ex (ss := s.cols) (k := m) (by have := get_lt hc; have := lt_of_dec' (by assumption : decide ((m : Int) < (k : Int)) = true); omega); refine ⟨_, get_map' hd, ?_⟩) | ((with_reducible refine isGet (xs := s.keys.map i64D) (i := ((k2 : Nat) : Int).toNat) ?_); obtain ⟨y, hy⟩ := get_ex (ss := s.keys) (k := k2) (lt_of_dec (by assumption)); have hyr := (hP0.2.2.2.2.2 k2 y hy).1; obtain ⟨c, hc⟩ := get_ex (ss := s.cols) (k := y.toNat) (by omega); refine ⟨_, get_map' hy, ?_⟩) | ((with_reducible refine isGet (xs := s.idxs.map idxD) (i := ((k3 : Nat) : Int).toNat) ?_); obtain ⟨i, hi⟩ := get_ex (ss := s.idxs) (k := k3) (lt_of_dec (by assumption)); have c4 := specColumns i.cols (hs.lists i (get_mem hi)) s.cols.length; rw [← hcl] at c4; refine ⟨_, get_map' hi, ?_⟩) | ((with_reducible refine isGet (xs := s.cols.map colD) (i := ((k : Nat) : Int).toNat) ?_); obtain ⟨c, hc⟩ := get_ex (ss := s.cols) (k := k) (lt_of_dec (by assumption)); have c3 := specNameRight c.name (hs.names c (get_mem hc)); refine ⟨_, get_map' hc, ?_⟩) | refine ⟨hyr.1, ?_⟩ | ((with_reducible refine isSmall ?_) <;> (refine ⟨?_, ?_⟩; kernel_rfl)) | refine ⟨rfl, ?_⟩ | refine ⟨Int.natCast_nonneg _, ?_⟩)) | with_reducible refine Both.mk ?_ ?_ | rintro _ rfl | exact rfl | (split <;> (rename_i h; first | (simp only [beq_self_eq_true, eq_self, decide_true, Bool.not_true, Bool.false_eq_true] at h; done) | (try rw [h])))))
  all_goals (conv => whnf)
  all_goals first
    | exact ret_false ho fun hP => by have := not_ok' h; rw [hP.name] at this; cases this
    | exact ret_false ho fun hP => by have := of_decide_eq_true h; have := hP.lo; have := hP.hi; have := hP.idx; omega
    | exact ret_false ho fun hP => by have := of_ndec (not_ok' h); rw [hcl] at this; exact this hP.keys
    | exact ret_false ho fun hP => by have := not_ok' h; rw [(hP.cols k c hc).1] at this; cases this
    | exact ret_false ho fun hP => by have := of_decide_eq_true h; have := (hP.cols k c hc).2.1; omega
    | exact ret_false ho fun hP => (hP.cols k c hc).2.2 d (take_mem hd (lt_of_dec' (by assumption))) (of_decide_eq_true h)
    | exact ret_false ho fun hP => by rw [hP.uniq y (get_mem hy) c hc] at h; cases h
    | exact ret_false ho fun hP => by have := of_ndec (not_ok' h); rw [hcl] at this; exact this (hP.idxs i (get_mem hi))
    | (have hm := lt_of_dec' (by assumption : decide ((m : Int) < (k : Int)) = true)
       exact ⟨⟨m + 1, _, step_up (n := s.cols.length) (by have := get_lt hc; omega) hs.cols, hm, hq1, hq2, take_all hw hd (of_decide_eq_false h), rfl⟩, by have := hs.cols; have := get_lt hc; exact mu_up (n := k) hm (by omega)⟩)
    | (have e : m = k := by have := of_decide_eq_false h; omega
       subst e
       exact ⟨⟨m + 1, _, step_up (get_lt hc) hs.cols, get_lt hc, hP0, cols_up hv hc ⟨hq1, hq2, hw⟩, rfl⟩, mu_up (get_lt hc) hs.cols⟩)
    | exact ⟨⟨k2 + 1, _, step_up (get_lt hy) hs.keys, get_lt hy, take_all hv2 hy (fun c' hc' => by rw [hc] at hc'; cases hc'; exact h), rfl⟩, mu_up (get_lt hy) hs.keys⟩
    | exact ⟨⟨k3 + 1, _, step_up (get_lt hi) hs.idxs, get_lt hi, take_all hv3 hi (by have := of_dec (not_ok h); rw [hcl] at this; exact this), rfl⟩, mu_up (get_lt hi) hs.idxs⟩
    | (have e : k = s.cols.length := by have := of_decide_eq_false (by assumption : decide ((k : Int) < ((s.cols.map colD).length : Int)) = false); omega
       have e2 : k2 = s.keys.length := by have := of_decide_eq_false (by assumption : decide ((k2 : Int) < ((s.keys.map i64D).length : Int)) = false); omega
       have e3 : k3 = s.idxs.length := by have := of_decide_eq_false (by assumption : decide ((k3 : Int) < ((s.idxs.map idxD).length : Int)) = false); omega
       rw [e2, List.take_length] at hv2
       rw [e3, List.take_length] at hv3
       exact ret_true ho ⟨hP0.1, hP0.2.1, hP0.2.2.1, hP0.2.2.2.1, hP0.2.2.2.2, fun j c hj => hv j c (by rw [e]; exact get_lt hj) hj, hv2, hv3⟩)
    | (refine ⟨not_ok (by assumption), ?_, ?_, ?_, ?_⟩
       · have := of_decide_eq_false (by assumption : decide (((s.cols.map colD).length : Int) < 1) = false); omega
       · have := of_decide_eq_false (by assumption : decide (((s.cols.map colD).length : Int) > 10) = false); omega
       · have := of_decide_eq_false (by assumption : decide (((s.idxs.map idxD).length : Int) > 4) = false); omega
       · have := of_dec (not_ok (by assumption : (!dec (colsP s.keys (s.cols.map colD).length)) = false)); rw [hcl] at this; exact this)
    | trace_state
end Go.Pm.Try
