import Derived.Test.YtlihmioijkichaaCl
namespace Go.Pm.Try
open Go Go.Proofs
set_option linter.unusedVariables false
set_option linter.unusedSimpArgs false
set_option maxRecDepth 100000
theorem colSame (c : Col) (nm : List UInt8) : Ent Try.prog 96 [.d (colD c), .ptr 0 0] [.var [.d (.s nm)]] (.d (.b (decide (c.name = nm)))) [.var [.d (.s nm)]] := by
  refine ent_of tok mixed (f := 96) Try.func96 (by kernel_rfl) (keep := false) ?_
  repeat' ((conv => whnf) <;> (first
    | ((with_reducible refine isCall ?_) <;> (first
        | fail))
    | ((with_reducible refine isLoop ?_) <;> (first
        | fail))
    | ((with_reducible refine isCut ?_) <;> (first
        | refine ⟨⟨none⟩, ?_⟩))
    | ((first | with_reducible refine isEx ?_ | with_reducible refine isAnd ?_ | with_reducible refine isOr ?_) <;> (first
        | refine ⟨rfl, ?_⟩
        | refine ⟨Int.natCast_nonneg _, ?_⟩))
    | with_reducible refine Both.mk ?_ ?_
    | rintro _ rfl
    | exact rfl
    | (split <;> (rename_i h; first | (simp only [beq_self_eq_true, eq_self, decide_true, Bool.not_true, Bool.false_eq_true] at h; done) | (try rw [h])))))
theorem any_no {α : Type} {p : α → Prop} {xs : List α} {k : Nat} {x : α} (h : ∀ y, y ∈ xs.take k → ¬ p y) (hx : xs[k]? = some x) (h1 : ¬ p x) : ∀ y, y ∈ xs.take (k + 1) → ¬ p y := take_all h hx h1
set_option maxHeartbeats 1000000 in
theorem indexCols (cs : List Col) (hl : cs.length ≤ maxLen) (nm : List UInt8) : EntQ Try.prog 95 [.d (.sl false (cs.map colD)), .fn 96 [.ptr 0 0]] [.var [.d (.s nm)]]
    (fun R O => ∃ n : Int, R = .d (.i .i64 n) ∧ O = [.var [.d (.s nm)]] ∧ decide (n ≥ 0) = dec (∃ c, c ∈ cs ∧ c.name = nm)) := by
  have c1 := fun c => colSame c nm
  refine ent_of tok mixed (f := 95) Try.func95 (by kernel_rfl) (keep := false) ?_
  repeat' ((conv => whnf) <;> (first
    | ((with_reducible refine isCall ?_) <;> (first
        | (refine ⟨_, c1 _, ?_⟩; rintro _ _ ⟨rfl, rfl⟩)
        | ((with_reducible refine isGet (xs := cs.map colD) (i := ((k : Nat) : Int).toNat) ?_); obtain ⟨c, hc⟩ := get_ex (ss := cs) (k := k) (lt_of_dec (by assumption)); refine ⟨_, get_map' hc, ?_⟩)
        | fail))
    | ((with_reducible refine isLoop ?_) <;> (first
        | (refine ⟨[8, 7, 0, 1], [0], fun s => ∃ (k : Nat) (n : Int), n = k ∧ k ≤ cs.length ∧ (∀ c, c ∈ cs.take k → ¬ c.name = nm) ∧ s = ⟨[(8, .d (.i .i64 n)), (7, .d (.i .i64 ((cs.map colD).length : Int))), (0, .d (.sl false (cs.map colD))), (1, .fn 96 [.ptr 0 0])], [(0, .var [.d (.s nm)])]⟩, fun s => match look 8 s.env with | some (.d (.i _ n)) => cs.length - n.toNat | _ => 0, rfl, ⟨0, _, rfl, Nat.zero_le _, (fun x hx => by simp at hx), rfl⟩, ?_⟩; rintro s ⟨k, n, rfl, hk, hv, rfl⟩)
        | ((with_reducible refine isGet (xs := cs.map colD) (i := ((k : Nat) : Int).toNat) ?_); obtain ⟨c, hc⟩ := get_ex (ss := cs) (k := k) (lt_of_dec (by assumption)); refine ⟨_, get_map' hc, ?_⟩)
        | fail))
    | ((with_reducible refine isCut ?_) <;> (first
        | refine ⟨⟨none⟩, ?_⟩))
    | ((first | with_reducible refine isEx ?_ | with_reducible refine isAnd ?_ | with_reducible refine isOr ?_) <;> (first
        | ((with_reducible refine isGet (xs := cs.map colD) (i := ((k : Nat) : Int).toNat) ?_); obtain ⟨c, hc⟩ := get_ex (ss := cs) (k := k) (lt_of_dec (by assumption)); refine ⟨_, get_map' hc, ?_⟩)
        | refine ⟨rfl, ?_⟩
        | refine ⟨Int.natCast_nonneg _, ?_⟩))
    | with_reducible refine Both.mk ?_ ?_
    | rintro _ rfl
    | exact rfl
    | (split <;> (rename_i h; first | (simp only [beq_self_eq_true, eq_self, decide_true, Bool.not_true, Bool.false_eq_true] at h; done) | (try rw [h])))))
  all_goals (conv => whnf)
  · refine ⟨_, rfl, rfl, ?_⟩
    rw [dec_true ⟨c, get_mem hc, of_decide_eq_true h⟩]
    exact decide_eq_true (Int.natCast_nonneg k)
  · exact ⟨⟨k + 1, _, step_up (get_lt hc) hl, get_lt hc, any_no hv hc (of_decide_eq_false h), rfl⟩, mu_up (get_lt hc) hl⟩
  · refine ⟨_, rfl, rfl, ?_⟩
    have e : k = cs.length := by have := of_decide_eq_false h; rw [List.length_map] at this; omega
    rw [e, List.take_length] at hv
    rw [dec_false fun ⟨c, h1, h2⟩ => hv c h1 h2]; rfl
theorem columnOf (nm0 : List UInt8) (cs : List Col) (hl : cs.length ≤ maxLen) (k : Nat) (ys zs : List D) (nm : List UInt8) : EntQ Try.prog 49 [.d (.agg [.s nm0, .sl false (((cs.map colD).take k).drop 0), .sl false ys, .sl false zs]), .d (.s nm)] []
    (fun R O => ∃ n : Int, R = .d (.i .i64 n) ∧ O = [] ∧ decide (n ≥ 0) = dec (∃ c, c ∈ cs.take k ∧ c.name = nm)) := by
  have e : ((cs.map colD).take k).drop 0 = (cs.take k).map colD := by simp [List.map_take]
  rw [e]
  have c1 := indexCols (cs.take k) (by rw [List.length_take]; omega) nm
  refine ent_of tok mixed (f := 49) Try.func49 (by kernel_rfl) (keep := false) ?_
  repeat' ((conv => whnf) <;> (first
    | ((with_reducible refine isCall ?_) <;> (first
        | (refine ⟨_, c1, ?_⟩; rintro _ _ ⟨n, rfl, rfl, hn⟩)
        | fail))
    | ((with_reducible refine isLoop ?_) <;> (first
        | fail))
    | ((with_reducible refine isCut ?_) <;> (first
        | refine ⟨⟨none⟩, ?_⟩))
    | ((first | with_reducible refine isEx ?_ | with_reducible refine isAnd ?_ | with_reducible refine isOr ?_) <;> (first
        | refine ⟨rfl, ?_⟩
        | refine ⟨Int.natCast_nonneg _, ?_⟩))
    | with_reducible refine Both.mk ?_ ?_
    | rintro _ rfl
    | exact rfl
    | (split <;> (rename_i h; first | (simp only [beq_self_eq_true, eq_self, decide_true, Bool.not_true, Bool.false_eq_true] at h; done) | (try rw [h])))))
  all_goals (conv => whnf)
  all_goals exact ⟨_, rfl, rfl, hn⟩
theorem idxBad (i : Idx) (hi : i.cols.length ≤ maxLen) (s : Schema) (hs : s.cols.length ≤ maxLen) : Ent Try.prog 51 [.d (idxD i), .ptr 0 0] [.var (schC s)] (.d (.b (!dec (colsP i.cols (s.cols.map colD).length)))) [.var (schC s)] := by
  have c1 := implColumns s.name (s.cols.map colD) (s.keys.map i64D) (s.idxs.map idxD) (by rw [List.length_map]; exact hs) i.cols hi
  generalize dec (colsP i.cols (s.cols.map colD).length) = u at *
  refine ent_of tok mixed (f := 51) Try.func51 (by kernel_rfl) (keep := false) ?_
  repeat' ((conv => whnf) <;> (first
    | ((with_reducible refine isCall ?_) <;> (first
        | (refine ⟨_, c1, ?_⟩; rintro _ _ ⟨rfl, rfl⟩)
        | fail))
    | ((with_reducible refine isLoop ?_) <;> (first
        | fail))
    | ((with_reducible refine isCut ?_) <;> (first
        | refine ⟨⟨none⟩, ?_⟩))
    | ((first | with_reducible refine isEx ?_ | with_reducible refine isAnd ?_ | with_reducible refine isOr ?_) <;> (first
        | refine ⟨rfl, ?_⟩
        | refine ⟨Int.natCast_nonneg _, ?_⟩))
    | with_reducible refine Both.mk ?_ ?_
    | rintro _ rfl
    | exact rfl
    | (split <;> (rename_i h; first | (simp only [beq_self_eq_true, eq_self, decide_true, Bool.not_true, Bool.false_eq_true] at h; done) | (try rw [h])))))
set_option maxHeartbeats 1000000 in
theorem indexIdx (s : Schema) (hs : s.fits) : EntQ Try.prog 97 [.d (.sl false (s.idxs.map idxD)), .fn 51 [.ptr 0 0]] [.var (schC s)]
    (fun R O => ∃ n : Int, R = .d (.i .i64 n) ∧ O = [.var (schC s)] ∧ decide (n ≥ 0) = dec (∃ i, i ∈ s.idxs ∧ ¬ colsP i.cols (s.cols.map colD).length)) := by
  have hl := hs.idxs
  refine ent_of tok mixed (f := 97) Try.func97 (by kernel_rfl) (keep := false) ?_
  repeat' ((conv => whnf) <;> (first
    | ((with_reducible refine isCall ?_) <;> (first
        | (refine ⟨_, c1, ?_⟩; rintro _ _ ⟨rfl, rfl⟩)
        | ((with_reducible refine isGet (xs := s.idxs.map idxD) (i := ((k : Nat) : Int).toNat) ?_); obtain ⟨i, hi⟩ := get_ex (ss := s.idxs) (k := k) (lt_of_dec (by assumption)); have c1 := idxBad i (hs.lists i (get_mem hi)) s hs.cols; refine ⟨_, get_map' hi, ?_⟩)
        | fail))
    | ((with_reducible refine isLoop ?_) <;> (first
        | (refine ⟨[8, 7, 0, 1], [0], fun st => ∃ (k : Nat) (n : Int), n = k ∧ k ≤ s.idxs.length ∧ (∀ i, i ∈ s.idxs.take k → ¬ ¬ colsP i.cols (s.cols.map colD).length) ∧ st = ⟨[(8, .d (.i .i64 n)), (7, .d (.i .i64 ((s.idxs.map idxD).length : Int))), (0, .d (.sl false (s.idxs.map idxD))), (1, .fn 51 [.ptr 0 0])], [(0, .var (schC s))]⟩, fun st => match look 8 st.env with | some (.d (.i _ n)) => s.idxs.length - n.toNat | _ => 0, rfl, ⟨0, _, rfl, Nat.zero_le _, (fun x hx => by simp at hx), rfl⟩, ?_⟩; rintro st ⟨k, n, rfl, hk, hv, rfl⟩)
        | ((with_reducible refine isGet (xs := s.idxs.map idxD) (i := ((k : Nat) : Int).toNat) ?_); obtain ⟨i, hi⟩ := get_ex (ss := s.idxs) (k := k) (lt_of_dec (by assumption)); have c1 := idxBad i (hs.lists i (get_mem hi)) s hs.cols; refine ⟨_, get_map' hi, ?_⟩)
        | fail))
    | ((with_reducible refine isCut ?_) <;> (first
        | refine ⟨⟨none⟩, ?_⟩))
    | ((first | with_reducible refine isEx ?_ | with_reducible refine isAnd ?_ | with_reducible refine isOr ?_) <;> (first
        | ((with_reducible refine isGet (xs := s.idxs.map idxD) (i := ((k : Nat) : Int).toNat) ?_); obtain ⟨i, hi⟩ := get_ex (ss := s.idxs) (k := k) (lt_of_dec (by assumption)); have c1 := idxBad i (hs.lists i (get_mem hi)) s hs.cols; refine ⟨_, get_map' hi, ?_⟩)
        | refine ⟨rfl, ?_⟩
        | refine ⟨Int.natCast_nonneg _, ?_⟩))
    | with_reducible refine Both.mk ?_ ?_
    | rintro _ rfl
    | exact rfl
    | (split <;> (rename_i h; first | (simp only [beq_self_eq_true, eq_self, decide_true, Bool.not_true, Bool.false_eq_true] at h; done) | (try rw [h])))))
  all_goals (conv => whnf)
  · refine ⟨_, rfl, rfl, ?_⟩
    rw [dec_true ⟨i, get_mem hi, of_ndec (not_ok' h)⟩]
    exact decide_eq_true (Int.natCast_nonneg k)
  · exact ⟨⟨k + 1, _, step_up (get_lt hi) hl, get_lt hi, any_no hv hi (fun hn => hn (of_dec (not_ok h))), rfl⟩, mu_up (get_lt hi) hl⟩
  · refine ⟨_, rfl, rfl, ?_⟩
    have e : k = s.idxs.length := by have := of_decide_eq_false h; rw [List.length_map] at this; omega
    rw [e, List.take_length] at hv
    rw [dec_false fun ⟨c, h1, h2⟩ => hv c h1 h2]; rfl
theorem containsIdx (s : Schema) (hs : s.fits) : Ent Try.prog 50 [.d (.sl false (s.idxs.map idxD)), .fn 51 [.ptr 0 0]] [.var (schC s)]
    (.d (.b (dec (∃ i, i ∈ s.idxs ∧ ¬ colsP i.cols (s.cols.map colD).length)))) [.var (schC s)] := by
  have c1 := indexIdx s hs
  refine ent_of tok mixed (f := 50) Try.func50 (by kernel_rfl) (keep := false) ?_
  repeat' ((conv => whnf) <;> (first
    | ((with_reducible refine isCall ?_) <;> (first
        | (refine ⟨_, c1, ?_⟩; rintro _ _ ⟨n, rfl, rfl, hn⟩)
        | fail))
    | ((with_reducible refine isLoop ?_) <;> (first
        | fail))
    | ((with_reducible refine isCut ?_) <;> (first
        | refine ⟨⟨none⟩, ?_⟩))
    | ((first | with_reducible refine isEx ?_ | with_reducible refine isAnd ?_ | with_reducible refine isOr ?_) <;> (first
        | refine ⟨rfl, ?_⟩
        | refine ⟨Int.natCast_nonneg _, ?_⟩))
    | with_reducible refine Both.mk ?_ ?_
    | rintro _ rfl
    | exact rfl
    | (split <;> (rename_i h; first | (simp only [beq_self_eq_true, eq_self, decide_true, Bool.not_true, Bool.false_eq_true] at h; done) | (try rw [h])))))
  all_goals (conv => whnf)
  all_goals (rw [← hn]; exact ⟨rfl, rfl⟩)
end Go.Pm.Try
