import Derived.Test.YtjjnmkhcdbmhoaaCl
namespace Go.Pm.Try
open Go Go.Proofs
set_option linter.unusedVariables false
set_option linter.unusedSimpArgs false
set_option maxRecDepth 100000
theorem colSame (c : Col) (nm : List UInt8) : Ent Try.prog 58 [.d (colD c), .ptr 0 0] [.var [.d (.s nm)]] (.d (.b (decide (c.name = nm)))) [.var [.d (.s nm)]] := by
  refine ent_of tok mixed (f := 58) Try.func58 (by kernel_rfl) (keep := false) ?_
  repeat' ((conv => whnf) <;> (first | ((with_reducible refine isCall ?_) <;> (first | fail)) | ((with_reducible refine isCut ?_) <;> (first | refine ⟨⟨none⟩, ?_⟩)) | ((first | with_reducible refine isEx ?_ | with_reducible refine isAnd ?_ | with_reducible refine isOr ?_) <;> (first | ((with_reducible refine isSmall ?_) <;> (refine ⟨?_, ?_⟩; kernel_rfl)) | refine ⟨rfl, ?_⟩ | refine ⟨Int.natCast_nonneg _, ?_⟩)) | with_reducible refine Both.mk ?_ ?_ | rintro _ rfl | exact rfl | (split <;> (rename_i h; first | (simp only [beq_self_eq_true, eq_self, decide_true, Bool.not_true, Bool.false_eq_true] at h; done) | (try rw [h])))))
theorem any_no {α : Type} {p : α → Prop} {xs : List α} {k : Nat} {x : α} (h : ∀ y, y ∈ xs.take k → ¬ p y) (hx : xs[k]? = some x) (h1 : ¬ p x) : ∀ y, y ∈ xs.take (k + 1) → ¬ p y := take_all h hx h1
set_option maxHeartbeats 1000000 in
theorem indexCols (cs : List Col) (hl : cs.length ≤ maxLen) (nm : List UInt8) : EntQ Try.prog 57 [.d (.sl false (cs.map colD)), .fn 58 [.ptr 0 0]] [.var [.d (.s nm)]]
    (fun R O => ∃ n : Int, R = .d (.i .i64 n) ∧ O = [.var [.d (.s nm)]] ∧ decide (n ≥ 0) = dec (∃ c, c ∈ cs ∧ c.name = nm)) := by
  have c1 := fun c => colSame c nm
  refine ent_of tok mixed (f := 57) Try.func57 (by kernel_rfl) (keep := false) ?_
  repeat' ((conv => whnf) <;> (first | ((with_reducible refine isCall ?_) <;> (first | (refine ⟨_, c1 _, ?_⟩; rintro _ _ ⟨rfl, rfl⟩) | fail)) | ((with_reducible refine isLoop ?_) <;> (first | (refine ⟨[8, 7, 0, 1], [0], fun s => ∃ (k : Nat) (n : Int), n = k ∧ k ≤ cs.length ∧ (∀ c, c ∈ cs.take k → ¬ c.name = nm) ∧ s = ⟨[(8, .d (.i .i64 n)), (7, .d (.i .i64 ((cs.map colD).length : Int))), (0, .d (.sl false (cs.map colD))), (1, .fn 58 [.ptr 0 0])], [(0, .var [.d (.s nm)])]⟩, fun s => match look 8 s.env with | some (.d (.i _ n)) => cs.length - n.toNat | _ => 0, rfl, ⟨0, _, rfl, Nat.zero_le _, (fun x hx => by simp at hx), rfl⟩, ?_⟩; rintro s ⟨k, n, rfl, hk, hv, rfl⟩) | fail)) | ((with_reducible refine isCut ?_) <;> (first | refine ⟨⟨none⟩, ?_⟩)) | ((first | with_reducible refine isEx ?_ | with_reducible refine isAnd ?_ | with_reducible refine isOr ?_) <;> (first | ((with_reducible refine isGet (xs := cs.map colD) (i := ((k : Nat) : Int).toNat) ?_); obtain ⟨c, hc⟩ := get_ex (ss := cs) (k := k) (lt_of_dec (by assumption)); refine ⟨_, get_map' hc, ?_⟩) | ((with_reducible refine isSmall ?_) <;> (refine ⟨?_, ?_⟩; kernel_rfl)) | refine ⟨rfl, ?_⟩ | refine ⟨Int.natCast_nonneg _, ?_⟩)) | with_reducible refine Both.mk ?_ ?_ | rintro _ rfl | exact rfl | (split <;> (rename_i h; first | (simp only [beq_self_eq_true, eq_self, decide_true, Bool.not_true, Bool.false_eq_true] at h; done) | (try rw [h])))))
  all_goals (conv => whnf)
  · refine ⟨_, rfl, rfl, ?_⟩
    rw [dec_true ⟨c, get_mem hc, of_decide_eq_true h⟩]
    exact decide_eq_true (Int.natCast_nonneg k)
  · exact ⟨⟨k + 1, _, step_up (get_lt hc) hl, get_lt hc, any_no hv hc (of_decide_eq_false h), rfl⟩, mu_up (get_lt hc) hl⟩
  · refine ⟨_, rfl, rfl, ?_⟩
    have e : k = cs.length := by have := of_decide_eq_false h; rw [List.length_map] at this; omega
    rw [e, List.take_length] at hv
    rw [dec_false fun ⟨c, h1, h2⟩ => hv c h1 h2]; rfl
theorem columnOf (nm0 : List UInt8) (cs : List Col) (hl : cs.length ≤ maxLen) (k : Nat) (ys zs : List D) (nm : List UInt8) : EntQ Try.prog 32 [.d (.agg [.s nm0, .sl false (((cs.map colD).take k).drop 0), .sl false ys, .sl false zs]), .d (.s nm)] []
    (fun R O => ∃ n : Int, R = .d (.i .i64 n) ∧ O = [] ∧ decide (n ≥ 0) = dec (∃ c, c ∈ cs.take k ∧ c.name = nm)) := by
  have e : ((cs.map colD).take k).drop 0 = (cs.take k).map colD := by simp [List.map_take]
  rw [e]
  have c1 := indexCols (cs.take k) (by rw [List.length_take]; omega) nm
  refine ent_of tok mixed (f := 32) Try.func32 (by kernel_rfl) (keep := false) ?_
  repeat' ((conv => whnf) <;> (first | ((with_reducible refine isCall ?_) <;> (first | (refine ⟨_, c1, ?_⟩; rintro _ _ ⟨n, rfl, rfl, hn⟩) | fail)) | ((with_reducible refine isCut ?_) <;> (first | refine ⟨⟨none⟩, ?_⟩)) | ((first | with_reducible refine isEx ?_ | with_reducible refine isAnd ?_ | with_reducible refine isOr ?_) <;> (first | ((with_reducible refine isSmall ?_) <;> (refine ⟨?_, ?_⟩; kernel_rfl)) | refine ⟨rfl, ?_⟩ | refine ⟨Int.natCast_nonneg _, ?_⟩)) | with_reducible refine Both.mk ?_ ?_ | rintro _ rfl | exact rfl | (split <;> (rename_i h; first | (simp only [beq_self_eq_true, eq_self, decide_true, Bool.not_true, Bool.false_eq_true] at h; done) | (try rw [h])))))
  all_goals (conv => whnf)
  all_goals exact ⟨_, rfl, rfl, hn⟩
theorem idxBad (i : Idx) (hi : i.cols.length ≤ maxLen) (s : Schema) (hs : s.cols.length ≤ maxLen) : Ent Try.prog 34 [.d (idxD i), .ptr 0 0] [.var (schC s)] (.d (.b (!dec (colsP i.cols (s.cols.map colD).length)))) [.var (schC s)] := by
  have c1 := implColumns s.name (s.cols.map colD) (s.keys.map i64D) (s.idxs.map idxD) (by rw [List.length_map]; exact hs) i.cols hi
  generalize dec (colsP i.cols (s.cols.map colD).length) = u at *
  refine ent_of tok mixed (f := 34) Try.func34 (by kernel_rfl) (keep := false) ?_
  repeat' ((conv => whnf) <;> (first | ((with_reducible refine isCall ?_) <;> (first | (refine ⟨_, c1, ?_⟩; rintro _ _ ⟨rfl, rfl⟩) | fail)) | ((with_reducible refine isCut ?_) <;> (first | refine ⟨⟨none⟩, ?_⟩)) | ((first | with_reducible refine isEx ?_ | with_reducible refine isAnd ?_ | with_reducible refine isOr ?_) <;> (first | ((with_reducible refine isSmall ?_) <;> (refine ⟨?_, ?_⟩; kernel_rfl)) | refine ⟨rfl, ?_⟩ | refine ⟨Int.natCast_nonneg _, ?_⟩)) | with_reducible refine Both.mk ?_ ?_ | rintro _ rfl | exact rfl | (split <;> (rename_i h; first | (simp only [beq_self_eq_true, eq_self, decide_true, Bool.not_true, Bool.false_eq_true] at h; done) | (try rw [h])))))
set_option maxHeartbeats 1000000 in
theorem indexIdx (s : Schema) (hs : s.fits) : EntQ Try.prog 59 [.d (.sl false (s.idxs.map idxD)), .fn 34 [.ptr 0 0]] [.var (schC s)]
    (fun R O => ∃ n : Int, R = .d (.i .i64 n) ∧ O = [.var (schC s)] ∧ decide (n ≥ 0) = dec (∃ i, i ∈ s.idxs ∧ ¬ colsP i.cols (s.cols.map colD).length)) := by
  have hl := hs.idxs
  refine ent_of tok mixed (f := 59) Try.func59 (by kernel_rfl) (keep := false) ?_
  repeat' ((conv => whnf) <;> (first | ((with_reducible refine isCall ?_) <;> (first | (refine ⟨_, c1, ?_⟩; rintro _ _ ⟨rfl, rfl⟩) | fail)) | ((with_reducible refine isLoop ?_) <;> (first | (refine ⟨[8, 7, 0, 1], [0], fun st => ∃ (k : Nat) (n : Int), n = k ∧ k ≤ s.idxs.length ∧ (∀ i, i ∈ s.idxs.take k → ¬ ¬ colsP i.cols (s.cols.map colD).length) ∧ st = ⟨[(8, .d (.i .i64 n)), (7, .d (.i .i64 ((s.idxs.map idxD).length : Int))), (0, .d (.sl false (s.idxs.map idxD))), (1, .fn 34 [.ptr 0 0])], [(0, .var (schC s))]⟩, fun st => match look 8 st.env with | some (.d (.i _ n)) => s.idxs.length - n.toNat | _ => 0, rfl, ⟨0, _, rfl, Nat.zero_le _, (fun x hx => by simp at hx), rfl⟩, ?_⟩; rintro st ⟨k, n, rfl, hk, hv, rfl⟩) | fail)) | ((with_reducible refine isCut ?_) <;> (first | refine ⟨⟨none⟩, ?_⟩)) | ((first | with_reducible refine isEx ?_ | with_reducible refine isAnd ?_ | with_reducible refine isOr ?_) <;> (first | ((with_reducible refine isGet (xs := s.idxs.map idxD) (i := ((k : Nat) : Int).toNat) ?_); obtain ⟨i, hi⟩ := get_ex (ss := s.idxs) (k := k) (lt_of_dec (by assumption)); have c1 := idxBad i (hs.lists i (get_mem hi)) s hs.cols; refine ⟨_, get_map' hi, ?_⟩) | ((with_reducible refine isSmall ?_) <;> (refine ⟨?_, ?_⟩; kernel_rfl)) | refine ⟨rfl, ?_⟩ | refine ⟨Int.natCast_nonneg _, ?_⟩)) | with_reducible refine Both.mk ?_ ?_ | rintro _ rfl | exact rfl | (split <;> (rename_i h; first | (simp only [beq_self_eq_true, eq_self, decide_true, Bool.not_true, Bool.false_eq_true] at h; done) | (try rw [h])))))
  all_goals (conv => whnf)
  · refine ⟨_, rfl, rfl, ?_⟩
    rw [dec_true ⟨i, get_mem hi, of_ndec (not_ok' h)⟩]
    exact decide_eq_true (Int.natCast_nonneg k)
  · exact ⟨⟨k + 1, _, step_up (get_lt hi) hl, get_lt hi, any_no hv hi (fun hn => hn (of_dec (not_ok h))), rfl⟩, mu_up (get_lt hi) hl⟩
  · refine ⟨_, rfl, rfl, ?_⟩
    have e : k = s.idxs.length := by have := of_decide_eq_false h; rw [List.length_map] at this; omega
    rw [e, List.take_length] at hv
    rw [dec_false fun ⟨c, h1, h2⟩ => hv c h1 h2]; rfl
theorem containsIdx (s : Schema) (hs : s.fits) : Ent Try.prog 33 [.d (.sl false (s.idxs.map idxD)), .fn 34 [.ptr 0 0]] [.var (schC s)]
    (.d (.b (dec (∃ i, i ∈ s.idxs ∧ ¬ colsP i.cols (s.cols.map colD).length)))) [.var (schC s)] := by
  have c1 := indexIdx s hs
  refine ent_of tok mixed (f := 33) Try.func33 (by kernel_rfl) (keep := false) ?_
  repeat' ((conv => whnf) <;> (first | ((with_reducible refine isCall ?_) <;> (first | (refine ⟨_, c1, ?_⟩; rintro _ _ ⟨n, rfl, rfl, hn⟩) | fail)) | ((with_reducible refine isCut ?_) <;> (first | refine ⟨⟨none⟩, ?_⟩)) | ((first | with_reducible refine isEx ?_ | with_reducible refine isAnd ?_ | with_reducible refine isOr ?_) <;> (first | ((with_reducible refine isSmall ?_) <;> (refine ⟨?_, ?_⟩; kernel_rfl)) | refine ⟨rfl, ?_⟩ | refine ⟨Int.natCast_nonneg _, ?_⟩)) | with_reducible refine Both.mk ?_ ?_ | rintro _ rfl | exact rfl | (split <;> (rename_i h; first | (simp only [beq_self_eq_true, eq_self, decide_true, Bool.not_true, Bool.false_eq_true] at h; done) | (try rw [h])))))
  all_goals (conv => whnf)
  all_goals (rw [← hn]; exact ⟨rfl, rfl⟩)
end Go.Pm.Try
namespace Go.Pm.Try
open Go Go.Proofs
set_option linter.unusedVariables false
set_option linter.unusedSimpArgs false
set_option maxRecDepth 100000
theorem threes (cs : List Col) : ∀ x, x ∈ cs.map colD → x.cells.length = 3 := by
  intro x hx
  obtain ⟨n, _, rfl⟩ := List.mem_map.1 hx
  rfl
set_option maxHeartbeats 4000000 in
theorem implSchemaRight (s : Schema) (hs : s.fits) : Ent Try.prog 7 [.d (schemaD s)] [] (.d (.b (dec (schemaP s)))) [] := by
  obtain ⟨o, ho⟩ : ∃ o, o = dec (schemaP s) := ⟨_, rfl⟩
  rw [← ho]
  have hcl : (s.cols.map colD).length = s.cols.length := List.length_map ..
  have hil : (s.idxs.map idxD).length = s.idxs.length := List.length_map ..
  have hkl : (s.keys.map i64D).length = s.keys.length := List.length_map ..
  have c1 := implNameRight s.name hs.name
  have c2 := implColumns s.name (s.cols.map colD) (s.keys.map i64D) (s.idxs.map idxD) (by rw [hcl]; exact hs.cols) s.keys hs.keys
  have c5 := containsIdx s hs
  refine ent_of tok mixed (f := 7) Try.func7 (by kernel_rfl) (keep := false) ?_
  repeat' ((conv => whnf) <;> (first | ((with_reducible refine isCall ?_) <;> (first | (refine ⟨_, c1, ?_⟩; rintro _ _ ⟨rfl, rfl⟩) | (refine ⟨_, c2, ?_⟩; rintro _ _ ⟨rfl, rfl⟩) | (refine ⟨_, c5, ?_⟩; rintro _ _ ⟨rfl, rfl⟩) | (refine ⟨_, c3, ?_⟩; rintro _ _ ⟨rfl, rfl⟩) | (refine ⟨_, c6, ?_⟩; rintro _ _ ⟨rfl, rfl⟩) | (refine ⟨_, c4, ?_⟩; rintro _ _ ⟨n, rfl, rfl, hn⟩) | (refine ⟨_, within _ _ _, ?_⟩; rintro _ _ ⟨rfl, rfl⟩) | refine ⟨_, get_map' hc, ?_⟩ | refine ⟨_, get_map' hy, ?_⟩ | refine ⟨⟨threes _, by decide⟩, ?_⟩ | refine ⟨⟨Int.natCast_nonneg _, (by have := get_lt hc; rw [List.length_map]; omega)⟩, ?_⟩ | refine ⟨hyr.1, ?_⟩ | fail)) | ((with_reducible refine isLoop ?_) <;> (first | (refine ⟨[34, 33, 32, 1], [10001], fun st => ∃ (k : Nat) (i : Int), i = k ∧ k ≤ s.cols.length ∧ (nameOk s.name = true ∧ 1 ≤ s.cols.length ∧ s.cols.length ≤ 10 ∧ s.idxs.length ≤ 4 ∧ colsP s.keys s.cols.length) ∧ (∀ (j : Nat) (c : Col), j < k → s.cols[j]? = some c → nameOk c.name = true ∧ (1 ≤ c.kind ∧ c.kind ≤ 3) ∧ ∀ d, d ∈ s.cols.take j → d.name ≠ c.name) ∧ st = ⟨[(34, .d (.i .i64 i)), (33, .d (.i .i64 ((s.cols.map colD).length : Int))), (32, .d (.sl false (s.cols.map colD))), (1, .ptr 10001 0)], [(10001, .var (schC s))]⟩, fun st => match look 34 st.env with | some (.d (.i _ i)) => s.cols.length - i.toNat | _ => 0, rfl, ⟨0, _, rfl, Nat.zero_le _, ?_, (fun j c hj => absurd hj (Nat.not_lt_zero _)), rfl⟩, ?_⟩; rotate_left; rintro st ⟨k, i, rfl, hk, hP0, hv, rfl⟩) | (refine ⟨[64, 63, 62, 1], [10001], fun st => ∃ (k : Nat) (i : Int), i = k ∧ k ≤ s.keys.length ∧ (∀ x, x ∈ s.keys.take k → ∀ c, s.cols[x.toNat]? = some c → c.uniq = false) ∧ st = ⟨[(64, .d (.i .i64 i)), (63, .d (.i .i64 ((s.keys.map i64D).length : Int))), (62, .d (.sl false (s.keys.map i64D))), (1, .ptr 10001 0)], [(10001, .var (schC s))]⟩, fun st => match look 64 st.env with | some (.d (.i _ i)) => s.keys.length - i.toNat | _ => 0, rfl, ⟨0, _, rfl, Nat.zero_le _, (fun x hx => by simp at hx), rfl⟩, ?_⟩; rintro st ⟨k2, i, rfl, hk2, hv2, rfl⟩) | refine ⟨_, get_map' hc, ?_⟩ | refine ⟨_, get_map' hy, ?_⟩ | refine ⟨⟨threes _, by decide⟩, ?_⟩ | refine ⟨⟨Int.natCast_nonneg _, (by have := get_lt hc; rw [List.length_map]; omega)⟩, ?_⟩ | refine ⟨hyr.1, ?_⟩ | fail)) | ((with_reducible refine isCut ?_) <;> (first | refine ⟨⟨none⟩, ?_⟩)) | ((first | with_reducible refine isEx ?_ | with_reducible refine isAnd ?_ | with_reducible refine isOr ?_) <;> (first | refine ⟨_, get_map' hc, ?_⟩ | refine ⟨_, get_map' hy, ?_⟩ | ((with_reducible refine isGet (xs := s.keys.map i64D) (i := ((k2 : Nat) : Int).toNat) ?_); obtain ⟨y, hy⟩ := get_ex (ss := s.keys) (k := k2) (lt_of_dec (by assumption)); have hyr := (hP0.2.2.2.2.2 k2 y hy).1; obtain ⟨c, hc⟩ := get_ex (ss := s.cols) (k := y.toNat) (by omega); refine ⟨_, get_map' hy, ?_⟩) | ((with_reducible refine isGet (xs := s.cols.map colD) (i := ((k : Nat) : Int).toNat) ?_); obtain ⟨c, hc⟩ := get_ex (ss := s.cols) (k := k) (lt_of_dec (by assumption)); have c3 := implNameRight c.name (hs.names c (get_mem hc)); have c4 := columnOf [] s.cols hs.cols k [] [] c.name; have c6 := within c.kind 1 3; obtain ⟨u3, hu3⟩ : ∃ u, u = nameOk c.name := ⟨_, rfl⟩; obtain ⟨u6, hu6⟩ : ∃ u, u = inside c.kind 1 3 := ⟨_, rfl⟩; rw [← hu3] at c3; rw [← hu6] at c6; cases u3 <;> cases u6 <;> refine ⟨_, get_map' hc, ?_⟩) | refine ⟨⟨threes _, by decide⟩, ?_⟩ | refine ⟨⟨Int.natCast_nonneg _, (by have := get_lt hc; rw [List.length_map]; omega)⟩, ?_⟩ | refine ⟨hyr.1, ?_⟩ | ((with_reducible refine isSmall ?_) <;> (refine ⟨?_, ?_⟩; kernel_rfl)) | refine ⟨rfl, ?_⟩ | refine ⟨Int.natCast_nonneg _, ?_⟩)) | with_reducible refine Both.mk ?_ ?_ | rintro _ rfl | exact rfl | (split <;> (rename_i h; first | (simp only [beq_self_eq_true, eq_self, decide_true, Bool.not_true, Bool.false_eq_true] at h; done) | (try rw [h])))))
  all_goals (conv => whnf)
  all_goals first
    | exact ret_false ho fun hP => by have := not_ok' h; rw [hP.name] at this; cases this
    | exact ret_false ho fun hP => by have := not_ok' h; rw [(inside_iff _ _ _).2 ⟨by rw [hcl]; have := hP.lo; omega, by rw [hcl]; have := hP.hi; omega⟩] at this; cases this
    | exact ret_false ho fun hP => by have := of_decide_eq_true h; have := hP.lo; have := hP.hi; have := hP.idx; omega
    | exact ret_false ho fun hP => by have := of_ndec (not_ok' h); rw [hcl] at this; exact this hP.keys
    | exact ret_false ho fun hP => Bool.noConfusion (hu3.trans (hP.cols k c hc).1 : false = true)
    | exact ret_false ho fun hP => Bool.noConfusion (hu6.trans ((inside_iff _ _ _).2 (hP.cols k c hc).2.1) : false = true)
    | (rw [hn] at h; exact ret_false ho fun hP => (of_dec h).elim fun d hd => (hP.cols k c hc).2.2 d hd.1 hd.2)
    | exact ret_false ho fun hP => by rw [hP.uniq y (get_mem hy) c hc] at h; cases h
    | (rw [hn] at h
       exact ⟨⟨k + 1, _, step_up (get_lt hc) hs.cols, get_lt hc, hP0, cols_up hv hc ⟨hu3.symm, (inside_iff _ _ _).1 hu6.symm, fun d hd he => of_ndec h ⟨d, hd, he⟩⟩, rfl⟩, mu_up (get_lt hc) hs.cols⟩)
    | exact ⟨⟨k2 + 1, _, step_up (get_lt hy) hs.keys, get_lt hy, take_all hv2 hy (fun c' hc' => by rw [hc] at hc'; cases hc'; exact h), rfl⟩, mu_up (get_lt hy) hs.keys⟩
    | (have e : k = s.cols.length := by have := of_decide_eq_false (by assumption : decide ((k : Int) < ((s.cols.map colD).length : Int)) = false); omega
       have e2 : k2 = s.keys.length := by have := of_decide_eq_false (by assumption : decide ((k2 : Int) < ((s.keys.map i64D).length : Int)) = false); omega
       rw [e2, List.take_length] at hv2
       refine ret_b ho ⟨fun hb => ?_, fun hP => ?_⟩
       · have hno := of_ndec (not_ok' hb)
         exact ⟨hP0.1, hP0.2.1, hP0.2.2.1, hP0.2.2.2.1, hP0.2.2.2.2, fun j c hj => hv j c (by rw [e]; exact get_lt hj) hj, hv2, fun i hi => Classical.byContradiction fun hc => hno ⟨i, hi, by rw [hcl]; exact hc⟩⟩
       · rw [dec_false fun ⟨i, hi, hc⟩ => hc (by rw [hcl]; exact hP.idxs i hi)]; rfl)
    | (refine ⟨not_ok (by assumption), ?_, ?_, ?_, ?_⟩
       · have := (inside_iff _ _ _).1 (not_ok (by assumption : (!inside ((s.cols.map colD).length : Int) 1 10) = false)); omega
       · have := (inside_iff _ _ _).1 (not_ok (by assumption : (!inside ((s.cols.map colD).length : Int) 1 10) = false)); omega
       · have := of_decide_eq_false (by assumption : decide (((s.idxs.map idxD).length : Int) > 4) = false); omega
       · have := of_dec (not_ok (by assumption : (!dec (colsP s.keys (s.cols.map colD).length)) = false)); rw [hcl] at this; exact this)
    | trace_state
end Go.Pm.Try
