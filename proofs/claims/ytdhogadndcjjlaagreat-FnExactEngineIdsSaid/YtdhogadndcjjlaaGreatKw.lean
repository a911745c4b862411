/-
The program's EngineIds returns what the reference's returns, for all arguments.
-/
import Derived.Test.YtdhogadndcjjlaaGreatKwn
namespace Go.Pm.Tryz
open Go Go.Proofs
set_option linter.unusedVariables false
set_option linter.unusedSimpArgs false
set_option maxRecDepth 100000
theorem eng_ok {s : Sto} (h : engOk s = true) : ∃ a b c d, s.tabs = engTs a b c d ∧ EngP a b c d ∧ implOk a b c d := by
  unfold engOk at h
  rw [Bool.and_eq_true, Bool.and_eq_true] at h
  obtain ⟨g1, g2, g3⟩ := h
  obtain ⟨a, b, c, d, e⟩ := of_dec g2
  have e2 : s.tabs = engTs a b c d := e
  have hE : EngP a b c d := eng_p (e2 ▸ sto_db g1)
  rw [e2] at g3
  exact ⟨a, b, c, d, e2, hE, (impl_iff hE).2 g3⟩
noncomputable def idsM (s : Sto) : List Int := match engOk s with | true => (rowsAt s.tabs 2).map (numA · 0) | false => []
theorem ids_up {c : List (List Val)} {k : Nat} {x : List Val} (hx : c[k]? = some x) {xs : List D} (h : xs = ((c.take k).map (numA · 0)).map i64D) : xs ++ [.i .i64 (numA x 0)] = ((c.take (k + 1)).map (numA · 0)).map i64D := by
  rw [h, take_up hx, List.map_append, List.map_append]; rfl
theorem ids_all {c : List (List Val)} {k : Nat} {xs : List D} (h : xs = ((c.take k).map (numA · 0)).map i64D) (hk : c.length ≤ k) : xs = (c.map (numA · 0)).map i64D := by
  rw [h, List.take_of_length_le hk]
set_option maxHeartbeats 4000000 in
theorem specEngineIds (s : Sto) (hs : s.fits) : Ent Tryz.prog 12 [.d (stoD s)] [] (.own 0) [.arr 1 false ((idsM s).map i64D)] := by
  have c1 := specEngineRight s hs
  obtain ⟨o, ho⟩ : ∃ o, o = idsM s := ⟨_, rfl⟩
  rw [← ho]
  unfold idsM at ho
  cases h : engOk s with
  | false =>
    rw [h] at c1 ho
    have e : o = [] := ho
    subst e
    refine ent_of (cx := ⟨tab, [], []⟩) tok mixed (f := 12) Tryz.func12 (by kernel_rfl) (keep := true) ?_
    repeat' ((conv => whnf) <;> (first | ((with_reducible refine isCall ?_) <;> (first | (refine ⟨_, c1, ?_⟩; rintro _ _ ⟨rfl, rfl⟩) | fail)) | ((with_reducible refine isCut ?_) <;> (first | refine ⟨⟨none⟩, ?_⟩)) | ((first | with_reducible refine isEx ?_ | with_reducible refine isAnd ?_ | with_reducible refine isOr ?_) <;> (first | ((with_reducible refine isSmall ?_) <;> (refine ⟨?_, ?_⟩; kernel_rfl)) | refine ⟨rfl, ?_⟩ | refine ⟨Int.natCast_nonneg _, ?_⟩)) | with_reducible refine Both.mk ?_ ?_ | rintro _ rfl | exact rfl | (split <;> (rename_i h; first | (simp only [beq_self_eq_true, eq_self, decide_true, Bool.not_true, Bool.false_eq_true] at h; done) | (try rw [h])))))
  | true =>
    obtain ⟨a, b, c, d, h1, hE, _⟩ := eng_ok h
    rw [h] at c1 ho
    obtain ⟨disk, tabs, seq, next⟩ := s
    dsimp only at h1 ho
    subst h1
    have ho : o = c.map (numA · 0) := ho
    have hlc : c.length ≤ maxLen := Nat.le_trans hE.sagas.most (by decide)
    have hl60 : c.length ≤ 60 := hE.sagas.most
    refine ent_of (cx := ⟨tab, [], []⟩) tok mixed (f := 12) Tryz.func12 (by kernel_rfl) (keep := true) ?_
    repeat' ((conv => whnf) <;> (first | ((with_reducible refine isCall ?_) <;> (first | (refine ⟨_, c1, ?_⟩; rintro _ _ ⟨rfl, rfl⟩) | (refine ⟨_, get_map' (cell_at hxl rfl), ?_⟩) | (refine ⟨_, rfl, ?_⟩) | (refine ⟨Int.natCast_nonneg _, ?_⟩) | (refine ⟨by decide, ?_⟩) | (refine ⟨⟨by decide, rfl, rfl, room_add (by rw [hxs]; simp only [List.length_map, List.length_take]; omega) (by decide)⟩, ?_⟩) | fail)) | ((with_reducible refine isLoop ?_) <;> (first | (refine ⟨[1, 3, 4], [10001, 10005], fun st => ∃ (k : Nat) (i : Int) (xs : List D), i = k ∧ k ≤ c.length ∧ xs = ((c.take k).map (numA · 0)).map i64D ∧ st = ⟨[(1, .ptr 10001 0), (3, .own 10005), (4, .d (.i .i64 i))], [(10001, .var (stoC ⟨disk, engTs a b c d, seq, next⟩)), (10005, .arr 1 false xs)]⟩, fun s' => match look 4 s'.env with | some (.d (.i _ n)) => c.length - n.toNat | _ => 0, rfl, ⟨0, _, _, rfl, Nat.zero_le _, rfl, rfl⟩, ?_⟩; rintro st ⟨k, i, xs, rfl, hk, hxs, rfl⟩) | (refine ⟨_, get_map' (cell_at hxl rfl), ?_⟩) | (refine ⟨_, rfl, ?_⟩) | (refine ⟨Int.natCast_nonneg _, ?_⟩) | (refine ⟨by decide, ?_⟩) | (refine ⟨⟨by decide, rfl, rfl, room_add (by rw [hxs]; simp only [List.length_map, List.length_take]; omega) (by decide)⟩, ?_⟩) | fail)) | ((with_reducible refine isCut ?_) <;> (first | refine ⟨⟨none⟩, ?_⟩)) | ((first | with_reducible refine isEx ?_ | with_reducible refine isAnd ?_ | with_reducible refine isOr ?_) <;> (first | ((with_reducible refine isGet (xs := c.map rowD) (i := ((k : Nat) : Int).toNat) ?_); obtain ⟨x, hx⟩ := get_ex (ss := c) (k := k) (lt_of_dec (by assumption)); have hxl : x.length = 9 := row_len hE.sagas hx; refine ⟨_, get_map' hx, ?_⟩) | (refine ⟨_, get_map' (cell_at hxl rfl), ?_⟩) | (refine ⟨_, rfl, ?_⟩) | (refine ⟨Int.natCast_nonneg _, ?_⟩) | (refine ⟨by decide, ?_⟩) | (refine ⟨⟨by decide, rfl, rfl, room_add (by rw [hxs]; simp only [List.length_map, List.length_take]; omega) (by decide)⟩, ?_⟩) | ((with_reducible refine isSmall ?_) <;> (refine ⟨?_, ?_⟩; kernel_rfl)) | refine ⟨rfl, ?_⟩ | refine ⟨Int.natCast_nonneg _, ?_⟩)) | with_reducible refine Both.mk ?_ ?_ | rintro _ rfl | exact rfl | (split <;> (rename_i h; first | (simp only [beq_self_eq_true, eq_self, decide_true, Bool.not_true, Bool.false_eq_true] at h; done) | (try rw [h])))))
    all_goals try (conv => whnf)
    all_goals first
      | exact ⟨⟨k + 1, _, _, step_up (get_lt hx) hlc, get_lt hx, ids_up hx hxs, rfl⟩, mu_up (get_lt hx) hlc⟩
      | (have := of_decide_eq_false h
         rw [List.length_map] at this
         rw [ids_all hxs (by dsimp only at this; omega), ho]; rfl)
      | trace_state
set_option maxHeartbeats 4000000 in
theorem implEngineIds (s : Sto) (hs : s.fits) : Ent Tryz.prog 13 [.d (stoD s)] [] (.own 0) [.arr 1 false ((idsM s).map i64D)] := by
  have c1 := implReadR s hs
  obtain ⟨o, ho⟩ : ∃ o, o = idsM s := ⟨_, rfl⟩
  rw [← ho]
  unfold idsM at ho
  refine ent_ofN (cx := ⟨tab, [], []⟩) tok mixed (f := 13) Tryz.func13 (by kernel_rfl) (keep := true) (nm := [.slot 20002 1 false 2]) ?_
  repeat' ((conv => whnf) <;> (first | ((with_reducible refine isCall ?_) <;> (first | (refine ⟨_, c1, ?_⟩; rintro _ _ (⟨h1, a, b, c, d, h2, hE, h3, rfl, rfl⟩ | ⟨h1, (⟨rfl, rfl⟩ | ⟨x, y, ys, rfl, rfl⟩)⟩)) | (refine ⟨Int.natCast_nonneg _, ?_⟩) | (refine ⟨⟨by decide, rfl, rfl, room_add (by rw [hxs]; simp only [List.length_map, List.length_take]; omega) (by decide)⟩, ?_⟩) | fail)) | ((with_reducible refine isLoop ?_) <;> (first | (refine ⟨[5, 19, 20, 21], [10015], fun st => ∃ (k : Nat) (i : Int) (xs : List D), i = k ∧ k ≤ c.length ∧ xs = ((c.take k).map (numA · 0)).map i64D ∧ st = ⟨[(5, .own 10015), (19, .d (.sl false ((c.map keptR).map keptD))), (20, .d (.i .i64 (((c.map keptR).map keptD).length : Int))), (21, .d (.i .i64 i))], [(10015, .arr 1 false xs)]⟩, fun s' => match look 21 s'.env with | some (.d (.i _ n)) => c.length - n.toNat | _ => 0, rfl, ⟨0, _, _, rfl, Nat.zero_le _, rfl, rfl⟩, ?_⟩; rintro st ⟨k, i, xs, rfl, hk, hxs, rfl⟩; have hlc : c.length ≤ maxLen := Nat.le_trans hE.sagas.most (by decide); have hl60 : c.length ≤ 60 := hE.sagas.most) | (refine ⟨Int.natCast_nonneg _, ?_⟩) | (refine ⟨⟨by decide, rfl, rfl, room_add (by rw [hxs]; simp only [List.length_map, List.length_take]; omega) (by decide)⟩, ?_⟩) | fail)) | ((with_reducible refine isCut ?_) <;> (first | refine ⟨⟨none⟩, ?_⟩)) | ((first | with_reducible refine isEx ?_ | with_reducible refine isAnd ?_ | with_reducible refine isOr ?_) <;> (first | ((with_reducible refine isGet (xs := (c.map keptR).map keptD) (i := ((k : Nat) : Int).toNat) ?_); obtain ⟨x, hx⟩ := get_ex (ss := c) (k := k) (by have := of_decide_eq_true (by assumption : decide ((k : Int) < (((c.map keptR).map keptD).length : Int)) = true); rw [List.length_map, List.length_map] at this; omega); refine ⟨_, get_map' (f := keptD) (show (c.map keptR)[k]? = some (keptR x) by rw [List.getElem?_map, hx]; rfl), ?_⟩) | (refine ⟨Int.natCast_nonneg _, ?_⟩) | (refine ⟨⟨by decide, rfl, rfl, room_add (by rw [hxs]; simp only [List.length_map, List.length_take]; omega) (by decide)⟩, ?_⟩) | ((with_reducible refine isSmall ?_) <;> (refine ⟨?_, ?_⟩; kernel_rfl)) | refine ⟨rfl, ?_⟩ | refine ⟨Int.natCast_nonneg _, ?_⟩)) | with_reducible refine Both.mk ?_ ?_ | rintro _ rfl | exact rfl | (split <;> (rename_i h; first | (simp only [beq_self_eq_true, eq_self, decide_true, Bool.not_true, Bool.false_eq_true] at h; done) | (try rw [h])))))
  all_goals try (conv => whnf)
  all_goals first
    | (rw [h1] at ho; rw [ho]; rfl)
    | exact ⟨⟨k + 1, _, _, step_up (get_lt hx) hlc, get_lt hx, ids_up hx hxs, rfl⟩, mu_up (get_lt hx) hlc⟩
    | (have := of_decide_eq_false h
       rw [List.length_map, List.length_map] at this
       rw [h1, h2] at ho
       rw [ids_all hxs (by omega), show o = c.map (numA · 0) from ho]; rfl)
    | trace_state
theorem ids_few (s : Sto) : (idsM s).length ≤ 60 := by
  unfold idsM
  cases h : engOk s with
  | false => exact Nat.zero_le _
  | true =>
    obtain ⟨a, b, c, d, h1, hE, _⟩ := eng_ok h
    simp only
    rw [h1, List.length_map]
    exact hE.sagas.most
theorem mark_ids {ns : List Int} (h : ns.length ≤ 60) : AllOf isInt64 (ns.map i64D) ∧ ∃ (q : Int) (m : List D), 0 ≤ q ∧ Ent Tryz.prog 16 [.own 0, .d (.i .i64 1)] [.arr 1 false (ns.map i64D)] (.d (.i .i64 q)) [.arr 1 false m] ∧ Ent Tryz.prog 17 [.d (.sl false m), .d (.i .i64 1)] [] (.d (.i .i64 q)) [] := by
  have h1 := own_ints2 (cs := ns) (by omega)
  have n1 := cnt_ints ns
  have f1 : Fine (ns.map i64D) 1 := ⟨by decide, by omega⟩
  have hq := f1.out
  exact ⟨h1, _, _, by omega, markInt64S _ h1 1 (by decide), heldInt64S _ h1 1 f1⟩
theorem mark_sto {s : Sto} (hw : wSto s ≤ 1048576) : ∃ (q : Int) (m1 m2 m3 : List D), 0 ≤ q ∧ Ent Tryz.prog 15 [.agg [.own 0, .own 1, .own 2, .d (.i .i64 s.seq), .d (.i .i64 s.next)], .d (.i .i64 1)] [.arr 1 false (s.disk.secs.map strD), .arr 2 false (s.disk.cache.map wrD), .arr 5 true (s.tabs.map tabO)] (.d (.i .i64 q)) [.arr 1 false m1, .arr 2 false m2, .arr 5 true m3] := by
  have hz := sz_sto hw
  have z1 := hz.secs
  have z2 := hz.cache
  have o1 : AllOf ownString (s.disk.secs.map strD) := own_strs (by omega)
  have o2 : AllOf ownWrite (s.disk.cache.map wrD) := own_wrs (by omega)
  have o3 := own_tabs2 hz.tabs hz.tab
  have n1 := cnt_strs s.disk.secs
  have n2 := cnt_wrs s.disk.cache
  have n3 := cnt_tabs2 s.tabs
  have n4 : wl wTab s.tabs ≤ 1048576 := by unfold wSto at hw; omega
  have f1 : Fine (s.disk.secs.map strD) 1 := ⟨by decide, by omega⟩
  have f2 : Fine (s.disk.cache.map wrD) (ctL (s.disk.secs.map strD) 1) := fine_next f1 (by omega)
  have v1 := ctL_eq _ f1.lo f1.hi
  have f3 : Fine (s.tabs.map tabO) (ctL (s.disk.cache.map wrD) (ctL (s.disk.secs.map strD) 1)) := fine_next f2 (by omega)
  have hq := f3.out
  exact ⟨_, _, _, _, by omega, markStore _ _ _ _ _ o1 o2 o3 1 (by decide)⟩
set_option maxHeartbeats 8000000 in
theorem engineIdsLaw (s : Sto) (hf : s.fit2) : Ent Tryz.prog 4 [.d (stoD s)] [] (.d (.b true)) [] := by
  have c0 := szStore s hf 1048576 (by decide) (by decide)
  by_cases hw : wSto s ≤ 1048576
  · have hz := sz_sto hw
    have hs := sto_fits hw hf
    have c1 := specEngineIds s hs
    have c2 := implEngineIds s hs
    have c3 := toStore s hz
    have c4 := eq_sto hz
    obtain ⟨p, m1, m2, m3, hp, c5⟩ := mark_sto hw
    obtain ⟨h1, q, m, hq, c7, c8⟩ := mark_ids (ids_few s)
    have c6 := eqInt64S _ h1
    unfold stoD at c1 c2 c4
    rw [← erase_tabs] at c1 c2 c4
    have hno : ((AV.own 0).loose && flatObs [.arr 1 false ((idsM s).map i64D)]) = false → False := fun h => by simp only [AV.loose, flatObs, loose_ints] at h; cases h
    generalize (idsM s).map i64D = o at *
    have hpos : ¬ q < 0 := by omega
    have kpos : ¬ p < 0 := by omega
    refine ent_of (cx := ⟨tab, [15, 16], []⟩) tok mixed (f := 4) Tryz.func4 (by kernel_rfl) (keep := false) ?_
    repeat' ((conv => whnf) <;> (first | ((with_reducible refine isCall ?_) <;> (first | (refine ⟨_, c0, ?_⟩; rintro _ _ ⟨r, rfl, rfl, hr0, hr⟩) | (refine ⟨_, c3, ?_⟩; rintro _ _ ⟨rfl, rfl⟩) | (refine ⟨_, c1, ?_⟩; rintro _ _ ⟨rfl, rfl⟩) | (refine ⟨_, c2, ?_⟩; rintro _ _ ⟨rfl, rfl⟩) | (refine ⟨_, c4, ?_⟩; rintro _ _ ⟨rfl, rfl⟩) | (refine ⟨_, c5, ?_⟩; rintro _ _ ⟨rfl, rfl⟩) | (refine ⟨_, c6, ?_⟩; rintro _ _ ⟨rfl, rfl⟩) | (refine ⟨_, c7, ?_⟩; rintro _ _ ⟨rfl, rfl⟩) | (refine ⟨_, c8, ?_⟩; rintro _ _ ⟨rfl, rfl⟩) | fail)) | ((with_reducible refine isCut ?_) <;> (first | refine ⟨⟨none⟩, ?_⟩)) | ((first | with_reducible refine isEx ?_ | with_reducible refine isAnd ?_ | with_reducible refine isOr ?_) <;> (first | ((with_reducible refine isSmall ?_) <;> (refine ⟨?_, ?_⟩; kernel_rfl)) | refine ⟨rfl, ?_⟩ | refine ⟨Int.natCast_nonneg _, ?_⟩)) | with_reducible refine Both.mk ?_ ?_ | (exfalso; refine hno ?_; assumption) | (exfalso; exact absurd (of_decide_eq_true (by assumption)) hpos) | (exfalso; exact absurd (of_decide_eq_true (by assumption)) kpos) | rintro _ rfl | exact rfl | (split <;> (rename_i h; first | (simp only [beq_self_eq_true, eq_self, decide_true, Bool.not_true, Bool.false_eq_true] at h; done) | (try rw [h])))))
    all_goals (conv => whnf)
    all_goals trace_state
  ·
    refine ent_of tok mixed (f := 4) Tryz.func4 (by kernel_rfl) (keep := false) ?_
    repeat' ((conv => whnf) <;> (first | ((with_reducible refine isCall ?_) <;> (first | (refine ⟨_, c0, ?_⟩; rintro _ _ ⟨r, rfl, rfl, hr0, hr⟩) | fail)) | ((with_reducible refine isCut ?_) <;> (first | refine ⟨⟨none⟩, ?_⟩)) | ((first | with_reducible refine isEx ?_ | with_reducible refine isAnd ?_ | with_reducible refine isOr ?_) <;> (first | ((with_reducible refine isSmall ?_) <;> (refine ⟨?_, ?_⟩; kernel_rfl)) | refine ⟨rfl, ?_⟩ | refine ⟨Int.natCast_nonneg _, ?_⟩)) | with_reducible refine Both.mk ?_ ?_ | (exfalso; have p1 := Int.not_lt.1 (of_decide_eq_false (by assumption : decide (r < 0) = false)); have q1 := hr p1; exact hw (by omega)) | rintro _ rfl | exact rfl | (split <;> (rename_i h; first | (simp only [beq_self_eq_true, eq_self, decide_true, Bool.not_true, Bool.false_eq_true] at h; done) | (try rw [h])))))
    all_goals (conv => whnf)
    all_goals trace_state
end Go.Pm.Tryz
namespace Go.Proofs.YtdhogadndcjjlaaGreat.fnExactEngineIds
open Go Go.Proofs Go.ChangeShapes Go.WideShapes Go.ChangeAt Go.RowKit Go.Pm
set_option linter.unusedVariables false
set_option maxRecDepth 100000
theorem own : ownKnob Tryz.prog.godebug = none := by kernel_rfl
theorem kids : Kids Tryz.prog (· < Tryz.prog.types.size) := kids_rows (by kernel_rfl) (by kernel_rfl)
theorem full : ∀ t e, t < Tryz.prog.types.size → Tryz.prog.underlying t = some (.slice e) → 0 < Tryz.prog.cellsOf e := slices_full_of Tryz.prog (by kernel_rfl)
theorem sh30 : shOf Tryz.prog 9 30 = some (Go.Pm.Tryz.stoSh) := by kernel_rfl
theorem lifted (os : Os) (started : os.Started) (H : Type) (enc : TypeId × Value → H) :
    ReturnsInHanded {} Tryz.checked os 4 .any (Rows.fnExactEngineIdsSpec.pre6 enc Tryz.prog Tryz.f4 Rows.fnExactEngineIdsRow.domain false) (Rows.fnExactEngineIdsSpec.post enc Tryz.prog Tryz.f4 false true false false) := by
  refine returnsInHanded_of_change_sized (C := Tryz.checked) own started (by kernel_rfl) Tryz.func4
    (ChangeSpec.witness6 (enc := enc) (C := Tryz.checked) false ⟨#[], #[.agg #[.slice none 0 0, .slice none 0 0, .slice none 0 0, .int .i64 0, .int .i64 0]], []⟩ 8 (by kernel_rfl) (by kernel_rfl) (by kernel_rfl) (by kernel_rfl)) ?_
  intro W base args ds gs before hval0 hW hcnd hsz0 _
  have hval : ∀ (j : Nat) t v, Tryz.f4.params[j]? = some t → args[j]? = some v → Value.okWide Tryz.prog W .any base t v := hval0
  have hW' := hW
  obtain ⟨p, q, hA0, hV, rfl, hfz, hnd⟩ := hW
  have hA : DataW.TrodAll enc Tryz.prog W 0 (fun _ => true) true Tryz.f4.params.toList args.toList ds p := hA0
  rw [Tryz.params4] at hA hval
  obtain ⟨rfl, rfl⟩ := trodVars_none hV
  have hA1 := hA
  obtain ⟨v0, d0, rfl, rfl, h0⟩ := trodAll_one hA
  obtain ⟨x0, hx0, hrep0⟩ := arg_rep (X := noX) (fun b h => h) sh30 (hval 0 30 v0 rfl rfl) h0
  obtain ⟨s, rfl, hf⟩ := Go.Pm.Tryz.sto_of hx0
  refine (law_calls (Go.Pm.Tryz.engineIdsLaw s hf) (W := W) (args := #[v0]) ?_).mono fun e W' ⟨he, bel⟩ => ?_
  · simp only [AV.repL, AV.rep]; exact ⟨v0, [], rfl, hrep0, rfl⟩
  subst he
  exact ⟨_, rfl, _, _, _, [], _, [], hW', trodAll_mk1 (shut_bool Tryz.underlying4 _), args_same kids full bel hA1 (by kernel_rfl), rfl, bel.frame _, fun h => by cases h⟩
theorem fact0 : Tryz.prog.inPlace 4 = Rows.fnExactEngineIdsRow.inPlace := by kernel_rfl
theorem fact1 : Tryz.prog.unfollowed 4 = Rows.fnExactEngineIdsRow.unfollowed := by kernel_rfl
theorem fact2 : Tryz.prog.recurses 4 = Rows.fnExactEngineIdsRow.recurses := by kernel_rfl
theorem fact3 : Tryz.prog.varsNamed 4 = Rows.fnExactEngineIdsRow.named := by kernel_rfl
theorem joined : joinedFacts Tryz.prog 4 Tryz.f4 Rows.fnExactEngineIdsSpec Rows.fnExactEngineIdsRow = true := by
  unfold joinedFacts
  rw [fact0, fact1, fact2, fact3]
  kernel_rfl
theorem over : Rows.fnExactEngineIdsRow.holds Tryz.pinned (OpenSpec.ofChange Rows.fnExactEngineIdsSpec) :=
  OpenClaim.holds_of_wide 4 Tryz.f4 rfl rfl rfl rfl rfl rfl rfl ⟨rfl, rfl, rfl, rfl, rfl⟩ rfl rfl rfl rfl rfl (by kernel_rfl) Tryz.func4 joined
    (of_decide_eq_true (by kernel_rfl)) (by unfold Func.isWrapper; first | (rw [if_pos (by decide +kernel)]; kernel_rfl) | (rw [if_neg (by decide +kernel)]; exact ⟨rfl, rfl⟩))
    (fun os started H enc _ => lifted os started H enc)
end Go.Proofs.YtdhogadndcjjlaaGreat.fnExactEngineIds
namespace Go.Proofs.YtdhogadndcjjlaaGreat
theorem fnExactEngineIds_holds : Rows.FnExactEngineIdsSaid := fnExactEngineIds.over
#print axioms fnExactEngineIds_holds
end Go.Proofs.YtdhogadndcjjlaaGreat
