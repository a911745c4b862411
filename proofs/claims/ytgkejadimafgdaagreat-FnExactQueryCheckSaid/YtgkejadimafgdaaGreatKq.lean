/-
The program's QueryCheck returns what the reference's returns, for all arguments.
-/
import Derived.Test.YtgkejadimafgdaaGreatKqk
namespace Go.Pm.Tryz
open Go Go.Proofs
set_option linter.unusedVariables false
set_option linter.unusedSimpArgs false
set_option maxRecDepth 100000
theorem implQueryCheck (ts : List Tab) (hl : ts.length ≤ 2000000) (hf : ∀ t, t ∈ ts → t.fits) (q : Qry) (hk : q.ok) : Ent Tryz.prog 9 [.d (dbArg ts), .d (qryD q)] [] (.d (.i .i64 (chkM ts q))) [] := by
  obtain ⟨o, ho⟩ : ∃ o, o = chkM ts q := ⟨_, rfl⟩
  rw [← ho]
  have c1 := implDbRight ts hl hf
  have c2 := implQueryRight q hk
  have c3 : dec (dbP ts) = true → qryOk q = true → Ent Tryz.prog 9 [.d (dbArg ts), .d (qryD q)] [] (.d (.i .i64 (codeQ ts q))) [] := fun h1 h2 => implCheck ts (of_dec h1) (le_max2 hl) q (q_fine h2) (by rw [← h1]; exact c1) (by rw [← h2]; exact c2)
  unfold chkM at ho
  generalize codeQ ts q = c at *
  generalize dec (dbP ts) = b1 at *
  generalize qryOk q = b2 at *
  cases b1 with
  | false =>
    have e : o = 1 := ho
    subst e
    refine ent_of tok mixed (f := 9) Tryz.func9 (by kernel_rfl) (keep := false) ?_
    repeat' ((conv => whnf) <;> (first | ((with_reducible refine isCall ?_) <;> (first | (refine ⟨_, c1, ?_⟩; rintro _ _ ⟨rfl, rfl⟩) | fail)) | ((with_reducible refine isCut ?_) <;> (first | refine ⟨⟨none⟩, ?_⟩)) | ((first | with_reducible refine isEx ?_ | with_reducible refine isAnd ?_ | with_reducible refine isOr ?_) <;> (first | ((with_reducible refine isSmall ?_) <;> (refine ⟨?_, ?_⟩; kernel_rfl)) | refine ⟨rfl, ?_⟩ | refine ⟨Int.natCast_nonneg _, ?_⟩)) | with_reducible refine Both.mk ?_ ?_ | rintro _ rfl | exact rfl | (split <;> (rename_i h; first | (simp only [beq_self_eq_true, eq_self, decide_true, Bool.not_true, Bool.false_eq_true] at h; done) | (try rw [h])))))
    all_goals try (conv => whnf)
    all_goals first | exact ⟨rfl, rfl⟩ | (with_reducible trace_state)
  | true =>
    cases b2 with
    | false =>
      have e : o = 1 := ho
      subst e
      refine ent_of tok mixed (f := 9) Tryz.func9 (by kernel_rfl) (keep := false) ?_
      repeat' ((conv => whnf) <;> (first | ((with_reducible refine isCall ?_) <;> (first | (refine ⟨_, c1, ?_⟩; rintro _ _ ⟨rfl, rfl⟩) | (refine ⟨_, c2, ?_⟩; rintro _ _ ⟨rfl, rfl⟩) | fail)) | ((with_reducible refine isCut ?_) <;> (first | refine ⟨⟨none⟩, ?_⟩)) | ((first | with_reducible refine isEx ?_ | with_reducible refine isAnd ?_ | with_reducible refine isOr ?_) <;> (first | ((with_reducible refine isSmall ?_) <;> (refine ⟨?_, ?_⟩; kernel_rfl)) | refine ⟨rfl, ?_⟩ | refine ⟨Int.natCast_nonneg _, ?_⟩)) | with_reducible refine Both.mk ?_ ?_ | rintro _ rfl | exact rfl | (split <;> (rename_i h; first | (simp only [beq_self_eq_true, eq_self, decide_true, Bool.not_true, Bool.false_eq_true] at h; done) | (try rw [h])))))
      all_goals try (conv => whnf)
      all_goals first | exact ⟨rfl, rfl⟩ | (with_reducible trace_state)
    | true =>
      have e : o = c := ho
      subst e
      exact c3 rfl rfl
theorem own_vals {cs : List Val} (h : cs.length ≤ 2000000) : AllOf isValue (cs.map valD) := ⟨by rw [List.length_map]; exact le_max2 h, fun x hx => by obtain ⟨c, _, rfl⟩ := List.mem_map.1 hx; exact ⟨_, _, _, rfl⟩⟩
theorem own_cols2 {cs : List Col} (h : cs.length ≤ 2000000) : AllOf isColumn (cs.map colD) := ⟨by rw [List.length_map]; exact le_max2 h, fun x hx => by obtain ⟨c, _, rfl⟩ := List.mem_map.1 hx; exact ⟨_, _, _, rfl⟩⟩
theorem own_ints2 {cs : List Int} (h : cs.length ≤ 2000000) : AllOf isInt64 (cs.map i64D) := ⟨by rw [List.length_map]; exact le_max2 h, fun x hx => by obtain ⟨c, _, rfl⟩ := List.mem_map.1 hx; exact ⟨_, rfl⟩⟩
theorem own_idx2 {is : List Idx} (h : is.length ≤ 2000000) (h2 : ∀ i, i ∈ is → i.cols.length ≤ 2000000) : AllOf isIndex (is.map idxD) := ⟨by rw [List.length_map]; exact le_max2 h, fun x hx => by obtain ⟨c, hc, rfl⟩ := List.mem_map.1 hx; exact ⟨_, _, rfl, own_ints2 (h2 c hc)⟩⟩
theorem own_rows {rs : List (List Val)} (h : rs.length ≤ 2000000) (h2 : ∀ r, r ∈ rs → r.length ≤ 2000000) : AllOf isValueS (rs.map rowD) := ⟨by rw [List.length_map]; exact le_max2 h, fun x hx => by obtain ⟨c, hc, rfl⟩ := List.mem_map.1 hx; exact ⟨_, rfl, own_vals (h2 c hc)⟩⟩
theorem own_tabs2 {ts : List Tab} (h : ts.length ≤ 1048576) (h2 : ∀ t, t ∈ ts → szTab t) : AllOf isTable (ts.map tabD) := ⟨by rw [List.length_map]; exact le_max2 (by omega), fun x hx => by
  obtain ⟨t, ht, rfl⟩ := List.mem_map.1 hx
  have hs := h2 t ht
  have s1 := hs.sch.cols
  have s2 := hs.sch.keys
  have s3 := hs.sch.idxs
  have s4 := hs.rows
  exact ⟨_, _, _, _, _, rfl, own_cols2 (by omega), own_ints2 (by omega), own_idx2 (by omega) (fun i hi => Nat.le_trans (hs.sch.lists i hi) (by decide)), own_rows (by omega) fun r hr => Nat.le_trans (hs.row r hr) (by decide)⟩⟩
theorem is_items {l : List Item} (h : l.length ≤ 2000000) : AllOf isItem (l.map itemD) := ⟨by rw [List.length_map]; exact le_max2 h, fun x hx => by obtain ⟨c, _, rfl⟩ := List.mem_map.1 hx; exact ⟨_, _, rfl⟩⟩
theorem is_terms {l : List Term} (h : l.length ≤ 2000000) : AllOf isTerm (l.map termD) := ⟨by rw [List.length_map]; exact le_max2 h, fun x hx => by obtain ⟨c, _, rfl⟩ := List.mem_map.1 hx; exact ⟨_, _, _, _, _, rfl⟩⟩
theorem fit_tab {t : Tab} (h : t.fit2) : t.fits := ⟨h.sch, h.rows, fun r hr => (h.row r hr).1⟩
set_option maxHeartbeats 8000000 in
theorem queryCheckLaw (ts : List Tab) (hl : ts.length ≤ maxLen) (hf : ∀ t, t ∈ ts → t.fit2) (q : Qry) (hq : fitQry q) : Ent Tryz.prog 3 [.d (dbArg ts), .d (qryD q)] [] (.d (.b true)) [] := by
  have c0 := szDbL ts hl hf 1048576 (by decide) (by decide)
  by_cases hw : wl wTab ts ≤ 1048576 ∧ wQry q ≤ 1048576
  · obtain ⟨hw1, hw2⟩ := hw
    obtain ⟨hz1, hz2⟩ := sz_tabs hw1
    obtain ⟨hi1, hi2⟩ := qry_few hw2
    have c1 := specQueryCheck ts (by omega) (fun t ht => fit_tab (hf t ht)) q (qry_ok hw2)
    have c2 := implQueryCheck ts (by omega) (fun t ht => fit_tab (hf t ht)) q (qry_ok hw2)
    have c3 := toDb ts hz1 hz2
    have c4 := toQuery q hi1 hi2
    have c5 : Ent Tryz.prog 10 [.d (dbArg ts), .d (dbArg ts)] [] (.d (.b true)) [] := eqDb _ ⟨_, rfl, own_tabs2 hz1 hz2⟩
    have c6 : Ent Tryz.prog 11 [.d (qryD q), .d (qryD q)] [] (.d (.b true)) [] := eqQuery _ ⟨_, _, _, _, _, _, _, _, _, _, rfl, is_items (by omega), is_terms (by omega)⟩
    unfold dbArg at c1 c2 c5
    rw [← erase_tabs] at c1 c2 c5
    unfold qryD at c1 c2 c6
    generalize chkM ts q = o at *
    refine ent_of tok mixed (f := 3) Tryz.func3 (by kernel_rfl) (keep := false) ?_
    repeat' ((conv => whnf) <;> (first | ((with_reducible refine isCall ?_) <;> (first | (refine ⟨_, c0, ?_⟩; rintro _ _ ⟨r, rfl, rfl, hr0, hr⟩) | (refine ⟨_, (szQuery q hq r (Int.not_lt.1 (of_decide_eq_false (by assumption))) (by omega)), ?_⟩; rintro _ _ ⟨r2, rfl, rfl, hr20, hr2⟩) | (refine ⟨_, c3, ?_⟩; rintro _ _ ⟨rfl, rfl⟩) | (refine ⟨_, c4, ?_⟩; rintro _ _ ⟨rfl, rfl⟩) | (refine ⟨_, c1, ?_⟩; rintro _ _ ⟨rfl, rfl⟩) | (refine ⟨_, c2, ?_⟩; rintro _ _ ⟨rfl, rfl⟩) | (refine ⟨_, c5, ?_⟩; rintro _ _ ⟨rfl, rfl⟩) | (refine ⟨_, c6, ?_⟩; rintro _ _ ⟨rfl, rfl⟩) | fail)) | ((with_reducible refine isCut ?_) <;> (first | refine ⟨⟨none⟩, ?_⟩)) | ((first | with_reducible refine isEx ?_ | with_reducible refine isAnd ?_ | with_reducible refine isOr ?_) <;> (first | ((with_reducible refine isSmall ?_) <;> (refine ⟨?_, ?_⟩; kernel_rfl)) | refine ⟨rfl, ?_⟩ | refine ⟨Int.natCast_nonneg _, ?_⟩)) | with_reducible refine Both.mk ?_ ?_ | rintro _ rfl | exact rfl | (split <;> (rename_i h; first | (simp only [beq_self_eq_true, eq_self, decide_true, Bool.not_true, Bool.false_eq_true] at h; done) | (try rw [h])))))
    all_goals (conv => whnf)
    all_goals trace_state
  ·
    refine ent_of tok mixed (f := 3) Tryz.func3 (by kernel_rfl) (keep := false) ?_
    repeat' ((conv => whnf) <;> (first | ((with_reducible refine isCall ?_) <;> (first | (refine ⟨_, c0, ?_⟩; rintro _ _ ⟨r, rfl, rfl, hr0, hr⟩) | (refine ⟨_, (szQuery q hq r (Int.not_lt.1 (of_decide_eq_false (by assumption))) (by omega)), ?_⟩; rintro _ _ ⟨r2, rfl, rfl, hr20, hr2⟩) | fail)) | ((with_reducible refine isCut ?_) <;> (first | refine ⟨⟨none⟩, ?_⟩)) | ((first | with_reducible refine isEx ?_ | with_reducible refine isAnd ?_ | with_reducible refine isOr ?_) <;> (first | ((with_reducible refine isSmall ?_) <;> (refine ⟨?_, ?_⟩; kernel_rfl)) | refine ⟨rfl, ?_⟩ | refine ⟨Int.natCast_nonneg _, ?_⟩)) | with_reducible refine Both.mk ?_ ?_ | (exfalso; have p1 := Int.not_lt.1 (of_decide_eq_false (by assumption : decide (r < 0) = false)); have p2 := Int.not_lt.1 (of_decide_eq_false (by assumption : decide (r2 < 0) = false)); have q1 := hr p1; have q2 := hr2 p2; exact hw ⟨by omega, by omega⟩) | rintro _ rfl | exact rfl | (split <;> (rename_i h; first | (simp only [beq_self_eq_true, eq_self, decide_true, Bool.not_true, Bool.false_eq_true] at h; done) | (try rw [h])))))
    all_goals (conv => whnf)
    all_goals trace_state
end Go.Pm.Tryz
namespace Go.Proofs.YtgkejadimafgdaaGreat.fnExactQueryCheck
open Go Go.Proofs Go.ChangeShapes Go.WideShapes Go.ChangeAt Go.RowKit Go.Pm
set_option linter.unusedVariables false
set_option maxRecDepth 100000
theorem own : ownKnob Tryz.prog.godebug = none := by kernel_rfl
theorem kids : Kids Tryz.prog (· < Tryz.prog.types.size) := kids_rows (by kernel_rfl) (by kernel_rfl)
theorem full : ∀ t e, t < Tryz.prog.types.size → Tryz.prog.underlying t = some (.slice e) → 0 < Tryz.prog.cellsOf e := slices_full_of Tryz.prog (by kernel_rfl)
theorem sh24 : shOf Tryz.prog 9 24 = some (.agg [.sl Go.Pm.Tryz.tabSh]) := by kernel_rfl
theorem sh28 : shOf Tryz.prog 9 28 = some (Go.Pm.Tryz.qrySh) := by kernel_rfl
theorem lifted (os : Os) (started : os.Started) (H : Type) (enc : TypeId × Value → H) :
    ReturnsInHanded {} Tryz.checked os 3 .any (Rows.fnExactQueryCheckSpec.pre6 enc Tryz.prog Tryz.f3 Rows.fnExactQueryCheckRow.domain false) (Rows.fnExactQueryCheckSpec.post enc Tryz.prog Tryz.f3 false true false false) := by
  refine returnsInHanded_of_change_sized (C := Tryz.checked) own started (by kernel_rfl) Tryz.func3
    (ChangeSpec.witness6 (enc := enc) (C := Tryz.checked) false ⟨#[], #[.agg #[.slice none 0 0], .agg #[.slice none 0 0, .string ⟨#[]⟩, .string ⟨#[]⟩, .string ⟨#[]⟩, .string ⟨#[]⟩, .slice none 0 0, .string ⟨#[]⟩, .string ⟨#[]⟩, .bool false, .int .i64 0]], []⟩ 8 (by kernel_rfl) (by kernel_rfl) (by kernel_rfl) (by kernel_rfl)) ?_
  intro W base args ds gs before hval0 hW hcnd hsz0 _
  have hval : ∀ (j : Nat) t v, Tryz.f3.params[j]? = some t → args[j]? = some v → Value.okWide Tryz.prog W .any base t v := hval0
  have hW' := hW
  obtain ⟨p, q, hA0, hV, rfl, hfz, hnd⟩ := hW
  have hA : DataW.TrodAll enc Tryz.prog W 0 (fun _ => true) true Tryz.f3.params.toList args.toList ds p := hA0
  rw [Tryz.params3] at hA hval
  obtain ⟨rfl, rfl⟩ := trodVars_none hV
  have hA1 := hA
  obtain ⟨v0, v1, d0, d1, p0, p1, rfl, rfl, rfl, h0, h1⟩ := trodAll_two hA
  obtain ⟨x0, hx0, hrep0⟩ := arg_rep (X := noX) (fun b h => h) sh24 (hval 0 24 v0 rfl rfl) h0
  obtain ⟨x1, hx1, hrep1⟩ := arg_rep (X := noX) (fun b h => h) sh28 (hval 1 28 v1 rfl rfl) h1
  obtain ⟨ts, rfl, hl, hf⟩ := Go.Pm.Tryz.db_of hx0
  obtain ⟨q, rfl, hq⟩ := Go.Pm.Tryz.qry_of hx1
  refine (law_calls (Go.Pm.Tryz.queryCheckLaw ts hl hf q hq) (W := W) (args := #[v0, v1]) ?_).mono fun e W' ⟨he, bel⟩ => ?_
  · simp only [AV.repL, AV.rep]; exact ⟨v0, [v1], rfl, hrep0, v1, [], rfl, hrep1, rfl⟩
  subst he
  exact ⟨_, rfl, _, _, _, [], _, [], hW', trodAll_mk1 (shut_bool Tryz.underlying4 _), args_same kids full bel hA1 (by kernel_rfl), rfl, bel.frame _, fun h => by cases h⟩
theorem fact0 : Tryz.prog.inPlace 3 = Rows.fnExactQueryCheckRow.inPlace := by kernel_rfl
theorem fact1 : Tryz.prog.unfollowed 3 = Rows.fnExactQueryCheckRow.unfollowed := by kernel_rfl
theorem fact2 : Tryz.prog.recurses 3 = Rows.fnExactQueryCheckRow.recurses := by kernel_rfl
theorem fact3 : Tryz.prog.varsNamed 3 = Rows.fnExactQueryCheckRow.named := by kernel_rfl
theorem joined : joinedFacts Tryz.prog 3 Tryz.f3 Rows.fnExactQueryCheckSpec Rows.fnExactQueryCheckRow = true := by
  unfold joinedFacts
  rw [fact0, fact1, fact2, fact3]
  kernel_rfl
theorem over : Rows.fnExactQueryCheckRow.holds Tryz.pinned (OpenSpec.ofChange Rows.fnExactQueryCheckSpec) :=
  OpenClaim.holds_of_wide 3 Tryz.f3 rfl rfl rfl rfl rfl rfl rfl ⟨rfl, rfl, rfl, rfl, rfl⟩ rfl rfl rfl rfl rfl (by kernel_rfl) Tryz.func3 joined
    (of_decide_eq_true (by kernel_rfl)) (by unfold Func.isWrapper; first | (rw [if_pos (by decide +kernel)]; kernel_rfl) | (rw [if_neg (by decide +kernel)]; exact ⟨rfl, rfl⟩))
    (fun os started H enc _ => lifted os started H enc)
end Go.Proofs.YtgkejadimafgdaaGreat.fnExactQueryCheck
namespace Go.Proofs.YtgkejadimafgdaaGreat
theorem fnExactQueryCheck_holds : Rows.FnExactQueryCheckSaid := fnExactQueryCheck.over
#print axioms fnExactQueryCheck_holds
end Go.Proofs.YtgkejadimafgdaaGreat
