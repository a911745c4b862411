/-
The program's EngineRight returns what the reference's returns, for all arguments.
-/
import Derived.Test.YtdhogadndcjjlaaGreatKwn
namespace Go.Pm.Tryz
open Go Go.Proofs
set_option linter.unusedVariables false
set_option linter.unusedSimpArgs false
set_option maxRecDepth 100000
theorem implEngineRight (s : Sto) (hs : s.fits) : Ent Tryz.prog 10 [.d (stoD s)] [] (.d (.b (engOk s))) [] := by
  have c1 := implReadR s hs
  refine ent_of tok mixed (f := 10) Tryz.func10 (by kernel_rfl) (keep := false) ?_
  repeat' ((conv => whnf) <;> (first | ((with_reducible refine isCall ?_) <;> (first | (refine ⟨_, c1, ?_⟩; rintro _ _ (⟨h1, a, b, c, d, h2, hE, h3, rfl, rfl⟩ | ⟨h1, (⟨rfl, rfl⟩ | ⟨x, y, ys, rfl, rfl⟩)⟩)) | fail)) | ((with_reducible refine isCut ?_) <;> (first | refine ⟨⟨none⟩, ?_⟩)) | ((first | with_reducible refine isEx ?_ | with_reducible refine isAnd ?_ | with_reducible refine isOr ?_) <;> (first | ((with_reducible refine isSmall ?_) <;> (refine ⟨?_, ?_⟩; kernel_rfl)) | refine ⟨rfl, ?_⟩ | refine ⟨Int.natCast_nonneg _, ?_⟩)) | with_reducible refine Both.mk ?_ ?_ | rintro _ rfl | exact rfl | (split <;> (rename_i h; first | (simp only [beq_self_eq_true, eq_self, decide_true, Bool.not_true, Bool.false_eq_true] at h; done) | (try rw [h])))))
  all_goals (conv => whnf)
  all_goals exact ⟨by rw [h1], rfl⟩
set_option maxHeartbeats 8000000 in
theorem engineRightLaw (s : Sto) (hf : s.fit2) : Ent Tryz.prog 3 [.d (stoD s)] [] (.d (.b true)) [] := by
  have c0 := szStore s hf 1048576 (by decide) (by decide)
  by_cases hw : wSto s ≤ 1048576
  · have hz := sz_sto hw
    have hs := sto_fits hw hf
    have c1 := specEngineRight s hs
    have c2 := implEngineRight s hs
    have c3 := toStore s hz
    have c5 := eq_sto hz
    unfold stoD at c1 c2 c5
    rw [← erase_tabs] at c1 c2 c5
    generalize engOk s = o at *
    refine ent_of tok mixed (f := 3) Tryz.func3 (by kernel_rfl) (keep := false) ?_
    repeat' ((conv => whnf) <;> (first | ((with_reducible refine isCall ?_) <;> (first | (refine ⟨_, c0, ?_⟩; rintro _ _ ⟨r, rfl, rfl, hr0, hr⟩) | (refine ⟨_, c3, ?_⟩; rintro _ _ ⟨rfl, rfl⟩) | (refine ⟨_, c1, ?_⟩; rintro _ _ ⟨rfl, rfl⟩) | (refine ⟨_, c2, ?_⟩; rintro _ _ ⟨rfl, rfl⟩) | (refine ⟨_, c5, ?_⟩; rintro _ _ ⟨rfl, rfl⟩) | fail)) | ((with_reducible refine isCut ?_) <;> (first | refine ⟨⟨none⟩, ?_⟩)) | ((first | with_reducible refine isEx ?_ | with_reducible refine isAnd ?_ | with_reducible refine isOr ?_) <;> (first | ((with_reducible refine isSmall ?_) <;> (refine ⟨?_, ?_⟩; kernel_rfl)) | refine ⟨rfl, ?_⟩ | refine ⟨Int.natCast_nonneg _, ?_⟩)) | with_reducible refine Both.mk ?_ ?_ | rintro _ rfl | exact rfl | (split <;> (rename_i h; first | (simp only [beq_self_eq_true, eq_self, decide_true, Bool.not_true, Bool.false_eq_true] at h; done) | (try rw [h])))))
    all_goals (conv => whnf)
    all_goals trace_state
  ·
    refine ent_of tok mixed (f := 3) Tryz.func3 (by kernel_rfl) (keep := false) ?_
    repeat' ((conv => whnf) <;> (first | ((with_reducible refine isCall ?_) <;> (first | (refine ⟨_, c0, ?_⟩; rintro _ _ ⟨r, rfl, rfl, hr0, hr⟩) | fail)) | ((with_reducible refine isCut ?_) <;> (first | refine ⟨⟨none⟩, ?_⟩)) | ((first | with_reducible refine isEx ?_ | with_reducible refine isAnd ?_ | with_reducible refine isOr ?_) <;> (first | ((with_reducible refine isSmall ?_) <;> (refine ⟨?_, ?_⟩; kernel_rfl)) | refine ⟨rfl, ?_⟩ | refine ⟨Int.natCast_nonneg _, ?_⟩)) | with_reducible refine Both.mk ?_ ?_ | (exfalso; have p1 := Int.not_lt.1 (of_decide_eq_false (by assumption : decide (r < 0) = false)); have q1 := hr p1; exact hw (by omega)) | rintro _ rfl | exact rfl | (split <;> (rename_i h; first | (simp only [beq_self_eq_true, eq_self, decide_true, Bool.not_true, Bool.false_eq_true] at h; done) | (try rw [h])))))
    all_goals (conv => whnf)
    all_goals trace_state
end Go.Pm.Tryz
namespace Go.Proofs.YtdhogadndcjjlaaGreat.fnExactEngineRight
open Go Go.Proofs Go.ChangeShapes Go.WideShapes Go.ChangeAt Go.RowKit Go.Pm
set_option linter.unusedVariables false
set_option maxRecDepth 100000
theorem own : ownKnob Tryz.prog.godebug = none := by kernel_rfl
theorem kids : Kids Tryz.prog (· < Tryz.prog.types.size) := kids_rows (by kernel_rfl) (by kernel_rfl)
theorem full : ∀ t e, t < Tryz.prog.types.size → Tryz.prog.underlying t = some (.slice e) → 0 < Tryz.prog.cellsOf e := slices_full_of Tryz.prog (by kernel_rfl)
theorem sh30 : shOf Tryz.prog 9 30 = some (Go.Pm.Tryz.stoSh) := by kernel_rfl
theorem lifted (os : Os) (started : os.Started) (H : Type) (enc : TypeId × Value → H) :
    ReturnsInHanded {} Tryz.checked os 3 .any (Rows.fnExactEngineRightSpec.pre6 enc Tryz.prog Tryz.f3 Rows.fnExactEngineRightRow.domain false) (Rows.fnExactEngineRightSpec.post enc Tryz.prog Tryz.f3 false true false false) := by
  refine returnsInHanded_of_change_sized (C := Tryz.checked) own started (by kernel_rfl) Tryz.func3
    (ChangeSpec.witness6 (enc := enc) (C := Tryz.checked) false ⟨#[], #[.agg #[.slice none 0 0, .slice none 0 0, .slice none 0 0, .int .i64 0, .int .i64 0]], []⟩ 8 (by kernel_rfl) (by kernel_rfl) (by kernel_rfl) (by kernel_rfl)) ?_
  intro W base args ds gs before hval0 hW hcnd hsz0 _
  have hval : ∀ (j : Nat) t v, Tryz.f3.params[j]? = some t → args[j]? = some v → Value.okWide Tryz.prog W .any base t v := hval0
  have hW' := hW
  obtain ⟨p, q, hA0, hV, rfl, hfz, hnd⟩ := hW
  have hA : DataW.TrodAll enc Tryz.prog W 0 (fun _ => true) true Tryz.f3.params.toList args.toList ds p := hA0
  rw [Tryz.params3] at hA hval
  obtain ⟨rfl, rfl⟩ := trodVars_none hV
  have hA1 := hA
  obtain ⟨v0, d0, rfl, rfl, h0⟩ := trodAll_one hA
  obtain ⟨x0, hx0, hrep0⟩ := arg_rep (X := noX) (fun b h => h) sh30 (hval 0 30 v0 rfl rfl) h0
  obtain ⟨s, rfl, hf⟩ := Go.Pm.Tryz.sto_of hx0
  refine (law_calls (Go.Pm.Tryz.engineRightLaw s hf) (W := W) (args := #[v0]) ?_).mono fun e W' ⟨he, bel⟩ => ?_
  · simp only [AV.repL, AV.rep]; exact ⟨v0, [], rfl, hrep0, rfl⟩
  subst he
  exact ⟨_, rfl, _, _, _, [], _, [], hW', trodAll_mk1 (shut_bool Tryz.underlying4 _), args_same kids full bel hA1 (by kernel_rfl), rfl, bel.frame _, fun h => by cases h⟩
theorem fact0 : Tryz.prog.inPlace 3 = Rows.fnExactEngineRightRow.inPlace := by kernel_rfl
theorem fact1 : Tryz.prog.unfollowed 3 = Rows.fnExactEngineRightRow.unfollowed := by kernel_rfl
theorem fact2 : Tryz.prog.recurses 3 = Rows.fnExactEngineRightRow.recurses := by kernel_rfl
theorem fact3 : Tryz.prog.varsNamed 3 = Rows.fnExactEngineRightRow.named := by kernel_rfl
theorem joined : joinedFacts Tryz.prog 3 Tryz.f3 Rows.fnExactEngineRightSpec Rows.fnExactEngineRightRow = true := by
  unfold joinedFacts
  rw [fact0, fact1, fact2, fact3]
  kernel_rfl
theorem over : Rows.fnExactEngineRightRow.holds Tryz.pinned (OpenSpec.ofChange Rows.fnExactEngineRightSpec) :=
  OpenClaim.holds_of_wide 3 Tryz.f3 rfl rfl rfl rfl rfl rfl rfl ⟨rfl, rfl, rfl, rfl, rfl⟩ rfl rfl rfl rfl rfl (by kernel_rfl) Tryz.func3 joined
    (of_decide_eq_true (by kernel_rfl)) (by unfold Func.isWrapper; first | (rw [if_pos (by decide +kernel)]; kernel_rfl) | (rw [if_neg (by decide +kernel)]; exact ⟨rfl, rfl⟩))
    (fun os started H enc _ => lifted os started H enc)
end Go.Proofs.YtdhogadndcjjlaaGreat.fnExactEngineRight
namespace Go.Proofs.YtdhogadndcjjlaaGreat
theorem fnExactEngineRight_holds : Rows.FnExactEngineRightSaid := fnExactEngineRight.over
#print axioms fnExactEngineRight_holds
end Go.Proofs.YtdhogadndcjjlaaGreat
