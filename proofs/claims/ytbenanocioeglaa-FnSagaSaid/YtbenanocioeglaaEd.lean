/-
A drawn right saga that is told something goes on as it may: steps are done one by one, made undone the last one first, and never behind the pivot; what it owes is the command that it awaits.
-/
import Derived.Test.YtbenanocioeglaaEc
namespace Go.Proofs.Ytbenanocioeglaa.fnSaga
open Go Go.Proofs Go.ChangeShapes Go.WideShapes Go.ChangeAt Go.RowKit Go.Pm
set_option linter.unusedVariables false
set_option maxRecDepth 100000
theorem own : ownKnob Try.prog.godebug = none := by kernel_rfl
theorem kids : Kids Try.prog (· < Try.prog.types.size) := kids_rows (by kernel_rfl) (by kernel_rfl)
theorem full : ∀ t e, t < Try.prog.types.size → Try.prog.underlying t = some (.slice e) → 0 < Try.prog.cellsOf e := slices_full_of Try.prog (by kernel_rfl)
theorem sh42 : shOf Try.prog 6 42 = some (.sl (.int .u8)) := by kernel_rfl
theorem lifted (os : Os) (started : os.Started) (H : Type) (enc : TypeId × Value → H) :
    ReturnsInHanded {} Try.checked os 12 .any (Rows.fnSagaSpec.pre6 enc Try.prog Try.f12 Rows.fnSagaRow.domain false) (Rows.fnSagaSpec.post enc Try.prog Try.f12 false true false false) := by
  refine returnsInHanded_of_change_sized (C := Try.checked) own started (by kernel_rfl) Try.func12
    (ChangeSpec.witness6 (enc := enc) (C := Try.checked) false ⟨#[], #[.slice none 0 0, .slice none 0 0], []⟩ 8 (by kernel_rfl) (by kernel_rfl) (by kernel_rfl) (by kernel_rfl)) ?_
  intro W base args ds gs before hval0 hW hcnd hsz0 _
  have hval : ∀ (j : Nat) t v, Try.f12.params[j]? = some t → args[j]? = some v → Value.okWide Try.prog W .any base t v := hval0
  have hW' := hW
  obtain ⟨p, q, hA0, hV, rfl, hfz, hnd⟩ := hW
  have hA : DataW.TrodAll enc Try.prog W 0 (fun _ => true) true Try.f12.params.toList args.toList ds p := hA0
  rw [Try.params12] at hA hval
  obtain ⟨rfl, rfl⟩ := trodVars_none hV
  have hA1 := hA
  obtain ⟨v0, v1, d0, d1, p0, p1, rfl, rfl, rfl, h0, h1⟩ := trodAll_two hA
  obtain ⟨x0, hx0, hrep0⟩ := arg_rep (X := noX) (fun b h => h) sh42 (hval 0 42 v0 rfl rfl) h0
  obtain ⟨x1, hx1, hrep1⟩ := arg_rep (X := noX) (fun b h => h) sh42 (hval 1 42 v1 rfl rfl) h1
  obtain ⟨code, rfl⟩ := Go.Pm.Try.bytes_of hx0
  obtain ⟨more, rfl⟩ := Go.Pm.Try.bytes_of hx1
  refine (law_calls (Go.Pm.Try.fnSagaLaw code more) (W := W) (args := #[v0, v1]) ?_).mono fun e W' ⟨he, bel⟩ => ?_
  · simp only [AV.repL, AV.rep]; exact ⟨v0, [v1], rfl, hrep0, v1, [], rfl, hrep1, rfl⟩
  subst he
  exact ⟨_, rfl, _, _, _, [], _, [], hW', trodAll_mk1 (shut_bool Try.underlying4 _), args_same kids full bel hA1 (by kernel_rfl), rfl, bel.frame _, fun h => by cases h⟩
theorem fact0 : Try.prog.inPlace 12 = Rows.fnSagaRow.inPlace := by kernel_rfl
theorem fact1 : Try.prog.unfollowed 12 = Rows.fnSagaRow.unfollowed := by kernel_rfl
theorem fact2 : Try.prog.recurses 12 = Rows.fnSagaRow.recurses := by kernel_rfl
theorem fact3 : Try.prog.varsNamed 12 = Rows.fnSagaRow.named := by kernel_rfl
theorem joined : joinedFacts Try.prog 12 Try.f12 Rows.fnSagaSpec Rows.fnSagaRow = true := by
  unfold joinedFacts
  rw [fact0, fact1, fact2, fact3]
  kernel_rfl
theorem over : Rows.fnSagaRow.holds Try.pinned (OpenSpec.ofChange Rows.fnSagaSpec) :=
  OpenClaim.holds_of_wide 12 Try.f12 rfl rfl rfl rfl rfl rfl rfl ⟨rfl, rfl, rfl, rfl, rfl⟩ rfl rfl rfl rfl rfl (by kernel_rfl) Try.func12 joined
    (of_decide_eq_true (by kernel_rfl)) (by unfold Func.isWrapper; first | (rw [if_pos (by decide +kernel)]; kernel_rfl) | (rw [if_neg (by decide +kernel)]; exact ⟨rfl, rfl⟩))
    (fun os started H enc _ => lifted os started H enc)
end Go.Proofs.Ytbenanocioeglaa.fnSaga
namespace Go.Proofs.Ytbenanocioeglaa
theorem fnSaga_holds : Rows.FnSagaSaid := fnSaga.over
#print axioms fnSaga_holds
end Go.Proofs.Ytbenanocioeglaa

