/-
The program's SagaUndid returns what the reference's returns, for all arguments.
-/
import Derived.Test.YtbenanocioeglaaSl
namespace Go.Proofs.Ytbenanocioeglaa.fnExactSagaUndid
open Go Go.Proofs Go.ChangeShapes Go.WideShapes Go.ChangeAt Go.RowKit Go.Pm
set_option linter.unusedVariables false
set_option maxRecDepth 100000
theorem own : ownKnob Try.prog.godebug = none := by kernel_rfl
theorem kids : Kids Try.prog (· < Try.prog.types.size) := kids_rows (by kernel_rfl) (by kernel_rfl)
theorem full : ∀ t e, t < Try.prog.types.size → Try.prog.underlying t = some (.slice e) → 0 < Try.prog.cellsOf e := slices_full_of Try.prog (by kernel_rfl)
theorem sh24 : shOf Try.prog 6 24 = some (.agg [.str, .sl Go.Pm.Try.stepSh, .int .i64]) := by kernel_rfl
theorem sh51 : shOf Try.prog 6 51 = some (.agg [.int .i64, .int .i64, .int .i64, .int .i64, .bool, .int .i64]) := by kernel_rfl
theorem lifted (os : Os) (started : os.Started) (H : Type) (enc : TypeId × Value → H) :
    ReturnsInHanded {} Try.checked os 6 .any (Rows.fnExactSagaUndidSpec.pre6 enc Try.prog Try.f6 Rows.fnExactSagaUndidRow.domain false) (Rows.fnExactSagaUndidSpec.post enc Try.prog Try.f6 false true false false) := by
  refine returnsInHanded_of_change_sized (C := Try.checked) own started (by kernel_rfl) Try.func6
    (ChangeSpec.witness6 (enc := enc) (C := Try.checked) false ⟨#[], #[.agg #[.string ⟨#[]⟩, .slice none 0 0, .int .i64 0], .agg #[.int .i64 0, .int .i64 0, .int .i64 0, .int .i64 0, .bool false, .int .i64 0]], []⟩ 8 (by kernel_rfl) (by kernel_rfl) (by kernel_rfl) (by kernel_rfl)) ?_
  intro W base args ds gs before hval0 hW hcnd hsz0 _
  have hval : ∀ (j : Nat) t v, Try.f6.params[j]? = some t → args[j]? = some v → Value.okWide Try.prog W .any base t v := hval0
  have hW' := hW
  obtain ⟨p, q, hA0, hV, rfl, hfz, hnd⟩ := hW
  have hA : DataW.TrodAll enc Try.prog W 0 (fun _ => true) true Try.f6.params.toList args.toList ds p := hA0
  rw [Try.params6] at hA hval
  obtain ⟨rfl, rfl⟩ := trodVars_none hV
  have hA1 := hA
  obtain ⟨v0, v1, d0, d1, p0, p1, rfl, rfl, rfl, h0, h1⟩ := trodAll_two hA
  obtain ⟨x0, hx0, hrep0⟩ := arg_rep (X := noX) (fun b h => h) sh24 (hval 0 24 v0 rfl rfl) h0
  obtain ⟨x1, hx1, hrep1⟩ := arg_rep (X := noX) (fun b h => h) sh51 (hval 1 51 v1 rfl rfl) h1
  obtain ⟨d, rfl, hd⟩ := Go.Pm.Try.def_of hx0
  obtain ⟨s, rfl⟩ := Go.Pm.Try.saga_of hx1
  refine (law_calls (Go.Pm.Try.undidLaw d hd s) (W := W) (args := #[v0, v1]) ?_).mono fun e W' ⟨he, bel⟩ => ?_
  · simp only [AV.repL, AV.rep]; exact ⟨v0, [v1], rfl, hrep0, v1, [], rfl, hrep1, rfl⟩
  subst he
  exact ⟨_, rfl, _, _, _, [], _, [], hW', trodAll_mk1 (shut_bool Try.underlying4 _), args_same kids full bel hA1 (by kernel_rfl), rfl, bel.frame _, fun h => by cases h⟩
theorem over : Rows.fnExactSagaUndidRow.holds Try.pinned (OpenSpec.ofChange Rows.fnExactSagaUndidSpec) :=
  OpenClaim.holds_of_wide 6 Try.f6 rfl rfl rfl rfl rfl rfl rfl ⟨rfl, rfl, rfl, rfl, rfl⟩ rfl rfl rfl rfl rfl (by kernel_rfl) Try.func6 (by kernel_rfl)
    (of_decide_eq_true (by kernel_rfl)) (by unfold Func.isWrapper; first | (rw [if_pos (by decide +kernel)]; kernel_rfl) | (rw [if_neg (by decide +kernel)]; exact ⟨rfl, rfl⟩))
    (fun os started H enc _ => lifted os started H enc)
end Go.Proofs.Ytbenanocioeglaa.fnExactSagaUndid
namespace Go.Proofs.Ytbenanocioeglaa
theorem fnExactSagaUndid_holds : Rows.FnExactSagaUndidSaid := fnExactSagaUndid.over
#print axioms fnExactSagaUndid_holds
end Go.Proofs.Ytbenanocioeglaa

