/-
The program's DefBytes returns what the reference's returns, for all arguments.
-/
import Derived.Test.YtbenanocioeglaaBe
namespace Go.Proofs.Ytbenanocioeglaa.fnExactDefBytes
open Go Go.Proofs Go.ChangeShapes Go.WideShapes Go.ChangeAt Go.RowKit Go.Pm
set_option linter.unusedVariables false
set_option maxRecDepth 100000
theorem own : ownKnob Try.prog.godebug = none := by kernel_rfl
theorem kids : Kids Try.prog (· < Try.prog.types.size) := kids_rows (by kernel_rfl) (by kernel_rfl)
theorem full : ∀ t e, t < Try.prog.types.size → Try.prog.underlying t = some (.slice e) → 0 < Try.prog.cellsOf e := slices_full_of Try.prog (by kernel_rfl)
theorem sh24 : shOf Try.prog 6 24 = some (.agg [.str, .sl Go.Pm.Try.stepSh, .int .i64]) := by kernel_rfl
theorem lifted (os : Os) (started : os.Started) (H : Type) (enc : TypeId × Value → H) :
    ReturnsInHanded {} Try.checked os 4 .any (Rows.fnExactDefBytesSpec.pre6 enc Try.prog Try.f4 Rows.fnExactDefBytesRow.domain false) (Rows.fnExactDefBytesSpec.post enc Try.prog Try.f4 false true false false) := by
  refine returnsInHanded_of_change_sized (C := Try.checked) own started (by kernel_rfl) Try.func4
    (ChangeSpec.witness6 (enc := enc) (C := Try.checked) false ⟨#[], #[.agg #[.string ⟨#[]⟩, .slice none 0 0, .int .i64 0]], []⟩ 8 (by kernel_rfl) (by kernel_rfl) (by kernel_rfl) (by kernel_rfl)) ?_
  intro W base args ds gs before hval0 hW hcnd hsz0 _
  have hval : ∀ (j : Nat) t v, Try.f4.params[j]? = some t → args[j]? = some v → Value.okWide Try.prog W .any base t v := hval0
  have hW' := hW
  obtain ⟨p, q, hA0, hV, rfl, hfz, hnd⟩ := hW
  have hA : DataW.TrodAll enc Try.prog W 0 (fun _ => true) true Try.f4.params.toList args.toList ds p := hA0
  rw [Try.params4] at hA hval
  obtain ⟨rfl, rfl⟩ := trodVars_none hV
  have hA1 := hA
  obtain ⟨v0, d0, rfl, rfl, h0⟩ := trodAll_one hA
  obtain ⟨x0, hx0, hrep0⟩ := arg_rep (X := noX) (fun b h => h) sh24 (hval 0 24 v0 rfl rfl) h0
  obtain ⟨d, rfl, hd⟩ := Go.Pm.Try.def_of hx0
  refine (law_calls (Go.Pm.Try.defBytesLaw d hd) (W := W) (args := #[v0]) ?_).mono fun e W' ⟨he, bel⟩ => ?_
  · simp only [AV.repL, AV.rep]; exact ⟨v0, [], rfl, hrep0, rfl⟩
  subst he
  exact ⟨_, rfl, _, _, _, [], _, [], hW', trodAll_mk1 (shut_bool Try.underlying4 _), args_same kids full bel hA1 (by kernel_rfl), rfl, bel.frame _, fun h => by cases h⟩
theorem fact0 : Try.prog.inPlace 4 = Rows.fnExactDefBytesRow.inPlace := by kernel_rfl
theorem fact1 : Try.prog.unfollowed 4 = Rows.fnExactDefBytesRow.unfollowed := by kernel_rfl
theorem fact2 : Try.prog.recurses 4 = Rows.fnExactDefBytesRow.recurses := by kernel_rfl
theorem fact3 : Try.prog.varsNamed 4 = Rows.fnExactDefBytesRow.named := by kernel_rfl
theorem joined : joinedFacts Try.prog 4 Try.f4 Rows.fnExactDefBytesSpec Rows.fnExactDefBytesRow = true := by
  unfold joinedFacts
  rw [fact0, fact1, fact2, fact3]
  kernel_rfl
theorem over : Rows.fnExactDefBytesRow.holds Try.pinned (OpenSpec.ofChange Rows.fnExactDefBytesSpec) :=
  OpenClaim.holds_of_wide 4 Try.f4 rfl rfl rfl rfl rfl rfl rfl ⟨rfl, rfl, rfl, rfl, rfl⟩ rfl rfl rfl rfl rfl (by kernel_rfl) Try.func4 joined
    (of_decide_eq_true (by kernel_rfl)) (by unfold Func.isWrapper; first | (rw [if_pos (by decide +kernel)]; kernel_rfl) | (rw [if_neg (by decide +kernel)]; exact ⟨rfl, rfl⟩))
    (fun os started H enc _ => lifted os started H enc)
end Go.Proofs.Ytbenanocioeglaa.fnExactDefBytes
namespace Go.Proofs.Ytbenanocioeglaa
theorem fnExactDefBytes_holds : Rows.FnExactDefBytesSaid := fnExactDefBytes.over
#print axioms fnExactDefBytes_holds
end Go.Proofs.Ytbenanocioeglaa

