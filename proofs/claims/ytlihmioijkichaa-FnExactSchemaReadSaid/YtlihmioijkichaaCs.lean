/-
The program's SchemaRead returns what the reference's returns, for all arguments.
-/
import Derived.Test.YtlihmioijkichaaCr
namespace Go.Pm.Try
open Go
theorem str_of {y : D} (h : Sh.str.of y) : ∃ l : List UInt8, y = .s l := by
  simp only [Sh.of] at h
  obtain ⟨l, rfl, _⟩ := h
  exact ⟨l, rfl⟩
end Go.Pm.Try
namespace Go.Proofs.Ytlihmioijkichaa.fnExactSchemaRead
open Go Go.Proofs Go.ChangeShapes Go.WideShapes Go.ChangeAt Go.RowKit Go.Pm
set_option linter.unusedVariables false
set_option maxRecDepth 100000
theorem own : ownKnob Try.prog.godebug = none := by kernel_rfl
theorem kids : Kids Try.prog (· < Try.prog.types.size) := kids_rows (by kernel_rfl) (by kernel_rfl)
theorem full : ∀ t e, t < Try.prog.types.size → Try.prog.underlying t = some (.slice e) → 0 < Try.prog.cellsOf e := slices_full_of Try.prog (by kernel_rfl)
theorem sh9 : shOf Try.prog 6 9 = some (.str) := by kernel_rfl
theorem lifted (os : Os) (started : os.Started) (H : Type) (enc : TypeId × Value → H) :
    ReturnsInHanded {} Try.checked os 3 .any (Rows.fnExactSchemaReadSpec.pre6 enc Try.prog Try.f3 Rows.fnExactSchemaReadRow.domain false) (Rows.fnExactSchemaReadSpec.post enc Try.prog Try.f3 false true false false) := by
  refine returnsInHanded_of_change_sized (C := Try.checked) own started (by kernel_rfl) Try.func3
    (ChangeSpec.witness6 (enc := enc) (C := Try.checked) false ⟨#[], #[.string ⟨#[]⟩], []⟩ 8 (by kernel_rfl) (by kernel_rfl) (by kernel_rfl) (by kernel_rfl)) ?_
  intro W base args ds gs before hval0 hW hcnd hsz0 _
  have hval : ∀ (j : Nat) t v, Try.f3.params[j]? = some t → args[j]? = some v → Value.okWide Try.prog W .any base t v := hval0
  have hW' := hW
  obtain ⟨p, q, hA0, hV, rfl, hfz, hnd⟩ := hW
  have hA : DataW.TrodAll enc Try.prog W 0 (fun _ => true) true Try.f3.params.toList args.toList ds p := hA0
  rw [Try.params3] at hA hval
  obtain ⟨rfl, rfl⟩ := trodVars_none hV
  have hA1 := hA
  obtain ⟨v0, d0, rfl, rfl, h0⟩ := trodAll_one hA
  obtain ⟨x0, hx0, hrep0⟩ := arg_rep (X := noX) (fun b h => h) sh9 (hval 0 9 v0 rfl rfl) h0
  obtain ⟨l, rfl⟩ := Go.Pm.Try.str_of hx0
  refine (law_calls (Go.Pm.Try.schemaReadLaw l) (W := W) (args := #[v0]) ?_).mono fun e W' ⟨he, bel⟩ => ?_
  · simp only [AV.repL, AV.rep]; exact ⟨v0, [], rfl, hrep0, rfl⟩
  subst he
  exact ⟨_, rfl, _, _, _, [], _, [], hW', trodAll_mk1 (shut_bool Try.underlying4 _), args_same kids full bel hA1 (by kernel_rfl), rfl, bel.frame _, fun h => by cases h⟩
theorem over : Rows.fnExactSchemaReadRow.holds Try.pinned (OpenSpec.ofChange Rows.fnExactSchemaReadSpec) :=
  OpenClaim.holds_of_wide 3 Try.f3 rfl rfl rfl rfl rfl rfl rfl ⟨rfl, rfl, rfl, rfl, rfl⟩ rfl rfl rfl rfl rfl (by kernel_rfl) Try.func3 (by kernel_rfl)
    (of_decide_eq_true (by kernel_rfl)) (by unfold Func.isWrapper; first | (rw [if_pos (by decide +kernel)]; kernel_rfl) | (rw [if_neg (by decide +kernel)]; exact ⟨rfl, rfl⟩))
    (fun os started H enc _ => lifted os started H enc)
end Go.Proofs.Ytlihmioijkichaa.fnExactSchemaRead
namespace Go.Proofs.Ytlihmioijkichaa
theorem fnExactSchemaRead_holds : Rows.FnExactSchemaReadSaid := fnExactSchemaRead.over
#print axioms fnExactSchemaRead_holds
end Go.Proofs.Ytlihmioijkichaa

