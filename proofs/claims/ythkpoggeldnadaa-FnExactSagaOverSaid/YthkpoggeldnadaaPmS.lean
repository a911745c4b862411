import Derived.Test.YthkpoggeldnadaaPmT
import Derived.Test.YthkpoggeldnadaaPmQ
import Derived.Test.YthkpoggeldnadaaRows
import Derived.ProofKit
import Derived.OpenShut
import Derived.SizedLaws
namespace Go.Pm.Try
open Go Go.Proofs
set_option linter.unusedVariables false
theorem within (x lo hi : Int) : Ent Try.prog 32 [.d (.i .i64 x), .d (.i .i64 lo), .d (.i .i64 hi)] [] (.d (.b (decide (lo ≤ x) && decide (x ≤ hi)))) [] := by
  refine ent_of tok mixed (f := 32) Try.func32 (by kernel_rfl) (keep := false) ?_
  repeat' ((conv => whnf) <;> (first
           | refine ⟨rfl, ?_⟩
           | (split <;> (rename_i h; try rw [h]))))
theorem sagaOver (ph : Int) (r : List D) : Ent Try.prog 11 [.d (.agg (.i .i64 ph :: r))] [] (.d (.b (decide (3 ≤ ph) && decide (ph ≤ 5)))) [] := by
  refine ent_of tok mixed (f := 11) Try.func11 (by kernel_rfl) (keep := false) ?_
  repeat' ((conv => whnf) <;> (first
           | refine ⟨rfl, ?_⟩
           | refine ⟨_, _, within _ _ _, ?_⟩
           | (split <;> (rename_i h; try rw [h]))))
theorem sagaOver' (ph : Int) (r : List D) : Ent Try.prog 9 [.d (.agg (.i .i64 ph :: r))] [] (.d (.b (decide (3 ≤ ph) && decide (ph ≤ 5)))) [] := by
  refine ent_of tok mixed (f := 9) Try.func9 (by kernel_rfl) (keep := false) ?_
  repeat' ((conv => whnf) <;> (first
           | refine ⟨rfl, ?_⟩
           | (split <;> (rename_i h; try rw [h]))))
  all_goals ((conv => whnf); refine ⟨congrArg (fun b => AV.d (D.b b)) ?_, rfl⟩; rw [Bool.eq_iff_iff]; simp at *; omega)
theorem toSaga (a b c d f : Int) (e : Bool) :
    Ent Try.prog 10 [.d (.agg [.i .i64 a, .i .i64 b, .i .i64 c, .i .i64 d, .b e, .i .i64 f])] [] (.d (.agg [.i .i64 a, .i .i64 b, .i .i64 c, .i .i64 d, .b e, .i .i64 f])) [] := by
  refine ent_of tok mixed (f := 10) Try.func10 (by kernel_rfl) (keep := false) ?_
  repeat' ((conv => whnf) <;> (first
           | refine ⟨rfl, ?_⟩
           | (split <;> (rename_i h; try rw [h]))))
theorem law (a b c d f : Int) (e : Bool) :
    Ent Try.prog 3 [.d (.agg [.i .i64 a, .i .i64 b, .i .i64 c, .i .i64 d, .b e, .i .i64 f])] [] (.d (.b true)) [] := by
  refine ent_of tok mixed (f := 3) Try.func3 (by kernel_rfl) (keep := false) ?_
  repeat' ((conv => whnf) <;> (first
           | refine ⟨rfl, ?_⟩
           | refine ⟨_, _, toSaga _ _ _ _ _ _, ?_⟩
           | refine ⟨_, _, sagaOver _ _, ?_⟩
           | refine ⟨_, _, sagaOver' _ _, ?_⟩
           | (split <;> (rename_i h; try rw [h]))))
  all_goals (exfalso; simp at *)

end Go.Pm.Try
namespace Go.Proofs.Ythkpoggeldnadaa.fnExactSagaOver
open Go Go.Proofs Go.ChangeShapes Go.WideShapes Go.ChangeAt Go.RowKit Go.Pm
set_option linter.unusedVariables false
theorem own : ownKnob Try.prog.godebug = none := by kernel_rfl
theorem kids : Kids Try.prog (· < Try.prog.types.size) := kids_rows (by kernel_rfl) (by kernel_rfl)
theorem full : ∀ t e, t < Try.prog.types.size → Try.prog.underlying t = some (.slice e) → 0 < Try.prog.cellsOf e := slices_full_of Try.prog (by kernel_rfl)
theorem sh23 : shOf Try.prog 5 23 = some (.agg [.int .i64, .int .i64, .int .i64, .int .i64, .bool, .int .i64]) := by kernel_rfl
theorem lifted (os : Os) (started : os.Started) (H : Type) (enc : TypeId × Value → H) :
    ReturnsInHanded {} Try.checked os 3 .any (Rows.fnExactSagaOverSpec.pre6 enc Try.prog Try.f3 Rows.fnExactSagaOverRow.domain false) (Rows.fnExactSagaOverSpec.post enc Try.prog Try.f3 false true false false) := by
  refine returnsInHanded_of_change_sized (C := Try.checked) own started (by kernel_rfl) Try.func3
    (ChangeSpec.witness6 (enc := enc) (C := Try.checked) false ⟨#[], #[.agg #[.int .i64 0, .int .i64 0, .int .i64 0, .int .i64 0, .bool false, .int .i64 0]], []⟩ 8 (by kernel_rfl) (by kernel_rfl) (by kernel_rfl) (by kernel_rfl)) ?_
  intro W base args ds gs before hval0 hW hcnd hsz0 _
  have hval : ∀ (j : Nat) t v, Try.f3.params[j]? = some t → args[j]? = some v → Value.okWide Try.prog W .any base t v := hval0
  have hW' := hW
  obtain ⟨p, q, hA0, hV, rfl, hfz, hnd⟩ := hW
  have hA : DataW.TrodAll enc Try.prog W 0 (fun _ => true) true Try.f3.params.toList args.toList ds p := hA0
  rw [Try.params3] at hA hval
  obtain ⟨rfl, rfl⟩ := trodVars_none hV
  have hA1 := hA
  obtain ⟨v0, d0, rfl, rfl, h0⟩ := trodAll_one hA
  obtain ⟨x, hx, hrep⟩ := arg_rep (X := noX) (fun b h => h) sh23 (hval 0 23 v0 rfl rfl) h0
  simp only [Sh.of, ofL] at hx
  obtain ⟨cs, rfl, x0, r0, rfl, ⟨a, rfl, _⟩, x1, r1, rfl, ⟨b, rfl, _⟩, x2, r2, rfl, ⟨c, rfl, _⟩, x3, r3, rfl, ⟨d, rfl, _⟩, x4, r4, rfl, ⟨e, rfl⟩, x5, r5, rfl, ⟨f, rfl, _⟩, rfl⟩ := hx
  refine (law_calls (Go.Pm.Try.law a b c d f e) (W := W) (args := #[v0]) ?_).mono fun e W' ⟨he, bel⟩ => ?_
  · simp only [AV.repL, AV.rep]; exact ⟨v0, [], rfl, hrep, rfl⟩
  subst he
  exact ⟨_, rfl, _, _, _, [], _, [], hW', trodAll_mk1 (shut_bool Try.underlying4 _), args_again kids full bel (by intro t ht; rw [List.mem_singleton.1 ht]; decide +kernel) hA1, rfl, bel.frame _, fun h => by cases h⟩
theorem over : Rows.fnExactSagaOverRow.holds Try.pinned (OpenSpec.ofChange Rows.fnExactSagaOverSpec) :=
  OpenClaim.holds_of_wide 3 Try.f3 rfl rfl rfl rfl rfl rfl rfl ⟨rfl, rfl, rfl, rfl, rfl⟩ rfl rfl rfl rfl rfl (by kernel_rfl) Try.func3 (by kernel_rfl)
    (of_decide_eq_true (by kernel_rfl)) (by unfold Func.isWrapper; first | (rw [if_pos (by decide +kernel)]; kernel_rfl) | (rw [if_neg (by decide +kernel)]; exact ⟨rfl, rfl⟩))
    (fun os started H enc _ => lifted os started H enc)
theorem proved : Rows.FnExactSagaOverSaid := over
end Go.Proofs.Ythkpoggeldnadaa.fnExactSagaOver
namespace Go.Proofs.Ythkpoggeldnadaa
theorem fnExactSagaOver_holds : Rows.FnExactSagaOverSaid := fnExactSagaOver.proved
#print axioms fnExactSagaOver_holds
end Go.Proofs.Ythkpoggeldnadaa
