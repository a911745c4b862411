/-
The program's DefRight returns what the reference's returns, for all arguments.
-/
import Derived.Test.YthkpoggeldnadaaPmR5
import Derived.Test.YthkpoggeldnadaaPmQ
import Derived.Test.YthkpoggeldnadaaChecked
import Derived.Test.YthkpoggeldnadaaRows
namespace Go.Pm.Try
open Go Go.Proofs
set_option linter.unusedVariables false
set_option maxHeartbeats 4000000 in
theorem defRight (d : Def) (hd : d.fits) : Ent Try.prog 7 [.d (defD d)] [] (.d (.b true)) [] := by
  obtain ⟨u, hu⟩ : ∃ u, u = defOk d := ⟨_, rfl⟩
  have c1 := specDefRight d hd
  have c2 := implDefRight d hd
  rw [← hu] at c1 c2
  refine ent_of tok mixed (f := 7) Try.func7 (by kernel_rfl) (keep := false) ?_
  repeat' ((conv => whnf) <;> (first
    | (refine ⟨_, szDef d hd, ?_⟩; rintro _ _ ⟨r, rfl, rfl, hr⟩)
    | (refine ⟨_, toDef d (hr (Int.not_lt.1 (of_decide_eq_false (by assumption)))), ?_⟩; rintro _ _ ⟨rfl, rfl⟩)
    | (refine ⟨_, c1, ?_⟩; rintro _ _ ⟨rfl, rfl⟩)
    | (refine ⟨_, c2, ?_⟩; rintro _ _ ⟨rfl, rfl⟩)
    | (refine ⟨_, eqDef d hd, ?_⟩; rintro _ _ ⟨rfl, rfl⟩)
    | refine ⟨rfl, ?_⟩
    | exact rfl
    | (split <;> (rename_i h; try rw [h]))))
  all_goals exact absurd h (by simp)
theorem ex_map {α : Type} {f : α → D} {q : α → Prop} : ∀ {xs : List D}, (∀ y, y ∈ xs → ∃ s, y = f s ∧ q s) → ∃ ss : List α, xs = ss.map f ∧ ∀ s, s ∈ ss → q s
  | [], _ => ⟨[], rfl, fun s h => by cases h⟩
  | x :: xs, h => by
    obtain ⟨s, rfl, hs⟩ := h x (List.mem_cons_self ..)
    obtain ⟨ss, rfl, hss⟩ := ex_map (xs := xs) fun y hy => h y (List.mem_cons_of_mem _ hy)
    refine ⟨s :: ss, rfl, fun t ht => ?_⟩
    rcases List.mem_cons.1 ht with rfl | ht
    · exact hs
    · exact hss t ht
def stepSh : Sh := .agg [.str, .str, .str, .int .i64, .int .i64, .int .i64]
theorem step_of {y : D} (h : stepSh.of y) : ∃ s : Step, y = stepD s ∧ s.fits := by
  simp only [stepSh, Sh.of, ofL] at h
  obtain ⟨cs, rfl, x0, r0, rfl, ⟨a, rfl, ha⟩, x1, r1, rfl, ⟨b, rfl, hb⟩, x2, r2, rfl, ⟨c, rfl, hc⟩, x3, r3, rfl, ⟨d, rfl, _⟩, x4, r4, rfl, ⟨e, rfl, _⟩, x5, r5, rfl, ⟨f, rfl, _⟩, rfl⟩ := h
  exact ⟨⟨a, b, c, d, e, f⟩, rfl, ⟨ha, hb, hc⟩⟩
theorem def_of {y : D} (h : (Sh.agg [.str, .sl stepSh, .int .i64]).of y) : ∃ d : Def, y = defD d ∧ d.fits := by
  simp only [Sh.of, ofL] at h
  obtain ⟨cs, rfl, x0, r0, rfl, ⟨a, rfl, ha⟩, x1, r1, rfl, ⟨b, rfl, hb, hl⟩, x2, r2, rfl, ⟨c, rfl, hc⟩, rfl⟩ := h
  obtain ⟨ss, rfl, hss⟩ := ex_map fun y hy => step_of (hb y hy)
  exact ⟨⟨a, ss, c⟩, rfl, ⟨ha, by simpa using hl, hss⟩⟩
end Go.Pm.Try
namespace Go.Proofs.Ythkpoggeldnadaa.fnExactDefRight
open Go Go.Proofs Go.ChangeShapes Go.WideShapes Go.ChangeAt Go.RowKit Go.Pm
set_option linter.unusedVariables false
theorem own : ownKnob Try.prog.godebug = none := by kernel_rfl
theorem kids : Kids Try.prog (· < Try.prog.types.size) := kids_rows (by kernel_rfl) (by kernel_rfl)
theorem full : ∀ t e, t < Try.prog.types.size → Try.prog.underlying t = some (.slice e) → 0 < Try.prog.cellsOf e := slices_full_of Try.prog (by kernel_rfl)
theorem sh49 : shOf Try.prog 6 49 = some (.agg [.str, .sl Go.Pm.Try.stepSh, .int .i64]) := by kernel_rfl
theorem lifted (os : Os) (started : os.Started) (H : Type) (enc : TypeId × Value → H) :
    ReturnsInHanded {} Try.checked os 7 .any (Rows.fnExactDefRightSpec.pre6 enc Try.prog Try.f7 Rows.fnExactDefRightRow.domain false) (Rows.fnExactDefRightSpec.post enc Try.prog Try.f7 false true false false) := by
  refine returnsInHanded_of_change_sized (C := Try.checked) own started (by kernel_rfl) Try.func7
    (ChangeSpec.witness6 (enc := enc) (C := Try.checked) false ⟨#[], #[.agg #[.string ⟨#[]⟩, .slice none 0 0, .int .i64 0]], []⟩ 8 (by kernel_rfl) (by kernel_rfl) (by kernel_rfl) (by kernel_rfl)) ?_
  intro W base args ds gs before hval0 hW hcnd hsz0 _
  have hval : ∀ (j : Nat) t v, Try.f7.params[j]? = some t → args[j]? = some v → Value.okWide Try.prog W .any base t v := hval0
  have hW' := hW
  obtain ⟨p, q, hA0, hV, rfl, hfz, hnd⟩ := hW
  have hA : DataW.TrodAll enc Try.prog W 0 (fun _ => true) true Try.f7.params.toList args.toList ds p := hA0
  rw [Try.params7] at hA hval
  obtain ⟨rfl, rfl⟩ := trodVars_none hV
  have hA1 := hA
  obtain ⟨v0, d0, rfl, rfl, h0⟩ := trodAll_one hA
  obtain ⟨x0, hx0, hrep0⟩ := arg_rep (X := noX) (fun b h => h) sh49 (hval 0 49 v0 rfl rfl) h0
  obtain ⟨d, rfl, hd⟩ := Go.Pm.Try.def_of hx0
  refine (law_calls (Go.Pm.Try.defRight d hd) (W := W) (args := #[v0]) ?_).mono fun e W' ⟨he, bel⟩ => ?_
  · simp only [AV.repL, AV.rep]; exact ⟨v0, [], rfl, hrep0, rfl⟩
  subst he
  exact ⟨_, rfl, _, _, _, [], _, [], hW', trodAll_mk1 (shut_bool Try.underlying4 _), args_same kids full bel hA1 (by kernel_rfl), rfl, bel.frame _, fun h => by cases h⟩
theorem over : Rows.fnExactDefRightRow.holds Try.pinned (OpenSpec.ofChange Rows.fnExactDefRightSpec) :=
  OpenClaim.holds_of_wide 7 Try.f7 rfl rfl rfl rfl rfl rfl rfl ⟨rfl, rfl, rfl, rfl, rfl⟩ rfl rfl rfl rfl rfl (by kernel_rfl) Try.func7 (by kernel_rfl)
    (of_decide_eq_true (by kernel_rfl)) (by unfold Func.isWrapper; first | (rw [if_pos (by decide +kernel)]; kernel_rfl) | (rw [if_neg (by decide +kernel)]; exact ⟨rfl, rfl⟩))
    (fun os started H enc _ => lifted os started H enc)
end Go.Proofs.Ythkpoggeldnadaa.fnExactDefRight
namespace Go.Proofs.Ythkpoggeldnadaa
theorem fnExactDefRight_holds : Rows.FnExactDefRightSaid := fnExactDefRight.over
#print axioms fnExactDefRight_holds
end Go.Proofs.Ythkpoggeldnadaa
