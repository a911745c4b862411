import Derived.Test.YthkpoggeldnadaaPmU
import Derived.Test.YthkpoggeldnadaaPmQ
import Derived.Test.YthkpoggeldnadaaRows
import Derived.ProofKit
import Derived.OpenShut
import Derived.SizedLaws
import Derived.Laws.BitsLemmas
namespace Go.Pm.Try
open Go Go.Proofs
set_option linter.unusedVariables false
set_option maxRecDepth 100000
def nums (x y z : Int) : Bool := inside x 1 10 && (inside y 0 1000 && inside z 1 1000)
def waits (x y z n : Int) : Int := match nums x y z && inside n 1 10 with | true => IntKind.i64.wrap (y * 2 ^ (min (n - 1).toNat 64)) | false => 0
theorem wrap_i64_id (x : Int) (h1 : -9223372036854775808 ≤ x) (h2 : x ≤ 9223372036854775807) : IntKind.i64.wrap x = x := by rw [IntKind.wrap_i64]; omega
theorem wrap_u64_id (x : Int) (h1 : 0 ≤ x) (h2 : x ≤ 9223372036854775807) : IntKind.u64.wrap x = x := by
  simp only [IntKind.wrap, IntKind.signed, IntKind.bits, Bool.false_and, Bool.false_eq_true, if_false]
  omega
theorem szStep (a b c : List UInt8) (x y z : Int) (left : Int) : EntQ Try.prog 17 [.d (.agg [.s a, .s b, .s c, .i .i64 x, .i .i64 y, .i .i64 z]), .d (.i .i64 left)] [] (fun R O => ∃ r, R = .d (.i .i64 r) ∧ O = []) := by
  refine ent_of tok mixed (f := 17) Try.func17 (by kernel_rfl) (keep := false) ?_
  repeat' ((conv => whnf) <;> (first
    | refine ⟨rfl, ?_⟩
    | (split <;> (rename_i h; try rw [h]))))
  all_goals ((conv => whnf); exact ⟨_, rfl, rfl⟩)
theorem toStep (a b c : List UInt8) (x y z : Int) : Ent Try.prog 19 [.d (.agg [.s a, .s b, .s c, .i .i64 x, .i .i64 y, .i .i64 z])] [] (.d (.agg [.s a, .s b, .s c, .i .i64 x, .i .i64 y, .i .i64 z])) [] := by
  refine ent_of tok mixed (f := 19) Try.func19 (by kernel_rfl) (keep := false) ?_
  repeat' ((conv => whnf) <;> (first
    | refine ⟨rfl, ?_⟩
    | (split <;> (rename_i h; try rw [h]))))
theorem l12Nums (a b c : List UInt8) (x y z : Int) : Ent Try.prog 34 [.d (.agg [.s a, .s b, .s c, .i .i64 x, .i .i64 y, .i .i64 z])] [] (.d (.b (nums x y z))) [] := by
  refine ent_of tok mixed (f := 34) Try.func34 (by kernel_rfl) (keep := false) ?_
  repeat' ((conv => whnf) <;> (first
    | refine ⟨rfl, ?_⟩
    | (refine ⟨_, l12In _ _ _, ?_⟩; rintro _ _ ⟨rfl, rfl⟩)
    | (split <;> (rename_i h; try rw [h]))))
  all_goals (conv => whnf)
  all_goals (refine ⟨congrArg (fun b => AV.d (D.b b)) ?_, rfl⟩; simp [nums, *])
theorem numbersRight (a b c : List UInt8) (x y z : Int) : Ent Try.prog 37 [.d (.agg [.s a, .s b, .s c, .i .i64 x, .i .i64 y, .i .i64 z])] [] (.d (.b (nums x y z))) [] := by
  refine ent_of tok mixed (f := 37) Try.func37 (by kernel_rfl) (keep := false) ?_
  repeat' ((conv => whnf) <;> (first
    | refine ⟨rfl, ?_⟩
    | (refine ⟨_, within _ _ _, ?_⟩; rintro _ _ ⟨rfl, rfl⟩)
    | (split <;> (rename_i h; try rw [h]))))
  all_goals (conv => whnf)
  all_goals (refine ⟨congrArg (fun b => AV.d (D.b b)) ?_, rfl⟩; simp [nums, *])
theorem sh_ok (n : Int) (h : inside n 1 10 = true) : 0 ≤ IntKind.i64.wrap (n - 1) ∧ IntKind.i64.wrap (n - 1) = n - 1 ∧ IntKind.u64.wrap (n - 1) = n - 1 := by
  rw [inside_iff] at h
  have h1 := wrap_i64_id (n - 1) (by omega) (by omega)
  have h2 := wrap_u64_id (n - 1) (by omega) (by omega)
  exact ⟨by omega, h1, h2⟩
theorem l12Wait (a b c : List UInt8) (x y z : Int) (n : Int) (h : inside n 1 10 = true) : Ent Try.prog 36 [.d (.agg [.s a, .s b, .s c, .i .i64 x, .i .i64 y, .i .i64 z]), .d (.i .i64 n)] [] (.d (.i .i64 (IntKind.i64.wrap (y * 2 ^ (min (n - 1).toNat 64))))) [] := by
  refine ent_of tok mixed (f := 36) Try.func36 (by kernel_rfl) (keep := false) ?_
  repeat' ((conv => whnf) <;> (first
    | refine ⟨rfl, ?_⟩
    | refine ⟨by rw [(sh_ok n h).2.1, (sh_ok n h).2.2, ← (sh_ok n h).2.1]; exact (sh_ok n h).1, ?_⟩
    | (split <;> (rename_i h; try rw [h]))))
  all_goals (conv => whnf)
  refine ⟨congrArg (fun x => AV.d (D.i .i64 x)) ?_, rfl⟩
  show IntKind.i64.wrap (y * 2 ^ min (IntKind.u64.wrap (IntKind.i64.wrap (n - 1))).toNat 64) = _
  rw [(sh_ok n h).2.1, (sh_ok n h).2.2]
theorem specWait (a b c : List UInt8) (x y z : Int) (n : Int) : Ent Try.prog 18 [.d (.agg [.s a, .s b, .s c, .i .i64 x, .i .i64 y, .i .i64 z]), .d (.i .i64 n)] [] (.d (.i .i64 (waits x y z n))) [] := by
  refine ent_of tok mixed (f := 18) Try.func18 (by kernel_rfl) (keep := false) ?_
  repeat' ((conv => whnf) <;> (first
    | refine ⟨rfl, ?_⟩
    | (refine ⟨_, l12Nums _ _ _ _ _ _, ?_⟩; rintro _ _ ⟨rfl, rfl⟩)
    | (refine ⟨_, l12In _ _ _, ?_⟩; rintro _ _ ⟨rfl, rfl⟩)
    | (refine ⟨_, l12Wait _ _ _ _ _ _ _ (by simp_all), ?_⟩; rintro _ _ ⟨rfl, rfl⟩)
    | (split <;> (rename_i h; try rw [h]))))
  all_goals (conv => whnf)
  all_goals (refine ⟨congrArg (fun x => AV.d (D.i .i64 x)) ?_, rfl⟩; simp_all [waits])
theorem implWait (a b c : List UInt8) (x y z : Int) (n : Int) : Ent Try.prog 20 [.d (.agg [.s a, .s b, .s c, .i .i64 x, .i .i64 y, .i .i64 z]), .d (.i .i64 n)] [] (.d (.i .i64 (waits x y z n))) [] := by
  refine ent_of tok mixed (f := 20) Try.func20 (by kernel_rfl) (keep := false) ?_
  repeat' ((conv => whnf) <;> (first
    | refine ⟨rfl, ?_⟩
    | (refine ⟨_, numbersRight _ _ _ _ _ _, ?_⟩; rintro _ _ ⟨rfl, rfl⟩)
    | (refine ⟨_, within _ _ _, ?_⟩; rintro _ _ ⟨rfl, rfl⟩)
    | refine ⟨(sh_ok n (by simp_all)).1, ?_⟩
    | (split <;> (rename_i h; try rw [h]))))
  all_goals (conv => whnf)
  · refine ⟨congrArg (fun x => AV.d (D.i .i64 x)) ?_, rfl⟩; simp_all [waits]
  · refine ⟨congrArg (fun x => AV.d (D.i .i64 x)) ?_, rfl⟩; simp_all [waits]
  · refine ⟨congrArg (fun x => AV.d (D.i .i64 x)) ?_, rfl⟩
    show IntKind.i64.wrap (y * 2 ^ min (IntKind.i64.wrap (n - 1)).toNat 64) = _
    rw [(sh_ok n (by simp_all)).2.1]; simp_all [waits]
set_option maxHeartbeats 4000000 in
theorem wait (a b c : List UInt8) (x y z : Int) (n : Int) : Ent Try.prog 5 [.d (.agg [.s a, .s b, .s c, .i .i64 x, .i .i64 y, .i .i64 z]), .d (.i .i64 n)] [] (.d (.b true)) [] := by
  obtain ⟨u, hu⟩ : ∃ u, u = waits x y z n := ⟨_, rfl⟩
  have c1 := specWait a b c x y z n
  have c2 := implWait a b c x y z n
  rw [← hu] at c1 c2
  refine ent_of tok mixed (f := 5) Try.func5 (by kernel_rfl) (keep := false) ?_
  repeat' ((conv => whnf) <;> (first
    | refine ⟨rfl, ?_⟩
    | (refine ⟨_, szStep _ _ _ _ _ _ _, ?_⟩; rintro _ _ ⟨r, rfl, rfl⟩)
    | (refine ⟨_, toStep _ _ _ _ _ _, ?_⟩; rintro _ _ ⟨rfl, rfl⟩)
    | (refine ⟨_, c1, ?_⟩; rintro _ _ ⟨rfl, rfl⟩)
    | (refine ⟨_, c2, ?_⟩; rintro _ _ ⟨rfl, rfl⟩)
    | (split <;> (rename_i h; try rw [h]))))
  all_goals (rename_i h; exact absurd h (by simp only [decide_true, Bool.not_true, Bool.false_eq_true, not_false_eq_true]))
end Go.Pm.Try
namespace Go.Proofs.Ythkpoggeldnadaa.fnExactWait
open Go Go.Proofs Go.ChangeShapes Go.WideShapes Go.ChangeAt Go.RowKit Go.Pm
set_option linter.unusedVariables false
theorem own : ownKnob Try.prog.godebug = none := by kernel_rfl
theorem kids : Kids Try.prog (· < Try.prog.types.size) := kids_rows (by kernel_rfl) (by kernel_rfl)
theorem full : ∀ t e, t < Try.prog.types.size → Try.prog.underlying t = some (.slice e) → 0 < Try.prog.cellsOf e := slices_full_of Try.prog (by kernel_rfl)
theorem sh34 : shOf Try.prog 5 34 = some (.agg [.str, .str, .str, .int .i64, .int .i64, .int .i64]) := by kernel_rfl
theorem sh2 : shOf Try.prog 5 2 = some (.int .i64) := by kernel_rfl
theorem lifted (os : Os) (started : os.Started) (H : Type) (enc : TypeId × Value → H) :
    ReturnsInHanded {} Try.checked os 5 .any (Rows.fnExactWaitSpec.pre6 enc Try.prog Try.f5 Rows.fnExactWaitRow.domain false) (Rows.fnExactWaitSpec.post enc Try.prog Try.f5 false true false false) := by
  refine returnsInHanded_of_change_sized (C := Try.checked) own started (by kernel_rfl) Try.func5
    (ChangeSpec.witness6 (enc := enc) (C := Try.checked) false ⟨#[], #[.agg #[.string ⟨#[]⟩, .string ⟨#[]⟩, .string ⟨#[]⟩, .int .i64 0, .int .i64 0, .int .i64 0], .int .i64 0], []⟩ 8 (by kernel_rfl) (by kernel_rfl) (by kernel_rfl) (by kernel_rfl)) ?_
  intro W base args ds gs before hval0 hW hcnd hsz0 _
  have hval : ∀ (j : Nat) t v, Try.f5.params[j]? = some t → args[j]? = some v → Value.okWide Try.prog W .any base t v := hval0
  have hW' := hW
  obtain ⟨p, q, hA0, hV, rfl, hfz, hnd⟩ := hW
  have hA : DataW.TrodAll enc Try.prog W 0 (fun _ => true) true Try.f5.params.toList args.toList ds p := hA0
  rw [Try.params5] at hA hval
  obtain ⟨rfl, rfl⟩ := trodVars_none hV
  have hA1 := hA
  obtain ⟨v0, v1, d0, d1, p0, p1, rfl, rfl, rfl, h0, h1⟩ := trodAll_two hA
  obtain ⟨x, hx, hrep⟩ := arg_rep (X := noX) (fun b h => h) sh34 (hval 0 34 v0 rfl rfl) h0
  obtain ⟨y, hy, hrep1⟩ := arg_rep (X := noX) (fun b h => h) sh2 (hval 1 2 v1 rfl rfl) h1
  simp only [Sh.of, ofL] at hx hy
  obtain ⟨cs, rfl, x0, r0, rfl, ⟨a, rfl, _⟩, x1, r1, rfl, ⟨b, rfl, _⟩, x2, r2, rfl, ⟨c, rfl, _⟩, x3, r3, rfl, ⟨d, rfl, _⟩, x4, r4, rfl, ⟨e, rfl, _⟩, x5, r5, rfl, ⟨f, rfl, _⟩, rfl⟩ := hx
  obtain ⟨n, rfl, _⟩ := hy
  refine (law_calls (Go.Pm.Try.wait a b c d e f n) (W := W) (args := #[v0, v1]) ?_).mono fun e W' ⟨he, bel⟩ => ?_
  · simp only [AV.repL, AV.rep]; exact ⟨v0, [v1], rfl, hrep, v1, [], rfl, hrep1, rfl⟩
  subst he
  exact ⟨_, rfl, _, _, _, [], _, [], hW', trodAll_mk1 (shut_bool Try.underlying4 _), args_same kids full bel hA1 (by kernel_rfl), rfl, bel.frame _, fun h => by cases h⟩
theorem over : Rows.fnExactWaitRow.holds Try.pinned (OpenSpec.ofChange Rows.fnExactWaitSpec) :=
  OpenClaim.holds_of_wide 5 Try.f5 rfl rfl rfl rfl rfl rfl rfl ⟨rfl, rfl, rfl, rfl, rfl⟩ rfl rfl rfl rfl rfl (by kernel_rfl) Try.func5 (by kernel_rfl)
    (of_decide_eq_true (by kernel_rfl)) (by unfold Func.isWrapper; first | (rw [if_pos (by decide +kernel)]; kernel_rfl) | (rw [if_neg (by decide +kernel)]; exact ⟨rfl, rfl⟩))
    (fun os started H enc _ => lifted os started H enc)
end Go.Proofs.Ythkpoggeldnadaa.fnExactWait
namespace Go.Proofs.Ythkpoggeldnadaa
theorem fnExactWait_holds : Rows.FnExactWaitSaid := fnExactWait.over
#print axioms fnExactWait_holds
end Go.Proofs.Ythkpoggeldnadaa
