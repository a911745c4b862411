/-
The program's Truth returns what the reference's returns, for all arguments.
-/
import Derived.Test.YthkpoggeldnadaaPmR8
namespace Go.Pm.Try
open Go Go.Proofs
set_option linter.unusedVariables false
def opHolds (op : List UInt8) (c : Int) : Bool :=
  if op = [61] then decide (c = 0) else if op = [33, 61] then !decide (c = 0) else if op = [60] then decide (c < 0) else if op = [60, 61] then decide (c ≤ 0)
  else if op = [62] then decide (c > 0) else if op = [62, 61] then decide (c ≥ 0) else false
def truth1 (a : Val) (op : List UInt8) (b : Val) : Bool :=
  if op = [105, 115] then decide (a.k = 0) else if decide (a.k = 0) || !decide (a.k = b.k) then false else opHolds op (cmpV a b)
def truth (a : Val) (op : List UInt8) (b : Val) : Bool := ((decide (op.length ≤ 20000) && valOk a) && valOk b) && truth1 a op b
theorem truth_long {a : Val} {op : List UInt8} {b : Val} (h : ¬ op.length ≤ 20000) : truth1 a op b = false := by
  have e : ∀ l : List UInt8, l.length ≤ 2 → ¬ op = l := fun l hl he => h (by subst he; omega)
  simp [truth1, opHolds, e [105, 115], e [61], e [33, 61], e [60], e [60, 61], e [62], e [62, 61]]
theorem truth_eq (a : Val) (op : List UInt8) (b : Val) : truth a op b = ((valOk a && valOk b) && truth1 a op b) := by
  by_cases h : op.length ≤ 20000
  · simp [truth, h]
  · simp [truth, truth_long h]
theorem specTruth1 (a : Val) (op : List UInt8) (b : Val) : Ent Try.prog 39 [.d (valD a), .d (.s op), .d (valD b)] [] (.d (.b (truth1 a op b))) [] := by
  obtain ⟨u, hu⟩ : ∃ u, u = cmpV a b := ⟨_, rfl⟩
  have c1 := l02One a b
  rw [← hu] at c1
  refine ent_of tok mixed (f := 39) Try.func39 (by kernel_rfl) (keep := false) ?_
  repeat' ((conv => whnf) <;> (first
    | refine ⟨rfl, ?_⟩
    | exact rfl
    | (refine ⟨_, c1, ?_⟩; rintro _ _ ⟨rfl, rfl⟩)
    | (split <;> (rename_i h; try rw [h]))))
  all_goals (conv => whnf)
  all_goals (refine ⟨congrArg (fun b => AV.d (D.b b)) ?_, rfl⟩)
  all_goals simp_all [truth1, opHolds]
set_option maxHeartbeats 4000000 in
theorem implTruth (a : Val) (op : List UInt8) (b : Val) : Ent Try.prog 24 [.d (valD a), .d (.s op), .d (valD b)] [] (.d (.b (truth a op b))) [] := by
  obtain ⟨u, hu⟩ : ∃ u, u = cmpV a b := ⟨_, rfl⟩
  have c1 := compareValue a b
  rw [← hu] at c1
  obtain ⟨u2, hu2⟩ : ∃ u, u = valOk a := ⟨_, rfl⟩
  have c2 := implValueRight a
  rw [← hu2] at c2
  obtain ⟨u3, hu3⟩ : ∃ u, u = valOk b := ⟨_, rfl⟩
  have c3 := implValueRight b
  rw [← hu3] at c3
  refine ent_of tok mixed (f := 24) Try.func24 (by kernel_rfl) (keep := false) ?_
  repeat' ((conv => whnf) <;> (first
    | refine ⟨rfl, ?_⟩
    | exact rfl
    | (refine ⟨_, c1, ?_⟩; rintro _ _ ⟨rfl, rfl⟩)
    | (refine ⟨_, c2, ?_⟩; rintro _ _ ⟨rfl, rfl⟩)
    | (refine ⟨_, c3, ?_⟩; rintro _ _ ⟨rfl, rfl⟩)
    | (split <;> (rename_i h; try rw [h]))))
  all_goals (conv => whnf)
  all_goals (refine ⟨congrArg (fun b => AV.d (D.b b)) ?_, rfl⟩)
  all_goals rw [truth_eq]
  all_goals simp_all [truth1, opHolds]
set_option maxHeartbeats 4000000 in
theorem specTruth (a : Val) (op : List UInt8) (b : Val) : Ent Try.prog 22 [.d (valD a), .d (.s op), .d (valD b)] [] (.d (.b (truth a op b))) [] := by
  obtain ⟨u, hu⟩ : ∃ u, u = truth1 a op b := ⟨_, rfl⟩
  have c1 := specTruth1 a op b
  rw [← hu] at c1
  obtain ⟨u2, hu2⟩ : ∃ u, u = valOk a := ⟨_, rfl⟩
  have c2 := specValueRight a
  rw [← hu2] at c2
  obtain ⟨u3, hu3⟩ : ∃ u, u = valOk b := ⟨_, rfl⟩
  have c3 := specValueRight b
  rw [← hu3] at c3
  refine ent_of tok mixed (f := 22) Try.func22 (by kernel_rfl) (keep := false) ?_
  repeat' ((conv => whnf) <;> (first
    | refine ⟨rfl, ?_⟩
    | exact rfl
    | (refine ⟨_, c1, ?_⟩; rintro _ _ ⟨rfl, rfl⟩)
    | (refine ⟨_, c2, ?_⟩; rintro _ _ ⟨rfl, rfl⟩)
    | (refine ⟨_, c3, ?_⟩; rintro _ _ ⟨rfl, rfl⟩)
    | (split <;> (rename_i h; try rw [h]))))
  all_goals (conv => whnf)
  all_goals (refine ⟨congrArg (fun b => AV.d (D.b b)) ?_, rfl⟩)
  all_goals simp_all [truth]
  all_goals (intros; omega)
theorem toValue (a : Val) : Ent Try.prog 23 [.d (valD a)] [] (.d (valD a)) [] := by
  refine ent_of tok mixed (f := 23) Try.func23 (by kernel_rfl) (keep := false) ?_
  repeat' ((conv => whnf) <;> (first
    | refine ⟨rfl, ?_⟩
    | exact rfl
    | (split <;> (rename_i h; try rw [h]))))
theorem szValue (a : Val) (n : Int) : EntQ Try.prog 21 [.d (valD a), .d (.i .i64 n)] [] (fun R O => ∃ r, R = .d (.i .i64 r) ∧ O = []) := by
  refine ent_of tok mixed (f := 21) Try.func21 (by kernel_rfl) (keep := false) ?_
  repeat' ((conv => whnf) <;> (first
    | refine ⟨rfl, ?_⟩
    | exact ⟨_, rfl, rfl⟩
    | (split <;> (rename_i h; try rw [h]))))
set_option maxHeartbeats 4000000 in
theorem truthLaw (a : Val) (op : List UInt8) (b : Val) : Ent Try.prog 6 [.d (valD a), .d (.s op), .d (valD b)] [] (.d (.b true)) [] := by
  obtain ⟨u, hu⟩ : ∃ u, u = truth a op b := ⟨_, rfl⟩
  have c1 := specTruth a op b
  have c2 := implTruth a op b
  rw [← hu] at c1 c2
  refine ent_of tok mixed (f := 6) Try.func6 (by kernel_rfl) (keep := false) ?_
  repeat' ((conv => whnf) <;> (first
    | refine ⟨rfl, ?_⟩
    | exact rfl
    | (refine ⟨_, c1, ?_⟩; rintro _ _ ⟨rfl, rfl⟩)
    | (refine ⟨_, c2, ?_⟩; rintro _ _ ⟨rfl, rfl⟩)
    | (refine ⟨_, szValue _ _, ?_⟩; rintro _ _ ⟨r, rfl, rfl⟩)
    | (refine ⟨_, toValue a, ?_⟩; rintro _ _ ⟨rfl, rfl⟩)
    | (refine ⟨_, toValue b, ?_⟩; rintro _ _ ⟨rfl, rfl⟩)
    | (split <;> (rename_i h; try rw [h]))))
  all_goals exact absurd h (by simp)
def valSh : Sh := .agg [.int .i64, .int .i64, .str]
structure Val.fits (v : Val) : Prop where
  s : v.s.length ≤ maxLen
  k : IntKind.i64.min ≤ v.k ∧ v.k ≤ IntKind.i64.max
  n : IntKind.i64.min ≤ v.n ∧ v.n ≤ IntKind.i64.max
theorem val_of {y : D} (h : valSh.of y) : ∃ v : Val, y = valD v ∧ v.fits := by
  simp only [valSh, Sh.of, ofL] at h
  obtain ⟨cs, rfl, x0, r0, rfl, ⟨a, rfl, ha⟩, x1, r1, rfl, ⟨b, rfl, hb⟩, x2, r2, rfl, ⟨c, rfl, hc⟩, rfl⟩ := h
  exact ⟨⟨a, b, c⟩, rfl, ⟨hc, ha, hb⟩⟩
theorem str_of {y : D} (h : Sh.str.of y) : ∃ l : List UInt8, y = .s l ∧ l.length ≤ maxLen := by
  simp only [Sh.of] at h
  exact h
end Go.Pm.Try
namespace Go.Proofs.Ythkpoggeldnadaa.fnExactTruth
open Go Go.Proofs Go.ChangeShapes Go.WideShapes Go.ChangeAt Go.RowKit Go.Pm
set_option linter.unusedVariables false
theorem own : ownKnob Try.prog.godebug = none := by kernel_rfl
theorem kids : Kids Try.prog (· < Try.prog.types.size) := kids_rows (by kernel_rfl) (by kernel_rfl)
theorem full : ∀ t e, t < Try.prog.types.size → Try.prog.underlying t = some (.slice e) → 0 < Try.prog.cellsOf e := slices_full_of Try.prog (by kernel_rfl)
theorem sh9 : shOf Try.prog 6 9 = some (.str) := by kernel_rfl
theorem sh41 : shOf Try.prog 6 41 = some (Go.Pm.Try.valSh) := by kernel_rfl
theorem lifted (os : Os) (started : os.Started) (H : Type) (enc : TypeId × Value → H) :
    ReturnsInHanded {} Try.checked os 6 .any (Rows.fnExactTruthSpec.pre6 enc Try.prog Try.f6 Rows.fnExactTruthRow.domain false) (Rows.fnExactTruthSpec.post enc Try.prog Try.f6 false true false false) := by
  refine returnsInHanded_of_change_sized (C := Try.checked) own started (by kernel_rfl) Try.func6
    (ChangeSpec.witness6 (enc := enc) (C := Try.checked) false ⟨#[], #[.agg #[.int .i64 0, .int .i64 0, .string ⟨#[]⟩], .string ⟨#[]⟩, .agg #[.int .i64 0, .int .i64 0, .string ⟨#[]⟩]], []⟩ 8 (by kernel_rfl) (by kernel_rfl) (by kernel_rfl) (by kernel_rfl)) ?_
  intro W base args ds gs before hval0 hW hcnd hsz0 _
  have hval : ∀ (j : Nat) t v, Try.f6.params[j]? = some t → args[j]? = some v → Value.okWide Try.prog W .any base t v := hval0
  have hW' := hW
  obtain ⟨p, q, hA0, hV, rfl, hfz, hnd⟩ := hW
  have hA : DataW.TrodAll enc Try.prog W 0 (fun _ => true) true Try.f6.params.toList args.toList ds p := hA0
  rw [Try.params6] at hA hval
  obtain ⟨rfl, rfl⟩ := trodVars_none hV
  have hA1 := hA
  obtain ⟨v0, v1, v2, d0, d1, d2, p0, p1, p2, rfl, rfl, rfl, h0, h1, h2⟩ := trodAll_three hA
  obtain ⟨x0, hx0, hrep0⟩ := arg_rep (X := noX) (fun b h => h) sh41 (hval 0 41 v0 rfl rfl) h0
  obtain ⟨x1, hx1, hrep1⟩ := arg_rep (X := noX) (fun b h => h) sh9 (hval 1 9 v1 rfl rfl) h1
  obtain ⟨x2, hx2, hrep2⟩ := arg_rep (X := noX) (fun b h => h) sh41 (hval 2 41 v2 rfl rfl) h2
  obtain ⟨a, rfl, _⟩ := Go.Pm.Try.val_of hx0
  obtain ⟨op, rfl, _⟩ := Go.Pm.Try.str_of hx1
  obtain ⟨b, rfl, _⟩ := Go.Pm.Try.val_of hx2
  refine (law_calls (Go.Pm.Try.truthLaw a op b) (W := W) (args := #[v0, v1, v2]) ?_).mono fun e W' ⟨he, bel⟩ => ?_
  · simp only [AV.repL, AV.rep]; exact ⟨v0, [v1, v2], rfl, hrep0, v1, [v2], rfl, hrep1, v2, [], rfl, hrep2, rfl⟩
  subst he
  exact ⟨_, rfl, _, _, _, [], _, [], hW', trodAll_mk1 (shut_bool Try.underlying4 _), args_same kids full bel hA1 (by kernel_rfl), rfl, bel.frame _, fun h => by cases h⟩
theorem over : Rows.fnExactTruthRow.holds Try.pinned (OpenSpec.ofChange Rows.fnExactTruthSpec) :=
  OpenClaim.holds_of_wide 6 Try.f6 rfl rfl rfl rfl rfl rfl rfl ⟨rfl, rfl, rfl, rfl, rfl⟩ rfl rfl rfl rfl rfl (by kernel_rfl) Try.func6 (by kernel_rfl)
    (of_decide_eq_true (by kernel_rfl)) (by unfold Func.isWrapper; first | (rw [if_pos (by decide +kernel)]; kernel_rfl) | (rw [if_neg (by decide +kernel)]; exact ⟨rfl, rfl⟩))
    (fun os started H enc _ => lifted os started H enc)
end Go.Proofs.Ythkpoggeldnadaa.fnExactTruth
namespace Go.Proofs.Ythkpoggeldnadaa
theorem fnExactTruth_holds : Rows.FnExactTruthSaid := fnExactTruth.over
#print axioms fnExactTruth_holds
end Go.Proofs.Ythkpoggeldnadaa
