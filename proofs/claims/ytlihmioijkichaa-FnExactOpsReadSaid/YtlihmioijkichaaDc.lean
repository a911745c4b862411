/-
The program's OpsRead returns what the reference's returns, for all arguments.
-/
import Derived.Test.YtlihmioijkichaaDa
namespace Go.Pm.Try
open Go Go.Proofs
set_option linter.unusedVariables false
set_option linter.unusedSimpArgs false
set_option maxRecDepth 100000
theorem cnt_vals : ∀ vs : List Val, cntL (vs.map valD) = 3 * vs.length
  | [] => rfl
  | c :: cs => by simp only [List.map_cons, cntL, valD, cntD, cnt_vals cs, List.length_cons]; omega
theorem cnt_same : ∀ is : List Idx, cntL (is.map idxD) = cntL (is.map idxO)
  | [] => rfl
  | i :: is => by simp only [List.map_cons, cntL, idxO, idxD, cntD, cnt_same is]
theorem cnt_op {o : Op} (h : o.small) : cntD (opO o) ≤ 200 := by
  have n1 := cnt_cols o.sch.cols
  have n2 := cnt_ints o.sch.keys
  have n3 := cnt_idx o.sch.idxs h.sch.lists
  have n4 := cnt_vals o.row
  have s1 := h.sch.cols
  have s2 := h.sch.keys
  have s3 := h.sch.idxs
  have s4 := h.row
  simp only [opO, cntD, cntL]
  omega
theorem cnt_ops : ∀ os : List Op, (∀ o, o ∈ os → o.small) → cntL (os.map opO) ≤ 200 * os.length
  | [], _ => Nat.le_refl _
  | o :: os, h => by
    have h1 := cnt_op (h o (List.mem_cons_self ..))
    have h2 := cnt_ops os fun j hj => h j (List.mem_cons_of_mem _ hj)
    simp only [List.map_cons, cntL, List.length_cons]
    omega
theorem own_vals {cs : List Val} (h : cs.length ≤ 1000000) : AllOf ownValue (cs.map valD) := ⟨by rw [List.length_map]; exact le_max h, fun x hx => by obtain ⟨c, _, rfl⟩ := List.mem_map.1 hx; exact ⟨_, _, _, rfl⟩⟩
theorem own_ops {os : List Op} (h : os.length ≤ 1000000) (h2 : ∀ o, o ∈ os → o.small) : AllOf ownOp (os.map opO) := ⟨by rw [List.length_map]; exact le_max h, fun x hx => by
  obtain ⟨o, ho, rfl⟩ := List.mem_map.1 hx
  have hs := h2 o ho
  have s1 := hs.sch.cols
  have s2 := hs.sch.keys
  have s3 := hs.sch.idxs
  have s4 := hs.row
  exact ⟨_, _, _, _, _, _, _, rfl, own_cols (by omega), own_ints (by omega), own_idx (by omega) fun i hi => Nat.le_trans (hs.sch.lists i hi) (by decide), own_vals (by omega)⟩⟩
set_option maxHeartbeats 4000000 in
theorem opsReadLaw (l : List UInt8) : Ent Try.prog 5 [.d (.s l)] [] (.d (.b true)) [] := by
  obtain ⟨hl, hs⟩ := opsOut_small l
  have c1 := specOpsRead l
  have c2 := implOpsReadOut l
  generalize opsOutM l = o at *
  have n1 := cnt_ops o.ops hs
  have h1 : AllOf ownOp (o.ops.map opO) := own_ops (by omega) hs
  have h1e : AllOf isOp (o.ops.map opD) := by rw [← erase_ops]; exact h1.erase fun _ => eraseOp
  have f1 : Fine (o.ops.map opO) 1 := ⟨by decide, by omega⟩
  have e1 := erase_mkL (o.ops.map opO) 1
  have q1 := ctL_eq (o.ops.map opO) f1.lo f1.hi
  have f1e : Fine (o.ops.map opD) 1 := by
    refine ⟨by decide, ?_⟩
    have : cntL (o.ops.map opD) = cntL (o.ops.map opO) := by
      clear q1 e1 f1 h1 h1e c1 c2
      generalize o.ops = os
      induction os with
      | nil => rfl
      | cons x xs ih => simp only [List.map_cons, cntL, ih, opO, opD, cntD, cnt_same]
    rw [this]; omega
  have c3 : Ent Try.prog 22 [.d (.agg [.sl false (eraseL (o.ops.map opO)), .i .i64 o.code]), .d (opsOutD o)] [] (.d (.b true)) [] := by
    rw [erase_ops]; exact eqOpsOut _ ⟨_, _, rfl, h1e⟩
  have c4 := markOpsOut _ o.code h1 1 (by decide)
  have c5 := heldOpsOut _ o.code h1e 1 f1e
  rw [← erase_ops, ← e1.1, e1.2] at c5
  have hq := f1.out
  generalize ctL (o.ops.map opO) 1 = q at *
  have hpos : ¬ q < 0 := by omega
  refine ent_of (cx := ⟨tab, [23], []⟩) tok mixed (f := 5) Try.func5 (by kernel_rfl) (keep := false) ?_
  repeat' ((conv => whnf) <;> (first
    | ((with_reducible refine isCall ?_) <;> (first
        | (refine ⟨_, c1, ?_⟩; rintro _ _ ⟨rfl, rfl⟩)
        | (refine ⟨_, c2, ?_⟩; rintro _ _ ⟨rfl, rfl⟩)
        | (refine ⟨_, c3, ?_⟩; rintro _ _ ⟨rfl, rfl⟩)
        | (refine ⟨_, c4, ?_⟩; rintro _ _ ⟨rfl, rfl⟩)
        | (refine ⟨_, c5, ?_⟩; rintro _ _ ⟨rfl, rfl⟩)
        | fail))
    | ((with_reducible refine isLoop ?_) <;> (first
        | fail))
    | ((with_reducible refine isCut ?_) <;> (first
        | refine ⟨⟨none⟩, ?_⟩))
    | ((first | with_reducible refine isEx ?_ | with_reducible refine isAnd ?_ | with_reducible refine isOr ?_) <;> (first
        | refine ⟨rfl, ?_⟩
        | refine ⟨Int.natCast_nonneg _, ?_⟩))
    | with_reducible refine Both.mk ?_ ?_
    | (exfalso; exact absurd (of_decide_eq_true (by assumption)) hpos)
    | rintro _ rfl
    | exact rfl
    | (split <;> (rename_i h; first | (simp only [beq_self_eq_true, eq_self, decide_true, Bool.not_true, Bool.false_eq_true] at h; done) | (try rw [h])))))
  all_goals (conv => whnf)
  all_goals trace_state
end Go.Pm.Try
namespace Go.Pm.Try
open Go
theorem text_of {y : D} (h : Sh.str.of y) : ∃ l : List UInt8, y = .s l := by
  simp only [Sh.of] at h
  obtain ⟨l, rfl, _⟩ := h
  exact ⟨l, rfl⟩
end Go.Pm.Try
namespace Go.Proofs.Ytlihmioijkichaa.fnExactOpsRead
open Go Go.Proofs Go.ChangeShapes Go.WideShapes Go.ChangeAt Go.RowKit Go.Pm
set_option linter.unusedVariables false
set_option maxRecDepth 100000
theorem own : ownKnob Try.prog.godebug = none := by kernel_rfl
theorem kids : Kids Try.prog (· < Try.prog.types.size) := kids_rows (by kernel_rfl) (by kernel_rfl)
theorem full : ∀ t e, t < Try.prog.types.size → Try.prog.underlying t = some (.slice e) → 0 < Try.prog.cellsOf e := slices_full_of Try.prog (by kernel_rfl)
theorem sh9 : shOf Try.prog 6 9 = some (.str) := by kernel_rfl
theorem lifted (os : Os) (started : os.Started) (H : Type) (enc : TypeId × Value → H) :
    ReturnsInHanded {} Try.checked os 5 .any (Rows.fnExactOpsReadSpec.pre6 enc Try.prog Try.f5 Rows.fnExactOpsReadRow.domain false) (Rows.fnExactOpsReadSpec.post enc Try.prog Try.f5 false true false false) := by
  refine returnsInHanded_of_change_sized (C := Try.checked) own started (by kernel_rfl) Try.func5
    (ChangeSpec.witness6 (enc := enc) (C := Try.checked) false ⟨#[], #[.string ⟨#[]⟩], []⟩ 8 (by kernel_rfl) (by kernel_rfl) (by kernel_rfl) (by kernel_rfl)) ?_
  intro W base args ds gs before hval0 hW hcnd hsz0 _
  have hval : ∀ (j : Nat) t v, Try.f5.params[j]? = some t → args[j]? = some v → Value.okWide Try.prog W .any base t v := hval0
  have hW' := hW
  obtain ⟨p, q, hA0, hV, rfl, hfz, hnd⟩ := hW
  have hA : DataW.TrodAll enc Try.prog W 0 (fun _ => true) true Try.f5.params.toList args.toList ds p := hA0
  rw [Try.params5] at hA hval
  obtain ⟨rfl, rfl⟩ := trodVars_none hV
  have hA1 := hA
  obtain ⟨v0, d0, rfl, rfl, h0⟩ := trodAll_one hA
  obtain ⟨x0, hx0, hrep0⟩ := arg_rep (X := noX) (fun b h => h) sh9 (hval 0 9 v0 rfl rfl) h0
  obtain ⟨l, rfl⟩ := Go.Pm.Try.text_of hx0
  refine (law_calls (Go.Pm.Try.opsReadLaw l) (W := W) (args := #[v0]) ?_).mono fun e W' ⟨he, bel⟩ => ?_
  · simp only [AV.repL, AV.rep]; exact ⟨v0, [], rfl, hrep0, rfl⟩
  subst he
  exact ⟨_, rfl, _, _, _, [], _, [], hW', trodAll_mk1 (shut_bool Try.underlying4 _), args_same kids full bel hA1 (by kernel_rfl), rfl, bel.frame _, fun h => by cases h⟩
theorem over : Rows.fnExactOpsReadRow.holds Try.pinned (OpenSpec.ofChange Rows.fnExactOpsReadSpec) :=
  OpenClaim.holds_of_wide 5 Try.f5 rfl rfl rfl rfl rfl rfl rfl ⟨rfl, rfl, rfl, rfl, rfl⟩ rfl rfl rfl rfl rfl (by kernel_rfl) Try.func5 (by kernel_rfl)
    (of_decide_eq_true (by kernel_rfl)) (by unfold Func.isWrapper; first | (rw [if_pos (by decide +kernel)]; kernel_rfl) | (rw [if_neg (by decide +kernel)]; exact ⟨rfl, rfl⟩))
    (fun os started H enc _ => lifted os started H enc)
end Go.Proofs.Ytlihmioijkichaa.fnExactOpsRead
namespace Go.Proofs.Ytlihmioijkichaa
theorem fnExactOpsRead_holds : Rows.FnExactOpsReadSaid := fnExactOpsRead.over
#print axioms fnExactOpsRead_holds
end Go.Proofs.Ytlihmioijkichaa

