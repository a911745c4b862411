/-
Databases: how many marks.
-/
import Derived.Test.YtlihmioijkichaaGreatFt
namespace Go.Pm.Tryz
open Go Go.Proofs
set_option linter.unusedVariables false
set_option linter.unusedSimpArgs false
set_option maxRecDepth 100000
theorem cnt_vals : ∀ vs : List Val, cntL (vs.map valD) = 3 * vs.length
  | [] => rfl
  | c :: cs => by simp only [List.map_cons, cntL, valD, cntD, cnt_vals cs, List.length_cons]; omega
theorem cnt_same : ∀ is : List Idx, cntL (is.map idxD) = cntL (is.map idxO)
  | [] => rfl
  | i :: is => by simp only [List.map_cons, cntL, idxO, idxD, cntD, cnt_same is]
theorem cnt_rows : ∀ rs : List (List Val), (∀ r, r ∈ rs → r.length ≤ 12) → cntL (rs.map rowO) ≤ 36 * rs.length
  | [], _ => Nat.le_refl _
  | r :: rs, h => by
    have h1 := h r (List.mem_cons_self ..)
    have h2 := cnt_rows rs fun j hj => h j (List.mem_cons_of_mem _ hj)
    simp only [List.map_cons, cntL, List.length_cons, rowO, cntD, cnt_vals]
    omega
theorem rows_same : ∀ rs : List (List Val), cntL (rs.map rowD) = cntL (rs.map rowO)
  | [] => rfl
  | i :: is => by simp only [List.map_cons, cntL, rowO, rowD, cntD, rows_same is]
theorem cnt_tab {t : Tab} (h : t.small) : cntD (tabO t) ≤ 3000 := by
  have n1 := cnt_cols t.sch.cols
  have n2 := cnt_ints t.sch.keys
  have n3 := cnt_idx t.sch.idxs h.sch.lists
  have n4 := cnt_rows t.rows h.row
  have s1 := h.sch.cols
  have s2 := h.sch.keys
  have s3 := h.sch.idxs
  have s4 := h.rows
  simp only [tabO, cntD, cntL]
  omega
theorem cnt_tabs : ∀ ts : List Tab, (∀ t, t ∈ ts → t.small) → cntL (ts.map tabO) ≤ 3000 * ts.length
  | [], _ => Nat.le_refl _
  | t :: ts, h => by
    have h1 := cnt_tab (h t (List.mem_cons_self ..))
    have h2 := cnt_tabs ts fun j hj => h j (List.mem_cons_of_mem _ hj)
    simp only [List.map_cons, cntL, List.length_cons]
    omega
theorem tabs_same : ∀ ts : List Tab, cntL (ts.map tabD) = cntL (ts.map tabO)
  | [] => rfl
  | t :: ts => by simp only [List.map_cons, cntL, tabO, tabD, cntD, rows_same, cnt_same, tabs_same ts]
theorem own_vals {cs : List Val} (h : cs.length ≤ 1000000) : AllOf ownValue (cs.map valD) := ⟨by rw [List.length_map]; exact le_max h, fun x hx => by obtain ⟨c, _, rfl⟩ := List.mem_map.1 hx; exact ⟨_, _, _, rfl⟩⟩
theorem own_rows {rs : List (List Val)} (h : rs.length ≤ 1000000) (h2 : ∀ r, r ∈ rs → r.length ≤ 1000000) : AllOf ownValueS (rs.map rowO) := ⟨by rw [List.length_map]; exact le_max h, fun x hx => by obtain ⟨c, hc, rfl⟩ := List.mem_map.1 hx; exact ⟨_, rfl, own_vals (h2 c hc)⟩⟩
theorem own_tabs {ts : List Tab} (h : ts.length ≤ 1000000) (h2 : ∀ t, t ∈ ts → t.small) : AllOf ownTable (ts.map tabO) := ⟨by rw [List.length_map]; exact le_max h, fun x hx => by
  obtain ⟨t, ht, rfl⟩ := List.mem_map.1 hx
  have hs := h2 t ht
  have s1 := hs.sch.cols
  have s2 := hs.sch.keys
  have s3 := hs.sch.idxs
  have s4 := hs.rows
  exact ⟨_, _, _, _, _, rfl, own_cols (by omega), own_ints (by omega), own_idx (by omega) (fun i hi => Nat.le_trans (hs.sch.lists i hi) (by decide)), own_rows (by omega) fun r hr => Nat.le_trans (hs.row r hr) (by decide)⟩⟩
set_option maxHeartbeats 4000000 in
theorem dbReadLaw (l : List UInt8) : Ent Tryz.prog 4 [.d (.s l)] [] (.d (.b true)) [] := by
  obtain ⟨hl, hs⟩ := dbOut_small l
  have c1 := specDbRead l
  have c2 := implDbReadOut l
  generalize dbOutM l = o at *
  have n1 := cnt_tabs o.tabs hs
  have h1 : AllOf ownTable (o.tabs.map tabO) := own_tabs (by omega) hs
  have h1e : AllOf isTable (o.tabs.map tabD) := by rw [← erase_tabs]; exact h1.erase fun _ => eraseTable
  have f1 : Fine (o.tabs.map tabO) 1 := ⟨by decide, by omega⟩
  have e1 := erase_mkL (o.tabs.map tabO) 1
  have f1e : Fine (o.tabs.map tabD) 1 := ⟨by decide, by rw [tabs_same]; omega⟩
  have c3 : Ent Tryz.prog 20 [.d (.agg [.sl false (eraseL (o.tabs.map tabO)), .i .i64 0, .i .i64 o.code]), .d (dbOutD o)] [] (.d (.b true)) [] := by
    rw [erase_tabs]; exact eqDbOut _ ⟨_, _, _, rfl, h1e⟩
  have c4 := markDbOut _ 0 o.code h1 1 (by decide)
  have c5 := heldDbOut _ 0 o.code h1e 1 f1e
  rw [← erase_tabs, ← e1.1, e1.2] at c5
  have hq := f1.out
  generalize ctL (o.tabs.map tabO) 1 = q at *
  have hpos : ¬ q < 0 := by omega
  refine ent_of (cx := ⟨tab, [21], []⟩) tok mixed (f := 4) Tryz.func4 (by kernel_rfl) (keep := false) ?_
  repeat' ((conv => whnf) <;> (first
    | ((with_reducible refine isCall ?_) <;> (first
        | (refine ⟨_, c1, ?_⟩; rintro _ _ ⟨rfl, rfl⟩)
        | (refine ⟨_, c2, ?_⟩; rintro _ _ ⟨rfl, rfl⟩)
        | (refine ⟨_, c3, ?_⟩; rintro _ _ ⟨rfl, rfl⟩)
        | (refine ⟨_, c4, ?_⟩; rintro _ _ ⟨rfl, rfl⟩)
        | (refine ⟨_, c5, ?_⟩; rintro _ _ ⟨rfl, rfl⟩)
        | fail))
    | ((with_reducible refine isLoop ?_) <;> (first
        | fail))
    | ((with_reducible refine isCut ?_) <;> (first
        | refine ⟨⟨none⟩, ?_⟩))
    | ((first | with_reducible refine isEx ?_ | with_reducible refine isAnd ?_ | with_reducible refine isOr ?_) <;> (first
        | ((with_reducible refine isSmall ?_) <;> (refine ⟨?_, ?_⟩; kernel_rfl))
        | refine ⟨rfl, ?_⟩
        | refine ⟨Int.natCast_nonneg _, ?_⟩))
    | with_reducible refine Both.mk ?_ ?_
    | (exfalso; exact absurd (of_decide_eq_true (by assumption)) hpos)
    | rintro _ rfl
    | exact rfl
    | (split <;> (rename_i h; first | (simp only [beq_self_eq_true, eq_self, decide_true, Bool.not_true, Bool.false_eq_true] at h; done) | (try rw [h])))))
  all_goals (conv => whnf)
  all_goals trace_state
theorem text_of {y : D} (h : Sh.str.of y) : ∃ l : List UInt8, y = .s l := by
  simp only [Sh.of] at h
  obtain ⟨l, rfl, _⟩ := h
  exact ⟨l, rfl⟩
end Go.Pm.Tryz
namespace Go.Proofs.YtlihmioijkichaaGreat.fnExactDbRead
open Go Go.Proofs Go.ChangeShapes Go.WideShapes Go.ChangeAt Go.RowKit Go.Pm
set_option linter.unusedVariables false
set_option maxRecDepth 100000
theorem own : ownKnob Tryz.prog.godebug = none := by kernel_rfl
theorem kids : Kids Tryz.prog (· < Tryz.prog.types.size) := kids_rows (by kernel_rfl) (by kernel_rfl)
theorem full : ∀ t e, t < Tryz.prog.types.size → Tryz.prog.underlying t = some (.slice e) → 0 < Tryz.prog.cellsOf e := slices_full_of Tryz.prog (by kernel_rfl)
theorem sh9 : shOf Tryz.prog 6 9 = some (.str) := by kernel_rfl
theorem lifted (os : Os) (started : os.Started) (H : Type) (enc : TypeId × Value → H) :
    ReturnsInHanded {} Tryz.checked os 4 .any (Rows.fnExactDbReadSpec.pre6 enc Tryz.prog Tryz.f4 Rows.fnExactDbReadRow.domain false) (Rows.fnExactDbReadSpec.post enc Tryz.prog Tryz.f4 false true false false) := by
  refine returnsInHanded_of_change_sized (C := Tryz.checked) own started (by kernel_rfl) Tryz.func4
    (ChangeSpec.witness6 (enc := enc) (C := Tryz.checked) false ⟨#[], #[.string ⟨#[]⟩], []⟩ 8 (by kernel_rfl) (by kernel_rfl) (by kernel_rfl) (by kernel_rfl)) ?_
  intro W base args ds gs before hval0 hW hcnd hsz0 _
  have hval : ∀ (j : Nat) t v, Tryz.f4.params[j]? = some t → args[j]? = some v → Value.okWide Tryz.prog W .any base t v := hval0
  have hW' := hW
  obtain ⟨p, q, hA0, hV, rfl, hfz, hnd⟩ := hW
  have hA : DataW.TrodAll enc Tryz.prog W 0 (fun _ => true) true Tryz.f4.params.toList args.toList ds p := hA0
  rw [Tryz.params4] at hA hval
  obtain ⟨rfl, rfl⟩ := trodVars_none hV
  have hA1 := hA
  obtain ⟨v0, d0, rfl, rfl, h0⟩ := trodAll_one hA
  obtain ⟨x0, hx0, hrep0⟩ := arg_rep (X := noX) (fun b h => h) sh9 (hval 0 9 v0 rfl rfl) h0
  obtain ⟨l, rfl⟩ := Go.Pm.Tryz.text_of hx0
  refine (law_calls (Go.Pm.Tryz.dbReadLaw l) (W := W) (args := #[v0]) ?_).mono fun e W' ⟨he, bel⟩ => ?_
  · simp only [AV.repL, AV.rep]; exact ⟨v0, [], rfl, hrep0, rfl⟩
  subst he
  exact ⟨_, rfl, _, _, _, [], _, [], hW', trodAll_mk1 (shut_bool Tryz.underlying4 _), args_same kids full bel hA1 (by kernel_rfl), rfl, bel.frame _, fun h => by cases h⟩
theorem over : Rows.fnExactDbReadRow.holds Tryz.pinned (OpenSpec.ofChange Rows.fnExactDbReadSpec) :=
  OpenClaim.holds_of_wide 4 Tryz.f4 rfl rfl rfl rfl rfl rfl rfl ⟨rfl, rfl, rfl, rfl, rfl⟩ rfl rfl rfl rfl rfl (by kernel_rfl) Tryz.func4 (by kernel_rfl)
    (of_decide_eq_true (by kernel_rfl)) (by unfold Func.isWrapper; first | (rw [if_pos (by decide +kernel)]; kernel_rfl) | (rw [if_neg (by decide +kernel)]; exact ⟨rfl, rfl⟩))
    (fun os started H enc _ => lifted os started H enc)
end Go.Proofs.YtlihmioijkichaaGreat.fnExactDbRead
namespace Go.Proofs.YtlihmioijkichaaGreat
theorem fnExactDbRead_holds : Rows.FnExactDbReadSaid := fnExactDbRead.over
#print axioms fnExactDbRead_holds
end Go.Proofs.YtlihmioijkichaaGreat

