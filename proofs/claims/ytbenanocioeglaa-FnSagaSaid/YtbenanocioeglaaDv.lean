/-
Draws from bytes: defs.
-/
import Derived.Test.YtbenanocioeglaaDu
namespace Go.Pm.Try
open Go Go.Proofs
set_option linter.unusedVariables false
set_option linter.unusedSimpArgs false
set_option maxRecDepth 100000
/-- A def of short texts. -/
structure DefIn (d : Def) : Prop where
  name : d.name.length ≤ 20
  len : d.steps.length ≤ 5
  steps : ∀ x, x ∈ d.steps → StepIn x
theorem DefIn.fits {d : Def} (h : DefIn d) : d.fits := by
  have hm : maxLen = 9223372036854775807 := rfl
  exact ⟨by have := h.name; omega, by have := h.len; omega, fun x hx => (h.steps x hx).fits⟩
def DrawDef (b : List UInt8) (z : Int) (R : AV) (O : List Ob) : Prop := ∃ (d : Def) (k m : Int), R = .d (defD d) ∧ O = [.var (srcC b z k m)] ∧ SrcOk b z k ∧ DefIn d
/-- The steps so far. -/
inductive StepsMid (b : List UInt8) (z N : Int) (name : List UInt8) (st : St) : Prop
  | mk (ss : List Step) (n k m : Int) (h0 : n = (ss.length : Int)) (h1 : n ≤ N) (hss : ∀ x, x ∈ ss → StepIn x) (hs : SrcOk b z k)
      (e : st = ⟨[(0, .ptr 0 0), (2, .ptr 10002 0), (3, .ptr 10003 0), (4, .d (.i .i64 N)), (5, .d (.i .i64 n))],
        [(0, .var (srcC b z k m)), (10002, .var [.d (.s []), .snil, .d (.i .i64 0)]), (10024, .arr 6 false (ss.map stepD)), (10003, .var [.d (.s name), .own 10024, .d (.i .i64 (-1))])]⟩)
theorem steps_n {r : Int} (h : 0 ≤ r ∧ (1 < (4 : Int) → r < 4) ∧ ((4 : Int) ≤ 1 → r = 0)) : 1 ≤ IntKind.i64.wrap (1 + r) ∧ IntKind.i64.wrap (1 + r) ≤ 4 := by
  have := drawn_lt h (by decide)
  rw [wrap_i64_id _ (by omega) (by omega)]
  omega
theorem step_room {ss : List Step} {n N : Int} (h0 : n = (ss.length : Int)) (hN : N ≤ 4) (h : decide (n < N) = true) {x : D} : room ((ss.map stepD).length + [x].length) 72 := by
  have := of_decide_eq_true h
  have hm : maxLen = 9223372036854775807 := rfl
  simp only [room, List.length_map, List.length_cons, List.length_nil]
  omega
theorem steps_push {ss : List Step} {x : Step} : (ss ++ [x]).map stepD = ss.map stepD ++ [stepD x] := by simp
def pick3 (r a b c : Int) : Int := if r = 0 then a else if r = 1 then b else c
theorem three_some {r a b c : Int} (h : 0 ≤ r ∧ (1 < (3 : Int) → r < 3) ∧ ((3 : Int) ≤ 1 → r = 0)) : [D.i .i64 a, D.i .i64 b, D.i .i64 c][r.toNat]? = some (.i .i64 (pick3 r a b c)) := by
  have := drawn_lt h (by decide)
  obtain rfl | rfl | rfl : r = 0 ∨ r = 1 ∨ r = 2 := by omega
  all_goals rfl
theorem steps_all {ss : List Step} {n r : Int} (h0 : n = (ss.length : Int)) (h1 : n ≤ IntKind.i64.wrap (1 + r)) (h : decide (n < IntKind.i64.wrap (1 + r)) = false) (hr : 0 ≤ r ∧ (1 < (4 : Int) → r < 4) ∧ ((4 : Int) ≤ 1 → r = 0)) : 1 ≤ ss.length ∧ ss.length ≤ 4 := by
  have := steps_n hr; have := of_decide_eq_false h
  omega
theorem first_in {ss : List Step} (h : 1 ≤ ss.length) : 0 ≤ (0 : Int) ∧ (0 : Int) < ((ss.map stepD).length : Int) := by
  rw [List.length_map]; omega
theorem step_next {ss : List Step} {n N : Int} (h0 : n = (ss.length : Int)) (hN : N ≤ 4) (h : decide (n < N) = true) (x : Step) : IntKind.i64.wrap (n + 1) = (((ss ++ [x]).length : Nat) : Int) ∧ IntKind.i64.wrap (n + 1) ≤ N := by
  have := of_decide_eq_true h
  rw [wrap_i64_id _ (by omega) (by omega)]
  simp only [List.length_append, List.length_cons, List.length_nil]
  omega
theorem step_mu {ss : List Step} {n N : Int} (h0 : n = (ss.length : Int)) (hN : N ≤ 4) (h : decide (n < N) = true) : (4 - IntKind.i64.wrap (n + 1)).toNat < (4 - n).toNat := by
  have := of_decide_eq_true h
  rw [wrap_i64_id _ (by omega) (by omega)]
  omega
theorem all_push {ss : List Step} {x : Step} (h : ∀ y, y ∈ ss → StepIn y) (hx : StepIn x) : ∀ y, y ∈ ss ++ [x] → StepIn y := by
  intro y hy
  rcases List.mem_append.1 hy with hy | hy
  · exact h y hy
  · rw [List.mem_singleton.1 hy]; exact hx
theorem first_get {ss : List Step} {y : Step} (h : ss[0]? = some y) : (ss.map stepD)[Int.toNat 0]? = some (stepD y) := get_map' h
theorem first_ex {ss : List Step} (h : 1 ≤ ss.length) : ∃ y, ss[0]? = some y := get_ex h
theorem all_room {ss : List Step} (h : ss.length ≤ 4) {x : D} : room ((ss.map stepD).length + [x].length) 72 := by
  have hm : maxLen = 9223372036854775807 := rfl
  simp only [room, List.length_map, List.length_cons, List.length_nil]
  omega
theorem def_fin {b : List UInt8} {z : Int} {R : AV} {O : List Ob} {nm : List UInt8} {xs : List D} {p k m : Int} (ss : List Step) (hx : xs = ss.map stepD) (hR : R = .d (.agg [.s nm, .sl false xs, .i .i64 p])) (hO : O = [.var (srcC b z k m)])
    (hs : SrcOk b z k) (hl : nm.length ≤ 20) (hlen : ss.length ≤ 5) (hall : ∀ x, x ∈ ss → StepIn x) : DrawDef b z R O :=
  ⟨⟨nm, ss, p⟩, k, m, by rw [hR, hx]; rfl, hO, hs, ⟨hl, hlen, hall⟩⟩
theorem le45 {n : Nat} (h : 1 ≤ n ∧ n ≤ 4) : n ≤ 5 := by omega
theorem set_map (ss : List Step) (y : Step) : (ss.map stepD).set 0 (stepD y) = (ss.set 0 y).map stepD := List.map_set.symm
theorem set_all {ss : List Step} {y w : Step} (h : ∀ x, x ∈ ss → StepIn x) (hy : ss[0]? = some y) (h1 : w.name = y.name) (h2 : w.act = y.act) (h3 : w.undo = y.undo) : ∀ x, x ∈ ss.set 0 w → StepIn x := by
  intro x hx
  have hy := h y (get_mem hy)
  rcases List.mem_or_eq_of_mem_set hx with hx | rfl
  · exact h x hx
  · exact ⟨h1 ▸ hy.name, h2 ▸ hy.act, h3 ▸ hy.undo⟩
theorem set_len {ss : List Step} {w : Step} (h : 1 ≤ ss.length ∧ ss.length ≤ 4) : (ss.set 0 w).length ≤ 5 := by rw [List.length_set]; omega
theorem push_len {ss : List Step} {w : Step} (h : 1 ≤ ss.length ∧ ss.length ≤ 4) : (ss ++ [w]).length ≤ 5 := by
  simp only [List.length_append, List.length_cons, List.length_nil]; omega
set_option maxHeartbeats 16000000 in
theorem srcDef {b : List UInt8} {z k m : Int} (hs : SrcOk b z k) : EntQ Try.prog 70 [.ptr 0 0] [.var (srcC b z k m)] (DrawDef b z) := by
  cases b with
  | nil =>
    refine ent_of tok mixed (f := 70) Try.func70 (by kernel_rfl) (keep := false) ?_
    repeat' ((conv => whnf) <;> (first | ((with_reducible refine isCall ?_) <;> (first | (refine ⟨_, names_pick (m := m) hs rfl rfl, ?_⟩; rintro _ _ ⟨t1, k1, m1, rfl, rfl, hs1, hl1⟩) | (refine ⟨_, srcN (m := m1) hs1 4 (by decide), ?_⟩; rintro _ _ ⟨r1, k2, m2, rfl, rfl, hs2, hr1⟩) | (refine ⟨_, srcStep (m := m3) hs3 n, ?_⟩; rintro _ _ ⟨x, k4, m4, rfl, rfl, hs4, hx⟩) | (refine ⟨_, srcOne (m := m3) hs3 2 (by decide), ?_⟩; rintro _ _ ⟨b4, k4, m4, rfl, rfl, hs4⟩) | (refine ⟨_, srcN (m := m4) hs4 (IntKind.i64.wrap (1 + r1)) (wrap_le _), ?_⟩; rintro _ _ ⟨r5, k5, m5, rfl, rfl, hs5, hr5⟩) | (refine ⟨_, srcOne (m := m5) hs5 20 (by decide), ?_⟩; rintro _ _ ⟨b6, k6, m6, rfl, rfl, hs6⟩) | (refine ⟨_, srcOne (m := m4) hs4 20 (by decide), ?_⟩; rintro _ _ ⟨b6, k6, m6, rfl, rfl, hs6⟩) | (refine ⟨_, srcN (m := m6) hs6 6 (by decide), ?_⟩; rintro _ _ ⟨r7, k7, m7, rfl, rfl, hs7, hr7⟩) | (refine ⟨_, names_pick (m := m7) hs7 rfl rfl, ?_⟩; rintro _ _ ⟨t8, k8, m8, rfl, rfl, hs8, hl8⟩) | (refine ⟨_, srcN (m := m7) hs7 3 (by decide), ?_⟩; rintro _ _ ⟨r8, k8, m8, rfl, rfl, hs8, hr8⟩) | (refine ⟨⟨(by decide), rfl, rfl, step_room h0 (steps_n hr1).2 (by assumption)⟩, ?_⟩) | (refine ⟨StepsMid.mk (ss ++ [x]) (IntKind.i64.wrap (n + 1)) k4 m4 (step_next h0 (steps_n hr1).2 (by assumption) x).1 (step_next h0 (steps_n hr1).2 (by assumption) x).2 (all_push hss hx) hs4 ?_, cast ?_ (step_mu h0 (steps_n hr1).2 (by assumption))⟩; rw [steps_push]; kernel_rfl; kernel_rfl) | (refine ⟨⟨hr8.1, (drawn_lt hr8 (by decide)).2⟩, ?_⟩) | (refine ⟨_, three_some hr8, ?_⟩) | (refine ⟨first_in (steps_all h0 h1 (by assumption) hr1).1, ?_⟩) | (obtain ⟨y, hy⟩ := first_ex (steps_all h0 h1 (by assumption) hr1).1; refine ⟨_, first_get hy, ?_⟩) | (refine ⟨⟨(by decide), rfl, rfl, all_room (steps_all h0 h1 (by assumption) hr1).2⟩, ?_⟩) | fail)) | ((with_reducible refine isLoop ?_) <;> (first | (refine ⟨[0, 2, 3, 4, 5], [0, 10002, .cell 10024 6 false 10003 1, 10003], StepsMid [] z (IntKind.i64.wrap (1 + r1)) t1, fun st => match look 5 st.env with | some (.d (.i _ n)) => (4 - n).toNat | _ => 0, ?_, StepsMid.mk [] 0 k2 m2 rfl (by have := steps_n hr1; omega) (by simp) hs2 ?_, ?_⟩; kernel_rfl; kernel_rfl; rintro _ ⟨ss, n, k3, m3, h0, h1, hss, hs3, rfl⟩) | (refine ⟨⟨(by decide), rfl, rfl, step_room h0 (steps_n hr1).2 (by assumption)⟩, ?_⟩) | (refine ⟨StepsMid.mk (ss ++ [x]) (IntKind.i64.wrap (n + 1)) k4 m4 (step_next h0 (steps_n hr1).2 (by assumption) x).1 (step_next h0 (steps_n hr1).2 (by assumption) x).2 (all_push hss hx) hs4 ?_, cast ?_ (step_mu h0 (steps_n hr1).2 (by assumption))⟩; rw [steps_push]; kernel_rfl; kernel_rfl) | (refine ⟨⟨hr8.1, (drawn_lt hr8 (by decide)).2⟩, ?_⟩) | (refine ⟨_, three_some hr8, ?_⟩) | (refine ⟨first_in (steps_all h0 h1 (by assumption) hr1).1, ?_⟩) | (obtain ⟨y, hy⟩ := first_ex (steps_all h0 h1 (by assumption) hr1).1; refine ⟨_, first_get hy, ?_⟩) | (refine ⟨⟨(by decide), rfl, rfl, all_room (steps_all h0 h1 (by assumption) hr1).2⟩, ?_⟩) | fail)) | ((with_reducible refine isCut ?_) <;> (first | refine ⟨⟨none⟩, ?_⟩)) | ((first | with_reducible refine isEx ?_ | with_reducible refine isAnd ?_ | with_reducible refine isOr ?_) <;> (first | (refine ⟨⟨(by decide), rfl, rfl, step_room h0 (steps_n hr1).2 (by assumption)⟩, ?_⟩) | (refine ⟨StepsMid.mk (ss ++ [x]) (IntKind.i64.wrap (n + 1)) k4 m4 (step_next h0 (steps_n hr1).2 (by assumption) x).1 (step_next h0 (steps_n hr1).2 (by assumption) x).2 (all_push hss hx) hs4 ?_, cast ?_ (step_mu h0 (steps_n hr1).2 (by assumption))⟩; rw [steps_push]; kernel_rfl; kernel_rfl) | (refine ⟨⟨hr8.1, (drawn_lt hr8 (by decide)).2⟩, ?_⟩) | (refine ⟨_, three_some hr8, ?_⟩) | (refine ⟨first_in (steps_all h0 h1 (by assumption) hr1).1, ?_⟩) | (obtain ⟨y, hy⟩ := first_ex (steps_all h0 h1 (by assumption) hr1).1; refine ⟨_, first_get hy, ?_⟩) | (refine ⟨⟨(by decide), rfl, rfl, all_room (steps_all h0 h1 (by assumption) hr1).2⟩, ?_⟩) | ((with_reducible refine isSmall ?_) <;> (refine ⟨?_, ?_⟩; kernel_rfl)) | refine ⟨rfl, ?_⟩ | refine ⟨Int.natCast_nonneg _, ?_⟩)) | with_reducible refine Both.mk ?_ ?_ | rintro _ rfl | exact rfl | (split <;> (rename_i h; first | (simp only [beq_self_eq_true, eq_self, decide_true, Bool.not_true, Bool.false_eq_true] at h; done) | (try rw [h])))))
    all_goals try (conv => whnf)
    all_goals first
      | exact def_fin ss rfl rfl rfl hs8 hl8 (le45 (steps_all h0 h1 (by assumption) hr1)) hss
      | exact def_fin ss rfl rfl rfl hs8 hl1 (le45 (steps_all h0 h1 (by assumption) hr1)) hss
      | exact def_fin (ss.set 0 ⟨y.name, y.act, y.undo, pick3 r8 0 10 11, y.back, y.out⟩) (set_map _ _) rfl rfl hs8 hl1 (set_len (steps_all h0 h1 (by assumption) hr1)) (set_all hss hy rfl rfl rfl)
      | exact def_fin (ss.set 0 ⟨y.name, y.act, y.undo, y.tries, pick3 r8 (-1) 1000 1001, y.out⟩) (set_map _ _) rfl rfl hs8 hl1 (set_len (steps_all h0 h1 (by assumption) hr1)) (set_all hss hy rfl rfl rfl)
      | exact def_fin (ss.set 0 ⟨y.name, y.act, y.undo, y.tries, y.back, pick3 r8 0 1000 1001⟩) (set_map _ _) rfl rfl hs8 hl1 (set_len (steps_all h0 h1 (by assumption) hr1)) (set_all hss hy rfl rfl rfl)
      | exact def_fin (ss ++ [y]) steps_push.symm rfl rfl hs7 hl1 (push_len (steps_all h0 h1 (by assumption) hr1)) (all_push hss (hss y (get_mem hy)))
      | exact def_fin ss rfl rfl rfl hs6 hl1 (le45 (steps_all h0 h1 (by assumption) hr1)) hss
      | with_reducible trace_state
  | cons c b =>
    refine ent_of tok mixed (f := 70) Try.func70 (by kernel_rfl) (keep := false) ?_
    repeat' ((conv => whnf) <;> (first | ((with_reducible refine isCall ?_) <;> (first | (refine ⟨_, names_pick (m := m) hs rfl rfl, ?_⟩; rintro _ _ ⟨t1, k1, m1, rfl, rfl, hs1, hl1⟩) | (refine ⟨_, srcN (m := m1) hs1 4 (by decide), ?_⟩; rintro _ _ ⟨r1, k2, m2, rfl, rfl, hs2, hr1⟩) | (refine ⟨_, srcStep (m := m3) hs3 n, ?_⟩; rintro _ _ ⟨x, k4, m4, rfl, rfl, hs4, hx⟩) | (refine ⟨_, srcOne (m := m3) hs3 2 (by decide), ?_⟩; rintro _ _ ⟨b4, k4, m4, rfl, rfl, hs4⟩) | (refine ⟨_, srcN (m := m4) hs4 (IntKind.i64.wrap (1 + r1)) (wrap_le _), ?_⟩; rintro _ _ ⟨r5, k5, m5, rfl, rfl, hs5, hr5⟩) | (refine ⟨_, srcOne (m := m5) hs5 20 (by decide), ?_⟩; rintro _ _ ⟨b6, k6, m6, rfl, rfl, hs6⟩) | (refine ⟨_, srcOne (m := m4) hs4 20 (by decide), ?_⟩; rintro _ _ ⟨b6, k6, m6, rfl, rfl, hs6⟩) | (refine ⟨_, srcN (m := m6) hs6 6 (by decide), ?_⟩; rintro _ _ ⟨r7, k7, m7, rfl, rfl, hs7, hr7⟩) | (refine ⟨_, names_pick (m := m7) hs7 rfl rfl, ?_⟩; rintro _ _ ⟨t8, k8, m8, rfl, rfl, hs8, hl8⟩) | (refine ⟨_, srcN (m := m7) hs7 3 (by decide), ?_⟩; rintro _ _ ⟨r8, k8, m8, rfl, rfl, hs8, hr8⟩) | (refine ⟨⟨(by decide), rfl, rfl, step_room h0 (steps_n hr1).2 (by assumption)⟩, ?_⟩) | (refine ⟨StepsMid.mk (ss ++ [x]) (IntKind.i64.wrap (n + 1)) k4 m4 (step_next h0 (steps_n hr1).2 (by assumption) x).1 (step_next h0 (steps_n hr1).2 (by assumption) x).2 (all_push hss hx) hs4 ?_, cast ?_ (step_mu h0 (steps_n hr1).2 (by assumption))⟩; rw [steps_push]; kernel_rfl; kernel_rfl) | (refine ⟨⟨hr8.1, (drawn_lt hr8 (by decide)).2⟩, ?_⟩) | (refine ⟨_, three_some hr8, ?_⟩) | (refine ⟨first_in (steps_all h0 h1 (by assumption) hr1).1, ?_⟩) | (obtain ⟨y, hy⟩ := first_ex (steps_all h0 h1 (by assumption) hr1).1; refine ⟨_, first_get hy, ?_⟩) | (refine ⟨⟨(by decide), rfl, rfl, all_room (steps_all h0 h1 (by assumption) hr1).2⟩, ?_⟩) | fail)) | ((with_reducible refine isLoop ?_) <;> (first | (refine ⟨[0, 2, 3, 4, 5], [0, 10002, .cell 10024 6 false 10003 1, 10003], StepsMid (c :: b) z (IntKind.i64.wrap (1 + r1)) t1, fun st => match look 5 st.env with | some (.d (.i _ n)) => (4 - n).toNat | _ => 0, ?_, StepsMid.mk [] 0 k2 m2 rfl (by have := steps_n hr1; omega) (by simp) hs2 ?_, ?_⟩; kernel_rfl; kernel_rfl; rintro _ ⟨ss, n, k3, m3, h0, h1, hss, hs3, rfl⟩) | (refine ⟨⟨(by decide), rfl, rfl, step_room h0 (steps_n hr1).2 (by assumption)⟩, ?_⟩) | (refine ⟨StepsMid.mk (ss ++ [x]) (IntKind.i64.wrap (n + 1)) k4 m4 (step_next h0 (steps_n hr1).2 (by assumption) x).1 (step_next h0 (steps_n hr1).2 (by assumption) x).2 (all_push hss hx) hs4 ?_, cast ?_ (step_mu h0 (steps_n hr1).2 (by assumption))⟩; rw [steps_push]; kernel_rfl; kernel_rfl) | (refine ⟨⟨hr8.1, (drawn_lt hr8 (by decide)).2⟩, ?_⟩) | (refine ⟨_, three_some hr8, ?_⟩) | (refine ⟨first_in (steps_all h0 h1 (by assumption) hr1).1, ?_⟩) | (obtain ⟨y, hy⟩ := first_ex (steps_all h0 h1 (by assumption) hr1).1; refine ⟨_, first_get hy, ?_⟩) | (refine ⟨⟨(by decide), rfl, rfl, all_room (steps_all h0 h1 (by assumption) hr1).2⟩, ?_⟩) | fail)) | ((with_reducible refine isCut ?_) <;> (first | refine ⟨⟨none⟩, ?_⟩)) | ((first | with_reducible refine isEx ?_ | with_reducible refine isAnd ?_ | with_reducible refine isOr ?_) <;> (first | (refine ⟨⟨(by decide), rfl, rfl, step_room h0 (steps_n hr1).2 (by assumption)⟩, ?_⟩) | (refine ⟨StepsMid.mk (ss ++ [x]) (IntKind.i64.wrap (n + 1)) k4 m4 (step_next h0 (steps_n hr1).2 (by assumption) x).1 (step_next h0 (steps_n hr1).2 (by assumption) x).2 (all_push hss hx) hs4 ?_, cast ?_ (step_mu h0 (steps_n hr1).2 (by assumption))⟩; rw [steps_push]; kernel_rfl; kernel_rfl) | (refine ⟨⟨hr8.1, (drawn_lt hr8 (by decide)).2⟩, ?_⟩) | (refine ⟨_, three_some hr8, ?_⟩) | (refine ⟨first_in (steps_all h0 h1 (by assumption) hr1).1, ?_⟩) | (obtain ⟨y, hy⟩ := first_ex (steps_all h0 h1 (by assumption) hr1).1; refine ⟨_, first_get hy, ?_⟩) | (refine ⟨⟨(by decide), rfl, rfl, all_room (steps_all h0 h1 (by assumption) hr1).2⟩, ?_⟩) | ((with_reducible refine isSmall ?_) <;> (refine ⟨?_, ?_⟩; kernel_rfl)) | refine ⟨rfl, ?_⟩ | refine ⟨Int.natCast_nonneg _, ?_⟩)) | with_reducible refine Both.mk ?_ ?_ | rintro _ rfl | exact rfl | (split <;> (rename_i h; first | (simp only [beq_self_eq_true, eq_self, decide_true, Bool.not_true, Bool.false_eq_true] at h; done) | (try rw [h])))))
    all_goals try (conv => whnf)
    all_goals first
      | exact def_fin ss rfl rfl rfl hs8 hl8 (le45 (steps_all h0 h1 (by assumption) hr1)) hss
      | exact def_fin ss rfl rfl rfl hs8 hl1 (le45 (steps_all h0 h1 (by assumption) hr1)) hss
      | exact def_fin (ss.set 0 ⟨y.name, y.act, y.undo, pick3 r8 0 10 11, y.back, y.out⟩) (set_map _ _) rfl rfl hs8 hl1 (set_len (steps_all h0 h1 (by assumption) hr1)) (set_all hss hy rfl rfl rfl)
      | exact def_fin (ss.set 0 ⟨y.name, y.act, y.undo, y.tries, pick3 r8 (-1) 1000 1001, y.out⟩) (set_map _ _) rfl rfl hs8 hl1 (set_len (steps_all h0 h1 (by assumption) hr1)) (set_all hss hy rfl rfl rfl)
      | exact def_fin (ss.set 0 ⟨y.name, y.act, y.undo, y.tries, y.back, pick3 r8 0 1000 1001⟩) (set_map _ _) rfl rfl hs8 hl1 (set_len (steps_all h0 h1 (by assumption) hr1)) (set_all hss hy rfl rfl rfl)
      | exact def_fin (ss ++ [y]) steps_push.symm rfl rfl hs7 hl1 (push_len (steps_all h0 h1 (by assumption) hr1)) (all_push hss (hss y (get_mem hy)))
      | exact def_fin ss rfl rfl rfl hs6 hl1 (le45 (steps_all h0 h1 (by assumption) hr1)) hss
      | with_reducible trace_state
end Go.Pm.Try
