/-
What is drawn for the law of sagas; how one saga follows another.
-/
import Derived.Test.YtbenanocioeglaaEa
import Derived.Test.YtbenanocioeglaaBr
import Derived.Test.YtbenanocioeglaaSk
namespace Go.Pm.Try
open Go Go.Proofs
set_option linter.unusedVariables false
set_option linter.unusedSimpArgs false
set_option maxRecDepth 100000
set_option maxHeartbeats 4000000 in
theorem drawSagaTick (code : List UInt8) (hc : code.length ≤ 1048576) : EntQ Try.prog 51 [.d (.sl false (u8s code))] [] (fun R O => ∃ (d : Def) (s : Saga) (n : Int), R = .tup [.d (defD d), .d (sagaD s), .d (.i .i64 n)] ∧ O = [] ∧ DefIn d) := by
  refine ent_of tok mixed (f := 51) Try.func51 (by kernel_rfl) (keep := false) ?_
  repeat' ((conv => whnf) <;> (first | ((with_reducible refine isCall ?_) <;> (first | (refine ⟨_, srcSource code hc, ?_⟩; rintro _ _ ⟨z, m, rfl, rfl, hs⟩) | (refine ⟨_, srcDef (m := m) hs, ?_⟩; rintro _ _ ⟨d, k2, m2, rfl, rfl, hs2, hd⟩) | (refine ⟨_, srcSaga (m := m2) hs2 d hd.fits, ?_⟩; rintro _ _ ⟨s, n, k3, m3, rfl, rfl, hs3⟩) | (refine ⟨_, srcOne (m := m3) hs3 20 (by decide), ?_⟩; rintro _ _ ⟨b4, k4, m4, rfl, rfl, hs4⟩) | (refine ⟨_, srcEdge (m := m4) hs4, ?_⟩; rintro _ _ ⟨n5, k5, m5, rfl, rfl, hs5, hn5⟩) | (refine ⟨_, srcN (m := m4) hs4 20 (by decide), ?_⟩; rintro _ _ ⟨n5, k5, m5, rfl, rfl, hs5, hn5⟩) | exact ⟨d, s, _, rfl, rfl, hd⟩ | fail)) | ((with_reducible refine isCut ?_) <;> (first | refine ⟨⟨none⟩, ?_⟩)) | ((first | with_reducible refine isEx ?_ | with_reducible refine isAnd ?_ | with_reducible refine isOr ?_) <;> (first | exact ⟨d, s, _, rfl, rfl, hd⟩ | ((with_reducible refine isSmall ?_) <;> (refine ⟨?_, ?_⟩; kernel_rfl)) | refine ⟨rfl, ?_⟩ | refine ⟨Int.natCast_nonneg _, ?_⟩)) | with_reducible refine Both.mk ?_ ?_ | rintro _ rfl | exact rfl | (split <;> (rename_i h; first | (simp only [beq_self_eq_true, eq_self, decide_true, Bool.not_true, Bool.false_eq_true] at h; done) | (try rw [h])))))
  all_goals try (conv => whnf)
  all_goals (with_reducible trace_state)
set_option maxHeartbeats 8000000 in
theorem drawSagaReply (code : List UInt8) (hc : code.length ≤ 1048576) : EntQ Try.prog 50 [.d (.sl false (u8s code))] [] (fun R O => ∃ (d : Def) (s : Saga) (c : Cmd) (g : Bool) (n : Int), R = .tup [.d (defD d), .d (sagaD s), .d (cmdD c), .d (.b g), .d (.i .i64 n)] ∧ O = [] ∧ DefIn d) := by
  refine ent_of tok mixed (f := 50) Try.func50 (by kernel_rfl) (keep := false) ?_
  repeat' ((conv => whnf) <;> (first | ((with_reducible refine isCall ?_) <;> (first | (refine ⟨_, srcSource code hc, ?_⟩; rintro _ _ ⟨z, m, rfl, rfl, hs⟩) | (refine ⟨_, srcDef (m := m) hs, ?_⟩; rintro _ _ ⟨d, k2, m2, rfl, rfl, hs2, hd⟩) | (refine ⟨_, srcSaga (m := m2) hs2 d hd.fits, ?_⟩; rintro _ _ ⟨s, n, k3, m3, rfl, rfl, hs3⟩) | (refine ⟨_, specCommand s, ?_⟩; rintro _ _ ⟨rfl, rfl⟩) | (refine ⟨_, srcOne (m := m3) hs3 6 (by decide), ?_⟩; rintro _ _ ⟨b4, k4, m4, rfl, rfl, hs4⟩) | (refine ⟨_, srcN (m := m4) hs4 3 (by decide), ?_⟩; rintro _ _ ⟨r5, k5, m5, rfl, rfl, hs5, hr5⟩) | (refine ⟨_, srcN (m := m5) hs5 5 (by decide), ?_⟩; rintro _ _ ⟨r6, k6, m6, rfl, rfl, hs6, hr6⟩) | (refine ⟨_, srcN (m := m5) hs5 4 (by decide), ?_⟩; rintro _ _ ⟨r6, k6, m6, rfl, rfl, hs6, hr6⟩) | (refine ⟨_, srcOne (m := m6) hs6 20 (by decide), ?_⟩; rintro _ _ ⟨b7, k7, m7, rfl, rfl, hs7⟩) | (refine ⟨_, srcOne (m := m5) hs5 20 (by decide), ?_⟩; rintro _ _ ⟨b7, k7, m7, rfl, rfl, hs7⟩) | (refine ⟨_, srcOne (m := m4) hs4 20 (by decide), ?_⟩; rintro _ _ ⟨b7, k7, m7, rfl, rfl, hs7⟩) | (refine ⟨_, srcEdge (m := m7) hs7, ?_⟩; rintro _ _ ⟨n8, k8, m8, rfl, rfl, hs8, hn8⟩) | (refine ⟨_, srcOne (m := m8) hs8 2 (by decide), ?_⟩; rintro _ _ ⟨b9, k9, m9, rfl, rfl, hs9⟩) | (refine ⟨_, srcOne (m := m7) hs7 2 (by decide), ?_⟩; rintro _ _ ⟨b9, k9, m9, rfl, rfl, hs9⟩) | exact ⟨d, s, ⟨_, _, _⟩, b9, _, rfl, rfl, hd⟩ | exact ⟨d, s, ⟨(cmdOf s).step, !(cmdOf s).undo, (cmdOf s).tr⟩, b9, n8, rfl, rfl, hd⟩ | exact ⟨d, s, ⟨(cmdOf s).step, !(cmdOf s).undo, (cmdOf s).tr⟩, b9, n, rfl, rfl, hd⟩ | exact ⟨d, s, ⟨(cmdOf s).step, (cmdOf s).undo, r6⟩, b9, n8, rfl, rfl, hd⟩ | exact ⟨d, s, ⟨(cmdOf s).step, (cmdOf s).undo, r6⟩, b9, n, rfl, rfl, hd⟩ | exact ⟨d, s, ⟨IntKind.i64.wrap (r6 - 1), (cmdOf s).undo, (cmdOf s).tr⟩, b9, n8, rfl, rfl, hd⟩ | exact ⟨d, s, ⟨IntKind.i64.wrap (r6 - 1), (cmdOf s).undo, (cmdOf s).tr⟩, b9, n, rfl, rfl, hd⟩ | fail)) | ((with_reducible refine isCut ?_) <;> (first | refine ⟨⟨none⟩, ?_⟩)) | ((first | with_reducible refine isEx ?_ | with_reducible refine isAnd ?_ | with_reducible refine isOr ?_) <;> (first | exact ⟨d, s, ⟨_, _, _⟩, b9, _, rfl, rfl, hd⟩ | exact ⟨d, s, ⟨(cmdOf s).step, !(cmdOf s).undo, (cmdOf s).tr⟩, b9, n8, rfl, rfl, hd⟩ | exact ⟨d, s, ⟨(cmdOf s).step, !(cmdOf s).undo, (cmdOf s).tr⟩, b9, n, rfl, rfl, hd⟩ | exact ⟨d, s, ⟨(cmdOf s).step, (cmdOf s).undo, r6⟩, b9, n8, rfl, rfl, hd⟩ | exact ⟨d, s, ⟨(cmdOf s).step, (cmdOf s).undo, r6⟩, b9, n, rfl, rfl, hd⟩ | exact ⟨d, s, ⟨IntKind.i64.wrap (r6 - 1), (cmdOf s).undo, (cmdOf s).tr⟩, b9, n8, rfl, rfl, hd⟩ | exact ⟨d, s, ⟨IntKind.i64.wrap (r6 - 1), (cmdOf s).undo, (cmdOf s).tr⟩, b9, n, rfl, rfl, hd⟩ | ((with_reducible refine isSmall ?_) <;> (refine ⟨?_, ?_⟩; kernel_rfl)) | refine ⟨rfl, ?_⟩ | refine ⟨Int.natCast_nonneg _, ?_⟩)) | with_reducible refine Both.mk ?_ ?_ | rintro _ rfl | exact rfl | (split <;> (rename_i h; first | (simp only [beq_self_eq_true, eq_self, decide_true, Bool.not_true, Bool.false_eq_true] at h; done) | (try rw [h])))))
  all_goals try (conv => whnf)
  all_goals (with_reducible trace_state)
theorem lt_i64 {l : List Int} {k : Nat} (h : decide ((k : Int) < ((l.map i64D).length : Int)) = true) : k < l.length := by
  have h := of_decide_eq_true h
  rw [List.length_map] at h
  omega
theorem i64_at {l : List Int} {k : Nat} (h : k < l.length) : (l.map i64D)[k]? = some (i64D (l.getD k 0)) := by
  rw [List.getElem?_map, List.getD_eq_getElem?_getD, List.getElem?_eq_getElem h]; rfl
theorem first_at {xs : List Int} {k : Nat} (h : decide ((k : Int) < ((xs.map i64D).length : Int)) = true) : (xs.map i64D)[((k : Int)).toNat]? = some (i64D (xs.getD k 0)) := by
  rw [Int.toNat_natCast]; exact i64_at (lt_i64 h)
theorem both_at {xs ys more : List Int} {k : Nat} (hb : ys = xs ++ more) (h : decide ((k : Int) < ((xs.map i64D).length : Int)) = true) : (ys.map i64D)[((k : Int)).toNat]? = some (i64D (xs.getD k 0)) := by
  have hk := lt_i64 h
  rw [Int.toNat_natCast, i64_at (l := ys) (by rw [hb, List.length_append]; omega), hb, List.getD_eq_getElem?_getD, List.getD_eq_getElem?_getD, List.getElem?_append_left hk]
theorem prev_wrap {j : Nat} (h1 : 1 ≤ j) (h2 : j ≤ 9) : IntKind.i64.wrap ((j : Int) - 1) = ((j - 1 : Nat) : Int) := by
  rw [wrap_i64_id _ (by omega) (by omega)]; omega
theorem prev_at {ys : List Int} {j : Nat} (h1 : 1 ≤ j) (hlen : ys.length ≤ 8) (h : decide ((j : Int) < ((ys.map i64D).length : Int)) = true) : (ys.map i64D)[(IntKind.i64.wrap ((j : Int) - 1)).toNat]? = some (i64D (ys.getD (j - 1) 0)) := by
  have hk := lt_i64 h
  rw [prev_wrap h1 (by omega), Int.toNat_natCast]; exact i64_at (by omega)
theorem prev_ge {ys : List Int} {j : Nat} (h1 : 1 ≤ j) (hlen : ys.length ≤ 8) (h : decide ((j : Int) < ((ys.map i64D).length : Int)) = true) : 0 ≤ IntKind.i64.wrap ((j : Int) - 1) := by
  have hk := lt_i64 h
  rw [prev_wrap h1 (by omega)]; omega
theorem desc_at {ys : List Int} {j : Nat} (hd : List.Pairwise (fun x y : Int => y < x) ys) (h1 : 1 ≤ j) (h : decide ((j : Int) < ((ys.map i64D).length : Int)) = true) (h2 : decide (ys.getD j 0 ≥ ys.getD (j - 1) 0) = true) : False := by
  have hk := lt_i64 h
  have h2 := of_decide_eq_true h2
  have := List.pairwise_iff_getElem.1 hd (j - 1) j (by omega) hk (by omega)
  rw [List.getD_eq_getElem?_getD, List.getD_eq_getElem?_getD, List.getElem?_eq_getElem hk, List.getElem?_eq_getElem (by omega : j - 1 < ys.length)] at h2
  simp only [Option.getD_some] at h2
  omega
theorem up_i64 {l : List Int} {k : Nat} (hl : l.length ≤ 8) (h : decide ((k : Int) < ((l.map i64D).length : Int)) = true) : IntKind.i64.wrap ((k : Int) + 1) = ((k + 1 : Nat) : Int) := by
  have hk := lt_i64 h
  rw [wrap_i64_id _ (by omega) (by omega)]; omega
theorem up_mu {l : List Int} {k n : Nat} (hl : l.length ≤ 8) (hn : l.length ≤ n) (h : decide ((k : Int) < ((l.map i64D).length : Int)) = true) : n - (IntKind.i64.wrap ((k : Int) + 1)).toNat < n - ((k : Int)).toNat := by
  have hk := lt_i64 h
  rw [up_i64 hl h]; omega
theorem len_up {xs ys more : List Int} (hb : ys = xs ++ more) (hm : more.length ≤ 1) (hlen : ys.length ≤ 8) : ¬ ((ys.map i64D).length : Int) < ((xs.map i64D).length : Int) ∧ ¬ ((ys.map i64D).length : Int) > IntKind.i64.wrap (((xs.map i64D).length : Int) + 1) := by
  simp only [List.length_map]
  have := congrArg List.length hb
  rw [List.length_append] at this
  rw [wrap_i64_id _ (by omega) (by omega)]
  omega
set_option maxHeartbeats 8000000 in
theorem lwOn (d : Def) (hd : d.fits) (a b : Saga) (hO : On d a b) : Ent Try.prog 52 [.d (defD d), .d (sagaD a), .d (sagaD b)] [] (.d (.b true)) [] := by
  have c1 := specSagaRight d hd b
  rw [hO.ok] at c1
  have c2 := specOver a
  rw [hO.live] at c2
  have c3 := specUndid d hd a
  have c4 := specUndid d hd b
  obtain ⟨more, hb, hm⟩ := hO.und
  have hdesc := undid_desc d b
  have hlen := undid_len d b
  have hlx := undid_len d a
  obtain ⟨t0, L0⟩ := live hO.aok (over_live hO.aok hO.live)
  have f1 := hO.d0; have f2 := hO.d1; have f3 := hO.bk; have f4 := hO.piv; have f5 := L0.d0; have f6 := L0.dn; have f7 := L0.n8
  have f8 : IntKind.i64.wrap (a.done + 1) = a.done + 1 := wrap_i64_id _ (by omega) (by omega)
  generalize undid d a = xs at *
  generalize undid d b = ys at *
  have f9 := len_up hb hm hlen
  refine ent_of tok mixed (f := 52) Try.func52 (by kernel_rfl) (keep := false) ?_
  repeat' ((conv => whnf) <;> (first | ((with_reducible refine isCall ?_) <;> (first | (refine ⟨_, c1, ?_⟩; rintro _ _ ⟨rfl, rfl⟩) | (refine ⟨_, c2, ?_⟩; rintro _ _ ⟨rfl, rfl⟩) | (refine ⟨_, c3, ?_⟩; rintro _ _ ⟨rfl, rfl⟩) | (refine ⟨_, c4, ?_⟩; rintro _ _ ⟨rfl, rfl⟩) | (refine ⟨_, first_at (xs := xs) (k := k) (by assumption), ?_⟩) | (refine ⟨_, both_at (k := k) hb (by assumption), ?_⟩) | (refine ⟨_, first_at (xs := ys) (k := j) (by assumption), ?_⟩) | (refine ⟨_, prev_at hj hlen (by assumption), ?_⟩) | (refine ⟨prev_ge hj hlen (by assumption), ?_⟩) | exact ⟨⟨k + 1, _, up_i64 hlx (by assumption), lt_i64 (by assumption), rfl⟩, up_mu hlx (Nat.le_refl _) (by assumption)⟩ | exact ⟨⟨j + 1, _, up_i64 hlen (by assumption), Nat.le_add_left _ _, rfl⟩, up_mu hlen (Nat.le_succ _) (by assumption)⟩ | fail)) | ((with_reducible refine isLoop ?_) <;> (first | (refine ⟨[7, 8, 9], [], fun st => ∃ (k : Nat) (n : Int), n = k ∧ k ≤ xs.length ∧ st = ⟨[(7, .d (.sl false (xs.map i64D))), (8, .d (.sl false (ys.map i64D))), (9, .d (.i .i64 n))], []⟩, fun st => match look 9 st.env with | some (.d (.i _ n)) => xs.length - n.toNat | _ => 0, rfl, ⟨0, _, rfl, Nat.zero_le _, rfl⟩, ?_⟩; rintro _ ⟨k, n, rfl, hk, rfl⟩) | (refine ⟨[8, 10], [], fun st => ∃ (j : Nat) (n : Int), n = j ∧ 1 ≤ j ∧ st = ⟨[(8, .d (.sl false (ys.map i64D))), (10, .d (.i .i64 n))], []⟩, fun st => match look 10 st.env with | some (.d (.i _ n)) => (ys.length + 1) - n.toNat | _ => 0, rfl, ⟨1, _, rfl, Nat.le_refl _, rfl⟩, ?_⟩; rintro _ ⟨j, n, rfl, hj, rfl⟩) | (refine ⟨_, first_at (xs := xs) (k := k) (by assumption), ?_⟩) | (refine ⟨_, both_at (k := k) hb (by assumption), ?_⟩) | (refine ⟨_, first_at (xs := ys) (k := j) (by assumption), ?_⟩) | (refine ⟨_, prev_at hj hlen (by assumption), ?_⟩) | (refine ⟨prev_ge hj hlen (by assumption), ?_⟩) | exact ⟨⟨k + 1, _, up_i64 hlx (by assumption), lt_i64 (by assumption), rfl⟩, up_mu hlx (Nat.le_refl _) (by assumption)⟩ | exact ⟨⟨j + 1, _, up_i64 hlen (by assumption), Nat.le_add_left _ _, rfl⟩, up_mu hlen (Nat.le_succ _) (by assumption)⟩ | fail)) | ((with_reducible refine isCut ?_) <;> (first | refine ⟨⟨none⟩, ?_⟩)) | ((first | with_reducible refine isEx ?_ | with_reducible refine isAnd ?_ | with_reducible refine isOr ?_) <;> (first | (refine ⟨_, first_at (xs := xs) (k := k) (by assumption), ?_⟩) | (refine ⟨_, both_at (k := k) hb (by assumption), ?_⟩) | (refine ⟨_, first_at (xs := ys) (k := j) (by assumption), ?_⟩) | (refine ⟨_, prev_at hj hlen (by assumption), ?_⟩) | (refine ⟨prev_ge hj hlen (by assumption), ?_⟩) | exact ⟨⟨k + 1, _, up_i64 hlx (by assumption), lt_i64 (by assumption), rfl⟩, up_mu hlx (Nat.le_refl _) (by assumption)⟩ | exact ⟨⟨j + 1, _, up_i64 hlen (by assumption), Nat.le_add_left _ _, rfl⟩, up_mu hlen (Nat.le_succ _) (by assumption)⟩ | ((with_reducible refine isSmall ?_) <;> (refine ⟨?_, ?_⟩; kernel_rfl)) | refine ⟨rfl, ?_⟩ | refine ⟨Int.natCast_nonneg _, ?_⟩)) | with_reducible refine Both.mk ?_ ?_ | rintro _ rfl | exact rfl | (split <;> (rename_i h; first | (simp only [beq_self_eq_true, eq_self, decide_true, Bool.not_true, Bool.false_eq_true] at h; done) | (try rw [h])))))
  all_goals try (conv => whnf)
  all_goals first
    | exact ⟨rfl, rfl⟩
    | exact (desc_at hdesc hj (by assumption) (by assumption)).elim
    | (exfalso; simp only [decide_eq_true_eq, decide_eq_false_iff_not, Bool.not_eq_true', Bool.not_eq_false'] at *; first | omega | (have := f3 (by assumption); omega) | (have := f4 (by omega) (by omega); omega))
    | (with_reducible trace_state)
end Go.Pm.Try
