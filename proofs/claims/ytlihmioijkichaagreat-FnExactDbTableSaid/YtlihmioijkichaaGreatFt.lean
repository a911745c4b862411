/-
The laws' helpers for data of these types (printed by fam.py).
-/
import Derived.Test.YtlihmioijkichaaGreatTf
namespace Go.Pm.Tryz
open Go Go.Proofs
set_option linter.unusedVariables false
set_option linter.unusedSimpArgs false
set_option maxRecDepth 100000
def isValueS (x : D) : Prop := ∃ (a0 : List D), x = .sl false a0 ∧ AllOf isValue a0
def ownValueS (x : D) : Prop := ∃ (a0 : List D), x = .os 3 false a0 ∧ AllOf ownValue a0
theorem eraseValueS {x : D} (h : ownValueS x) : isValueS x.erase := by
  obtain ⟨a0, rfl, h0⟩ := h
  exact ⟨_, rfl, h0.erase fun _ => eraseValue⟩
theorem eqValueSS (xs : List D) (hP : AllOf isValueS xs) : Ent Tryz.prog 52 [.d (.sl false xs), .d (.sl false xs)] [] (.d (.b true)) [] := by
  refine ent_of tok mixed (f := 52) Tryz.func52 (by kernel_rfl) (keep := false) ?_
  repeat' ((conv => whnf) <;> (first
    | ((with_reducible refine isCall ?_) <;> (first
        | (refine ⟨_, eqValueS a0 h0, ?_⟩; rintro _ _ ⟨rfl, rfl⟩)
        | refine ⟨_, hx, ?_⟩
        | (obtain ⟨x, hx⟩ := get_ex (ss := xs) (k := k) (lt_of_dec0 (by assumption)); have hs := hP.all x (get_mem hx); obtain ⟨a0, rfl, h0⟩ := id hs; refine ⟨_, hx, ?_⟩)
        | exact ⟨rfl, ⟨k + 1, _, step_up (lt_of_dec0 (by assumption)) hP.len, lt_of_dec0 (by assumption), rfl⟩, mu_up (lt_of_dec0 (by assumption)) hP.len⟩
        | fail))
    | ((with_reducible refine isLoop ?_) <;> (first
        | (refine ⟨[5, 0, 1], [], fun s => ∃ (k : Nat) (n : Int), n = k ∧ k ≤ xs.length ∧ s = ⟨[(5, .d (.i .i64 n)), (0, .d (.sl false xs)), (1, .d (.sl false xs))], []⟩, fun s => match look 5 s.env with | some (.d (.i _ n)) => xs.length - n.toNat | _ => 0, rfl, ⟨0, _, rfl, Nat.zero_le _, rfl⟩, ?_⟩; rintro s ⟨k, n, rfl, hk, rfl⟩)
        | refine ⟨_, hx, ?_⟩
        | (obtain ⟨x, hx⟩ := get_ex (ss := xs) (k := k) (lt_of_dec0 (by assumption)); have hs := hP.all x (get_mem hx); obtain ⟨a0, rfl, h0⟩ := id hs; refine ⟨_, hx, ?_⟩)
        | exact ⟨rfl, ⟨k + 1, _, step_up (lt_of_dec0 (by assumption)) hP.len, lt_of_dec0 (by assumption), rfl⟩, mu_up (lt_of_dec0 (by assumption)) hP.len⟩
        | fail))
    | ((with_reducible refine isCut ?_) <;> (first
        | refine ⟨⟨none⟩, ?_⟩))
    | ((first | with_reducible refine isEx ?_ | with_reducible refine isAnd ?_ | with_reducible refine isOr ?_) <;> (first
        | refine ⟨_, hx, ?_⟩
        | (obtain ⟨x, hx⟩ := get_ex (ss := xs) (k := k) (lt_of_dec0 (by assumption)); have hs := hP.all x (get_mem hx); obtain ⟨a0, rfl, h0⟩ := id hs; refine ⟨_, hx, ?_⟩)
        | exact ⟨rfl, ⟨k + 1, _, step_up (lt_of_dec0 (by assumption)) hP.len, lt_of_dec0 (by assumption), rfl⟩, mu_up (lt_of_dec0 (by assumption)) hP.len⟩
        | ((with_reducible refine isSmall ?_) <;> (refine ⟨?_, ?_⟩; kernel_rfl))
        | refine ⟨rfl, ?_⟩
        | refine ⟨Int.natCast_nonneg _, ?_⟩))
    | with_reducible refine Both.mk ?_ ?_
    | rintro _ rfl
    | exact rfl
    | (split <;> (rename_i h; first | (simp only [beq_self_eq_true, eq_self, decide_true, Bool.not_true, Bool.false_eq_true] at h; done) | (try rw [h])))))
set_option maxHeartbeats 4000000 in
theorem markValueSS (xs : List D) (hP : AllOf ownValueS xs) (n : Int) (hn : n ≤ 9223372036854775807) : Ent Tryz.prog 56 [.own 0, .d (.i .i64 n)] [.arr 1 true xs] (.d (.i .i64 (ctL xs n))) [.arr 1 true (mkL xs n)] := by
  refine ent_of (cx := ⟨tab, [86], []⟩) tok mixed (f := 56) Tryz.func56 (by kernel_rfl) (keep := false) ?_
  repeat' ((conv => whnf) <;> (first
    | ((with_reducible refine isCall ?_) <;> (first
        | (refine ⟨_, markValueS a0 h0 _ (by first | assumption | exact wrap_le _ | exact ctL_le _ (by first | assumption | exact wrap_le _ | exact ctL_le _ (by first | assumption | exact wrap_le _ | exact ctL_le _ (by first | assumption | exact wrap_le _ | exact ctL_le _ (by first | assumption | exact wrap_le _))))), ?_⟩; rintro _ _ ⟨rfl, rfl⟩)
        | (refine ⟨_, markTextD _ (by first | assumption | exact wrap_le _ | exact ctL_le _ (by first | assumption | exact wrap_le _ | exact ctL_le _ (by first | assumption | exact wrap_le _ | exact ctL_le _ (by first | assumption | exact wrap_le _ | exact ctL_le _ (by first | assumption | exact wrap_le _))))), ?_⟩; rintro _ _ ⟨rfl, rfl⟩)
        | refine ⟨⟨Int.natCast_nonneg _, (by have := lt_of_dec0 (xs := zs) (k := k) (by assumption); (try simp only [baseXs_len, List.length_set]); omega)⟩, ?_⟩
        | refine ⟨_, hzx, ?_⟩
        | refine .inl ⟨rfl, ?_⟩
        | refine ⟨_, set_get (n := zs.length) (by simp only [baseXs_len, List.length_set]) (get_lt hzx), ?_⟩
        | (obtain ⟨x, hx⟩ := get_ex (ss := xs) (k := k) (by have := lt_of_dec0 (xs := zs) (k := k) (by assumption); omega); obtain ⟨a0, rfl, h0⟩ := hP.all x (get_mem hx); have hzx := mk_at (n := n) hx; rw [← hz] at hzx; refine ⟨_, hzx, ?_⟩)
        | refine ⟨(by decide : (3 : Int) ≠ 0), ?_⟩
        | fail))
    | ((with_reducible refine isLoop ?_) <;> (first
        | (refine ⟨[5, 1, 0], [0], fun s => ∃ (k : Nat) (i c : Int) (zs : List D), i = k ∧ k ≤ xs.length ∧ c = ctL (xs.take k) n ∧ zs = mkL (xs.take k) n ++ xs.drop k ∧ zs.length = xs.length ∧ s = ⟨[(5, .d (.i .i64 i)), (1, .d (.i .i64 c)), (0, .own 0)], [(0, .arr 1 true zs)]⟩, fun s => match look 5 s.env with | some (.d (.i _ i)) => xs.length - i.toNat | _ => 0, rfl, ⟨0, _, _, _, rfl, Nat.zero_le _, rfl, rfl, rfl, rfl⟩, ?_⟩; rintro s ⟨k, i, c, zs, rfl, hk, hc, hz, hzl, rfl⟩; have hcl : c ≤ 9223372036854775807 := (by rw [hc]; exact ctL_le _ hn))
        | refine ⟨⟨Int.natCast_nonneg _, (by have := lt_of_dec0 (xs := zs) (k := k) (by assumption); (try simp only [baseXs_len, List.length_set]); omega)⟩, ?_⟩
        | refine ⟨_, hzx, ?_⟩
        | refine .inl ⟨rfl, ?_⟩
        | refine ⟨_, set_get (n := zs.length) (by simp only [baseXs_len, List.length_set]) (get_lt hzx), ?_⟩
        | (obtain ⟨x, hx⟩ := get_ex (ss := xs) (k := k) (by have := lt_of_dec0 (xs := zs) (k := k) (by assumption); omega); obtain ⟨a0, rfl, h0⟩ := hP.all x (get_mem hx); have hzx := mk_at (n := n) hx; rw [← hz] at hzx; refine ⟨_, hzx, ?_⟩)
        | refine ⟨(by decide : (3 : Int) ≠ 0), ?_⟩
        | fail))
    | ((with_reducible refine isCut ?_) <;> (first
        | refine ⟨⟨none⟩, ?_⟩))
    | ((first | with_reducible refine isEx ?_ | with_reducible refine isAnd ?_ | with_reducible refine isOr ?_) <;> (first
        | refine ⟨⟨Int.natCast_nonneg _, (by have := lt_of_dec0 (xs := zs) (k := k) (by assumption); (try simp only [baseXs_len, List.length_set]); omega)⟩, ?_⟩
        | refine ⟨_, hzx, ?_⟩
        | refine .inl ⟨rfl, ?_⟩
        | refine ⟨_, set_get (n := zs.length) (by simp only [baseXs_len, List.length_set]) (get_lt hzx), ?_⟩
        | (obtain ⟨x, hx⟩ := get_ex (ss := xs) (k := k) (by have := lt_of_dec0 (xs := zs) (k := k) (by assumption); omega); obtain ⟨a0, rfl, h0⟩ := hP.all x (get_mem hx); have hzx := mk_at (n := n) hx; rw [← hz] at hzx; refine ⟨_, hzx, ?_⟩)
        | refine ⟨(by decide : (3 : Int) ≠ 0), ?_⟩
        | ((with_reducible refine isSmall ?_) <;> (refine ⟨?_, ?_⟩; kernel_rfl))
        | refine ⟨rfl, ?_⟩
        | refine ⟨Int.natCast_nonneg _, ?_⟩))
    | with_reducible refine Both.mk ?_ ?_
    | rintro _ rfl
    | exact rfl
    | (split <;> (rename_i h; first | (simp only [beq_self_eq_true, eq_self, decide_true, Bool.not_true, Bool.false_eq_true] at h; done) | (try rw [h])))))
  all_goals (conv => whnf)
  · have hk2 : k < xs.length := get_lt hx
    subst hc
    refine ⟨⟨k + 1, _, _, _, step_up hk2 hP.len, hk2, (ct_up hx).symm, ?_, ?_, rfl⟩, mu_up hk2 hP.len⟩
    · show (zs.set k _) = _
      rw [hz]; exact mk_set hx
    · show (zs.set k _).length = _
      simp only [List.length_set]; exact hzl
  · have e : k = xs.length := by have := of_decide_eq_false (by assumption : decide ((k : Int) < (zs.length : Int)) = false); omega
    obtain ⟨e1, e2⟩ := mk_all (xs := xs) (n := n) e
    rw [hz, hc, e1, e2]; exact ⟨rfl, rfl⟩
set_option maxHeartbeats 4000000 in
theorem heldValueSS (xs : List D) (hP : AllOf isValueS xs) (n : Int) (hF : Fine xs n) : Ent Tryz.prog 58 [.d (.sl false (mkL xs n)), .d (.i .i64 n)] [] (.d (.i .i64 (ctL xs n))) [] := by
  have hml := mkL_len xs n
  refine ent_of tok mixed (f := 58) Tryz.func58 (by kernel_rfl) (keep := false) ?_
  repeat' ((conv => whnf) <;> (first
    | ((with_reducible refine isCall ?_) <;> (first
        | (refine ⟨_, heldValueS a0 h0 _ f0, ?_⟩; rintro _ _ ⟨rfl, rfl⟩)
        | (refine ⟨_, markTextD _ (by first | assumption | exact wrap_le _ | exact ctL_le _ (by first | assumption | exact wrap_le _ | exact ctL_le _ (by first | assumption | exact wrap_le _ | exact ctL_le _ (by first | assumption | exact wrap_le _ | exact ctL_le _ (by first | assumption | exact wrap_le _))))), ?_⟩; rintro _ _ ⟨rfl, rfl⟩)
        | refine ⟨_, he, ?_⟩
        | (obtain ⟨x, hx⟩ := get_ex (ss := xs) (k := k) (by have := lt_of_dec0 (by assumption); omega); obtain ⟨a0, rfl, h0⟩ := hP.all x (get_mem hx); have he : (mkL xs n)[k]? = some (.sl false (mkL a0 c)) := (by rw [hc]; exact mk_get hx); have f0 : Fine a0 c := (by rw [hc]; have := hF.take hx; exact ⟨this.1, by simpa only [cntD] using this.2⟩); have g0 : ¬ ctL a0 c < 0 := (by have := f0.out; omega); refine ⟨_, he, ?_⟩)
        | refine ⟨(by decide : (3 : Int) ≠ 0), ?_⟩
        | fail))
    | ((with_reducible refine isLoop ?_) <;> (first
        | (refine ⟨[5, 1, 0], [], fun s => ∃ (k : Nat) (i c : Int), i = k ∧ k ≤ xs.length ∧ c = ctL (xs.take k) n ∧ s = ⟨[(5, .d (.i .i64 i)), (1, .d (.i .i64 c)), (0, .d (.sl false (mkL xs n)))], []⟩, fun s => match look 5 s.env with | some (.d (.i _ i)) => xs.length - i.toNat | _ => 0, rfl, ⟨0, _, _, rfl, Nat.zero_le _, rfl, rfl⟩, ?_⟩; rintro s ⟨k, i, c, rfl, hk, hc, rfl⟩; have hcl : c ≤ 9223372036854775807 := (by rw [hc]; exact ctL_le _ (by have := hF.lo; have := hF.hi; omega)))
        | refine ⟨_, he, ?_⟩
        | (obtain ⟨x, hx⟩ := get_ex (ss := xs) (k := k) (by have := lt_of_dec0 (by assumption); omega); obtain ⟨a0, rfl, h0⟩ := hP.all x (get_mem hx); have he : (mkL xs n)[k]? = some (.sl false (mkL a0 c)) := (by rw [hc]; exact mk_get hx); have f0 : Fine a0 c := (by rw [hc]; have := hF.take hx; exact ⟨this.1, by simpa only [cntD] using this.2⟩); have g0 : ¬ ctL a0 c < 0 := (by have := f0.out; omega); refine ⟨_, he, ?_⟩)
        | refine ⟨(by decide : (3 : Int) ≠ 0), ?_⟩
        | fail))
    | ((with_reducible refine isCut ?_) <;> (first
        | refine ⟨⟨none⟩, ?_⟩))
    | ((first | with_reducible refine isEx ?_ | with_reducible refine isAnd ?_ | with_reducible refine isOr ?_) <;> (first
        | refine ⟨_, he, ?_⟩
        | (obtain ⟨x, hx⟩ := get_ex (ss := xs) (k := k) (by have := lt_of_dec0 (by assumption); omega); obtain ⟨a0, rfl, h0⟩ := hP.all x (get_mem hx); have he : (mkL xs n)[k]? = some (.sl false (mkL a0 c)) := (by rw [hc]; exact mk_get hx); have f0 : Fine a0 c := (by rw [hc]; have := hF.take hx; exact ⟨this.1, by simpa only [cntD] using this.2⟩); have g0 : ¬ ctL a0 c < 0 := (by have := f0.out; omega); refine ⟨_, he, ?_⟩)
        | refine ⟨(by decide : (3 : Int) ≠ 0), ?_⟩
        | ((with_reducible refine isSmall ?_) <;> (refine ⟨?_, ?_⟩; kernel_rfl))
        | refine ⟨rfl, ?_⟩
        | refine ⟨Int.natCast_nonneg _, ?_⟩))
    | with_reducible refine Both.mk ?_ ?_
    | (exfalso; exact absurd (of_decide_eq_true (by assumption)) g0)
    | rintro _ rfl
    | exact rfl
    | (split <;> (rename_i h; first | (simp only [beq_self_eq_true, eq_self, decide_true, Bool.not_true, Bool.false_eq_true] at h; done) | (try rw [h])))))
  all_goals (conv => whnf)
  · have hk2 : k < xs.length := get_lt hx
    subst hc
    exact ⟨⟨k + 1, _, _, step_up hk2 hP.len, hk2, (ct_up hx).symm, rfl⟩, mu_up hk2 hP.len⟩
  · have e : k = xs.length := by have := of_decide_eq_false (by assumption : decide ((k : Int) < ((mkL xs n).length : Int)) = false); omega
    rw [hc, (mk_all (xs := xs) (n := n) e).2]; exact ⟨rfl, rfl⟩
def isTable (x : D) : Prop := ∃ (a0 : List UInt8) (a1 : List D) (a2 : List D) (a3 : List D) (a4 : List D), x = .agg [.s a0, .sl false a1, .sl false a2, .sl false a3, .sl false a4] ∧ AllOf isColumn a1 ∧ AllOf isInt64 a2 ∧ AllOf isIndex a3 ∧ AllOf isValueS a4
def ownTable (x : D) : Prop := ∃ (a0 : List UInt8) (a1 : List D) (a2 : List D) (a3 : List D) (a4 : List D), x = .agg [.s a0, .os 3 false a1, .os 1 false a2, .os 2 true a3, .os 1 true a4] ∧ AllOf ownColumn a1 ∧ AllOf ownInt64 a2 ∧ AllOf ownIndex a3 ∧ AllOf ownValueS a4
theorem eraseTable {x : D} (h : ownTable x) : isTable x.erase := by
  obtain ⟨a0, a1, a2, a3, a4, rfl, h1, h2, h3, h4⟩ := h
  exact ⟨_, _, _, _, _, rfl, h1.erase fun _ => eraseColumn, h2.erase fun _ => eraseInt64, h3.erase fun _ => eraseIndex, h4.erase fun _ => eraseValueS⟩
set_option maxHeartbeats 1000000 in
theorem eqTable (x : D) (hP : isTable x) : Ent Tryz.prog 13 [.d x, .d x] [] (.d (.b true)) [] := by
  obtain ⟨a0, a1, a2, a3, a4, rfl, h1, h2, h3, h4⟩ := hP
  refine ent_of tok mixed (f := 13) Tryz.func13 (by kernel_rfl) (keep := false) ?_
  repeat' ((conv => whnf) <;> (first
    | ((with_reducible refine isCall ?_) <;> (first
        | (refine ⟨_, eqSchema _ ⟨_, _, _, _, rfl, h1, h2, h3⟩, ?_⟩; rintro _ _ ⟨rfl, rfl⟩)
        | (refine ⟨_, eqValueSS _ h4, ?_⟩; rintro _ _ ⟨rfl, rfl⟩)
        | fail))
    | ((with_reducible refine isLoop ?_) <;> (first
        | fail))
    | ((with_reducible refine isCut ?_) <;> (first
        | refine ⟨⟨none⟩, ?_⟩))
    | ((first | with_reducible refine isEx ?_ | with_reducible refine isAnd ?_ | with_reducible refine isOr ?_) <;> (first
        | ((with_reducible refine isSmall ?_) <;> (refine ⟨?_, ?_⟩; kernel_rfl))
        | refine ⟨rfl, ?_⟩
        | refine ⟨Int.natCast_nonneg _, ?_⟩))
    | with_reducible refine Both.mk ?_ ?_
    | rintro _ rfl
    | exact rfl
    | (split <;> (rename_i h; first | (simp only [beq_self_eq_true, eq_self, decide_true, Bool.not_true, Bool.false_eq_true] at h; done) | (try rw [h])))))
theorem eqTableS (xs : List D) (hP : AllOf isTable xs) : Ent Tryz.prog 53 [.d (.sl false xs), .d (.sl false xs)] [] (.d (.b true)) [] := by
  refine ent_of tok mixed (f := 53) Tryz.func53 (by kernel_rfl) (keep := false) ?_
  repeat' ((conv => whnf) <;> (first
    | ((with_reducible refine isCall ?_) <;> (first
        | (refine ⟨_, eqTable _ hs, ?_⟩; rintro _ _ ⟨rfl, rfl⟩)
        | refine ⟨_, hx, ?_⟩
        | (obtain ⟨x, hx⟩ := get_ex (ss := xs) (k := k) (lt_of_dec0 (by assumption)); have hs := hP.all x (get_mem hx); obtain ⟨a0, a1, a2, a3, a4, rfl, h1, h2, h3, h4⟩ := id hs; refine ⟨_, hx, ?_⟩)
        | exact ⟨rfl, ⟨k + 1, _, step_up (lt_of_dec0 (by assumption)) hP.len, lt_of_dec0 (by assumption), rfl⟩, mu_up (lt_of_dec0 (by assumption)) hP.len⟩
        | fail))
    | ((with_reducible refine isLoop ?_) <;> (first
        | (refine ⟨[5, 0, 1], [], fun s => ∃ (k : Nat) (n : Int), n = k ∧ k ≤ xs.length ∧ s = ⟨[(5, .d (.i .i64 n)), (0, .d (.sl false xs)), (1, .d (.sl false xs))], []⟩, fun s => match look 5 s.env with | some (.d (.i _ n)) => xs.length - n.toNat | _ => 0, rfl, ⟨0, _, rfl, Nat.zero_le _, rfl⟩, ?_⟩; rintro s ⟨k, n, rfl, hk, rfl⟩)
        | refine ⟨_, hx, ?_⟩
        | (obtain ⟨x, hx⟩ := get_ex (ss := xs) (k := k) (lt_of_dec0 (by assumption)); have hs := hP.all x (get_mem hx); obtain ⟨a0, a1, a2, a3, a4, rfl, h1, h2, h3, h4⟩ := id hs; refine ⟨_, hx, ?_⟩)
        | exact ⟨rfl, ⟨k + 1, _, step_up (lt_of_dec0 (by assumption)) hP.len, lt_of_dec0 (by assumption), rfl⟩, mu_up (lt_of_dec0 (by assumption)) hP.len⟩
        | fail))
    | ((with_reducible refine isCut ?_) <;> (first
        | refine ⟨⟨none⟩, ?_⟩))
    | ((first | with_reducible refine isEx ?_ | with_reducible refine isAnd ?_ | with_reducible refine isOr ?_) <;> (first
        | refine ⟨_, hx, ?_⟩
        | (obtain ⟨x, hx⟩ := get_ex (ss := xs) (k := k) (lt_of_dec0 (by assumption)); have hs := hP.all x (get_mem hx); obtain ⟨a0, a1, a2, a3, a4, rfl, h1, h2, h3, h4⟩ := id hs; refine ⟨_, hx, ?_⟩)
        | exact ⟨rfl, ⟨k + 1, _, step_up (lt_of_dec0 (by assumption)) hP.len, lt_of_dec0 (by assumption), rfl⟩, mu_up (lt_of_dec0 (by assumption)) hP.len⟩
        | ((with_reducible refine isSmall ?_) <;> (refine ⟨?_, ?_⟩; kernel_rfl))
        | refine ⟨rfl, ?_⟩
        | refine ⟨Int.natCast_nonneg _, ?_⟩))
    | with_reducible refine Both.mk ?_ ?_
    | rintro _ rfl
    | exact rfl
    | (split <;> (rename_i h; first | (simp only [beq_self_eq_true, eq_self, decide_true, Bool.not_true, Bool.false_eq_true] at h; done) | (try rw [h])))))
set_option maxHeartbeats 4000000 in
theorem markTableS (xs : List D) (hP : AllOf ownTable xs) (n : Int) (hn : n ≤ 9223372036854775807) : Ent Tryz.prog 54 [.own 0, .d (.i .i64 n)] [.arr 5 true xs] (.d (.i .i64 (ctL xs n))) [.arr 5 true (mkL xs n)] := by
  refine ent_of (cx := ⟨tab, [83, 85, 84, 56], []⟩) tok mixed (f := 54) Tryz.func54 (by kernel_rfl) (keep := false) ?_
  repeat' ((conv => whnf) <;> (first
    | ((with_reducible refine isCall ?_) <;> (first
        | (refine ⟨_, markColumnS a1 h1 _ (by first | assumption | exact wrap_le _ | exact ctL_le _ (by first | assumption | exact wrap_le _ | exact ctL_le _ (by first | assumption | exact wrap_le _ | exact ctL_le _ (by first | assumption | exact wrap_le _ | exact ctL_le _ (by first | assumption | exact wrap_le _))))), ?_⟩; rintro _ _ ⟨rfl, rfl⟩)
        | (refine ⟨_, markInt64S a2 h2 _ (by first | assumption | exact wrap_le _ | exact ctL_le _ (by first | assumption | exact wrap_le _ | exact ctL_le _ (by first | assumption | exact wrap_le _ | exact ctL_le _ (by first | assumption | exact wrap_le _ | exact ctL_le _ (by first | assumption | exact wrap_le _))))), ?_⟩; rintro _ _ ⟨rfl, rfl⟩)
        | (refine ⟨_, markIndexS a3 h3 _ (by first | assumption | exact wrap_le _ | exact ctL_le _ (by first | assumption | exact wrap_le _ | exact ctL_le _ (by first | assumption | exact wrap_le _ | exact ctL_le _ (by first | assumption | exact wrap_le _ | exact ctL_le _ (by first | assumption | exact wrap_le _))))), ?_⟩; rintro _ _ ⟨rfl, rfl⟩)
        | (refine ⟨_, markValueSS a4 h4 _ (by first | assumption | exact wrap_le _ | exact ctL_le _ (by first | assumption | exact wrap_le _ | exact ctL_le _ (by first | assumption | exact wrap_le _ | exact ctL_le _ (by first | assumption | exact wrap_le _ | exact ctL_le _ (by first | assumption | exact wrap_le _))))), ?_⟩; rintro _ _ ⟨rfl, rfl⟩)
        | (refine ⟨_, markTextD _ (by first | assumption | exact wrap_le _ | exact ctL_le _ (by first | assumption | exact wrap_le _ | exact ctL_le _ (by first | assumption | exact wrap_le _ | exact ctL_le _ (by first | assumption | exact wrap_le _ | exact ctL_le _ (by first | assumption | exact wrap_le _))))), ?_⟩; rintro _ _ ⟨rfl, rfl⟩)
        | refine ⟨⟨Int.natCast_nonneg _, (by have := lt_of_dec0 (xs := zs) (k := k) (by assumption); (try simp only [baseXs_len, List.length_set]); omega)⟩, ?_⟩
        | refine ⟨_, hzx, ?_⟩
        | refine .inl ⟨rfl, ?_⟩
        | refine ⟨_, set_get (n := zs.length) (by simp only [baseXs_len, List.length_set]) (get_lt hzx), ?_⟩
        | (obtain ⟨x, hx⟩ := get_ex (ss := xs) (k := k) (by have := lt_of_dec0 (xs := zs) (k := k) (by assumption); omega); obtain ⟨a0, a1, a2, a3, a4, rfl, h1, h2, h3, h4⟩ := hP.all x (get_mem hx); have hzx := mk_at (n := n) hx; rw [← hz] at hzx; refine ⟨_, hzx, ?_⟩)
        | refine ⟨(by decide : (3 : Int) ≠ 0), ?_⟩
        | fail))
    | ((with_reducible refine isLoop ?_) <;> (first
        | (refine ⟨[5, 1, 0], [0], fun s => ∃ (k : Nat) (i c : Int) (zs : List D), i = k ∧ k ≤ xs.length ∧ c = ctL (xs.take k) n ∧ zs = mkL (xs.take k) n ++ xs.drop k ∧ zs.length = xs.length ∧ s = ⟨[(5, .d (.i .i64 i)), (1, .d (.i .i64 c)), (0, .own 0)], [(0, .arr 5 true zs)]⟩, fun s => match look 5 s.env with | some (.d (.i _ i)) => xs.length - i.toNat | _ => 0, rfl, ⟨0, _, _, _, rfl, Nat.zero_le _, rfl, rfl, rfl, rfl⟩, ?_⟩; rintro s ⟨k, i, c, zs, rfl, hk, hc, hz, hzl, rfl⟩; have hcl : c ≤ 9223372036854775807 := (by rw [hc]; exact ctL_le _ hn))
        | refine ⟨⟨Int.natCast_nonneg _, (by have := lt_of_dec0 (xs := zs) (k := k) (by assumption); (try simp only [baseXs_len, List.length_set]); omega)⟩, ?_⟩
        | refine ⟨_, hzx, ?_⟩
        | refine .inl ⟨rfl, ?_⟩
        | refine ⟨_, set_get (n := zs.length) (by simp only [baseXs_len, List.length_set]) (get_lt hzx), ?_⟩
        | (obtain ⟨x, hx⟩ := get_ex (ss := xs) (k := k) (by have := lt_of_dec0 (xs := zs) (k := k) (by assumption); omega); obtain ⟨a0, a1, a2, a3, a4, rfl, h1, h2, h3, h4⟩ := hP.all x (get_mem hx); have hzx := mk_at (n := n) hx; rw [← hz] at hzx; refine ⟨_, hzx, ?_⟩)
        | refine ⟨(by decide : (3 : Int) ≠ 0), ?_⟩
        | fail))
    | ((with_reducible refine isCut ?_) <;> (first
        | refine ⟨⟨none⟩, ?_⟩))
    | ((first | with_reducible refine isEx ?_ | with_reducible refine isAnd ?_ | with_reducible refine isOr ?_) <;> (first
        | refine ⟨⟨Int.natCast_nonneg _, (by have := lt_of_dec0 (xs := zs) (k := k) (by assumption); (try simp only [baseXs_len, List.length_set]); omega)⟩, ?_⟩
        | refine ⟨_, hzx, ?_⟩
        | refine .inl ⟨rfl, ?_⟩
        | refine ⟨_, set_get (n := zs.length) (by simp only [baseXs_len, List.length_set]) (get_lt hzx), ?_⟩
        | (obtain ⟨x, hx⟩ := get_ex (ss := xs) (k := k) (by have := lt_of_dec0 (xs := zs) (k := k) (by assumption); omega); obtain ⟨a0, a1, a2, a3, a4, rfl, h1, h2, h3, h4⟩ := hP.all x (get_mem hx); have hzx := mk_at (n := n) hx; rw [← hz] at hzx; refine ⟨_, hzx, ?_⟩)
        | refine ⟨(by decide : (3 : Int) ≠ 0), ?_⟩
        | ((with_reducible refine isSmall ?_) <;> (refine ⟨?_, ?_⟩; kernel_rfl))
        | refine ⟨rfl, ?_⟩
        | refine ⟨Int.natCast_nonneg _, ?_⟩))
    | with_reducible refine Both.mk ?_ ?_
    | rintro _ rfl
    | exact rfl
    | (split <;> (rename_i h; first | (simp only [beq_self_eq_true, eq_self, decide_true, Bool.not_true, Bool.false_eq_true] at h; done) | (try rw [h])))))
  all_goals (conv => whnf)
  · have hk2 : k < xs.length := get_lt hx
    subst hc
    refine ⟨⟨k + 1, _, _, _, step_up hk2 hP.len, hk2, (ct_up hx).symm, ?_, ?_, rfl⟩, mu_up hk2 hP.len⟩
    · show ((zs.set k _).set k _) = _
      simp only [List.set_set]
      rw [hz]; exact mk_set hx
    · show ((zs.set k _).set k _).length = _
      simp only [List.length_set]; exact hzl
  · have e : k = xs.length := by have := of_decide_eq_false (by assumption : decide ((k : Int) < (zs.length : Int)) = false); omega
    obtain ⟨e1, e2⟩ := mk_all (xs := xs) (n := n) e
    rw [hz, hc, e1, e2]; exact ⟨rfl, rfl⟩
set_option maxHeartbeats 4000000 in
theorem heldTableS (xs : List D) (hP : AllOf isTable xs) (n : Int) (hF : Fine xs n) : Ent Tryz.prog 123 [.d (.sl false (mkL xs n)), .d (.i .i64 n)] [] (.d (.i .i64 (ctL xs n))) [] := by
  have hml := mkL_len xs n
  refine ent_of tok mixed (f := 123) Tryz.func123 (by kernel_rfl) (keep := false) ?_
  repeat' ((conv => whnf) <;> (first
    | ((with_reducible refine isCall ?_) <;> (first
        | (refine ⟨_, heldColumnS a1 h1 _ f1, ?_⟩; rintro _ _ ⟨rfl, rfl⟩)
        | (refine ⟨_, heldInt64S a2 h2 _ f2, ?_⟩; rintro _ _ ⟨rfl, rfl⟩)
        | (refine ⟨_, heldIndexS a3 h3 _ f3, ?_⟩; rintro _ _ ⟨rfl, rfl⟩)
        | (refine ⟨_, heldValueSS a4 h4 _ f4, ?_⟩; rintro _ _ ⟨rfl, rfl⟩)
        | (refine ⟨_, markTextD _ (by first | assumption | exact wrap_le _ | exact ctL_le _ (by first | assumption | exact wrap_le _ | exact ctL_le _ (by first | assumption | exact wrap_le _ | exact ctL_le _ (by first | assumption | exact wrap_le _ | exact ctL_le _ (by first | assumption | exact wrap_le _))))), ?_⟩; rintro _ _ ⟨rfl, rfl⟩)
        | refine ⟨_, he, ?_⟩
        | (obtain ⟨x, hx⟩ := get_ex (ss := xs) (k := k) (by have := lt_of_dec0 (by assumption); omega); obtain ⟨a0, a1, a2, a3, a4, rfl, h1, h2, h3, h4⟩ := hP.all x (get_mem hx); have he : (mkL xs n)[k]? = some (.agg [.s (markTextM c), .sl false (mkL a1 (IntKind.i64.wrap (c + 1))), .sl false (mkL a2 (ctL a1 (IntKind.i64.wrap (c + 1)))), .sl false (mkL a3 (ctL a2 (ctL a1 (IntKind.i64.wrap (c + 1))))), .sl false (mkL a4 (ctL a3 (ctL a2 (ctL a1 (IntKind.i64.wrap (c + 1))))))]) := (by rw [hc]; exact mk_get hx); have hf : 0 ≤ c ∧ c + cntL [.s a0, .sl false a1, .sl false a2, .sl false a3, .sl false a4] ≤ 1000000000000000 := (by rw [hc]; have := hF.take hx; simpa only [cntD] using this); have f1 : Fine a1 (IntKind.i64.wrap (c + 1)) := Fine.cell (j := 1) hf rfl; have g1 : ¬ ctL a1 (IntKind.i64.wrap (c + 1)) < 0 := (by have := f1.out; omega); have f2 : Fine a2 (ctL a1 (IntKind.i64.wrap (c + 1))) := Fine.cell (j := 2) hf rfl; have g2 : ¬ ctL a2 (ctL a1 (IntKind.i64.wrap (c + 1))) < 0 := (by have := f2.out; omega); have f3 : Fine a3 (ctL a2 (ctL a1 (IntKind.i64.wrap (c + 1)))) := Fine.cell (j := 3) hf rfl; have g3 : ¬ ctL a3 (ctL a2 (ctL a1 (IntKind.i64.wrap (c + 1)))) < 0 := (by have := f3.out; omega); have f4 : Fine a4 (ctL a3 (ctL a2 (ctL a1 (IntKind.i64.wrap (c + 1))))) := Fine.cell (j := 4) hf rfl; have g4 : ¬ ctL a4 (ctL a3 (ctL a2 (ctL a1 (IntKind.i64.wrap (c + 1))))) < 0 := (by have := f4.out; omega); refine ⟨_, he, ?_⟩)
        | refine ⟨(by decide : (3 : Int) ≠ 0), ?_⟩
        | fail))
    | ((with_reducible refine isLoop ?_) <;> (first
        | (refine ⟨[5, 1, 0], [], fun s => ∃ (k : Nat) (i c : Int), i = k ∧ k ≤ xs.length ∧ c = ctL (xs.take k) n ∧ s = ⟨[(5, .d (.i .i64 i)), (1, .d (.i .i64 c)), (0, .d (.sl false (mkL xs n)))], []⟩, fun s => match look 5 s.env with | some (.d (.i _ i)) => xs.length - i.toNat | _ => 0, rfl, ⟨0, _, _, rfl, Nat.zero_le _, rfl, rfl⟩, ?_⟩; rintro s ⟨k, i, c, rfl, hk, hc, rfl⟩; have hcl : c ≤ 9223372036854775807 := (by rw [hc]; exact ctL_le _ (by have := hF.lo; have := hF.hi; omega)))
        | refine ⟨_, he, ?_⟩
        | (obtain ⟨x, hx⟩ := get_ex (ss := xs) (k := k) (by have := lt_of_dec0 (by assumption); omega); obtain ⟨a0, a1, a2, a3, a4, rfl, h1, h2, h3, h4⟩ := hP.all x (get_mem hx); have he : (mkL xs n)[k]? = some (.agg [.s (markTextM c), .sl false (mkL a1 (IntKind.i64.wrap (c + 1))), .sl false (mkL a2 (ctL a1 (IntKind.i64.wrap (c + 1)))), .sl false (mkL a3 (ctL a2 (ctL a1 (IntKind.i64.wrap (c + 1))))), .sl false (mkL a4 (ctL a3 (ctL a2 (ctL a1 (IntKind.i64.wrap (c + 1))))))]) := (by rw [hc]; exact mk_get hx); have hf : 0 ≤ c ∧ c + cntL [.s a0, .sl false a1, .sl false a2, .sl false a3, .sl false a4] ≤ 1000000000000000 := (by rw [hc]; have := hF.take hx; simpa only [cntD] using this); have f1 : Fine a1 (IntKind.i64.wrap (c + 1)) := Fine.cell (j := 1) hf rfl; have g1 : ¬ ctL a1 (IntKind.i64.wrap (c + 1)) < 0 := (by have := f1.out; omega); have f2 : Fine a2 (ctL a1 (IntKind.i64.wrap (c + 1))) := Fine.cell (j := 2) hf rfl; have g2 : ¬ ctL a2 (ctL a1 (IntKind.i64.wrap (c + 1))) < 0 := (by have := f2.out; omega); have f3 : Fine a3 (ctL a2 (ctL a1 (IntKind.i64.wrap (c + 1)))) := Fine.cell (j := 3) hf rfl; have g3 : ¬ ctL a3 (ctL a2 (ctL a1 (IntKind.i64.wrap (c + 1)))) < 0 := (by have := f3.out; omega); have f4 : Fine a4 (ctL a3 (ctL a2 (ctL a1 (IntKind.i64.wrap (c + 1))))) := Fine.cell (j := 4) hf rfl; have g4 : ¬ ctL a4 (ctL a3 (ctL a2 (ctL a1 (IntKind.i64.wrap (c + 1))))) < 0 := (by have := f4.out; omega); refine ⟨_, he, ?_⟩)
        | refine ⟨(by decide : (3 : Int) ≠ 0), ?_⟩
        | fail))
    | ((with_reducible refine isCut ?_) <;> (first
        | refine ⟨⟨none⟩, ?_⟩))
    | ((first | with_reducible refine isEx ?_ | with_reducible refine isAnd ?_ | with_reducible refine isOr ?_) <;> (first
        | refine ⟨_, he, ?_⟩
        | (obtain ⟨x, hx⟩ := get_ex (ss := xs) (k := k) (by have := lt_of_dec0 (by assumption); omega); obtain ⟨a0, a1, a2, a3, a4, rfl, h1, h2, h3, h4⟩ := hP.all x (get_mem hx); have he : (mkL xs n)[k]? = some (.agg [.s (markTextM c), .sl false (mkL a1 (IntKind.i64.wrap (c + 1))), .sl false (mkL a2 (ctL a1 (IntKind.i64.wrap (c + 1)))), .sl false (mkL a3 (ctL a2 (ctL a1 (IntKind.i64.wrap (c + 1))))), .sl false (mkL a4 (ctL a3 (ctL a2 (ctL a1 (IntKind.i64.wrap (c + 1))))))]) := (by rw [hc]; exact mk_get hx); have hf : 0 ≤ c ∧ c + cntL [.s a0, .sl false a1, .sl false a2, .sl false a3, .sl false a4] ≤ 1000000000000000 := (by rw [hc]; have := hF.take hx; simpa only [cntD] using this); have f1 : Fine a1 (IntKind.i64.wrap (c + 1)) := Fine.cell (j := 1) hf rfl; have g1 : ¬ ctL a1 (IntKind.i64.wrap (c + 1)) < 0 := (by have := f1.out; omega); have f2 : Fine a2 (ctL a1 (IntKind.i64.wrap (c + 1))) := Fine.cell (j := 2) hf rfl; have g2 : ¬ ctL a2 (ctL a1 (IntKind.i64.wrap (c + 1))) < 0 := (by have := f2.out; omega); have f3 : Fine a3 (ctL a2 (ctL a1 (IntKind.i64.wrap (c + 1)))) := Fine.cell (j := 3) hf rfl; have g3 : ¬ ctL a3 (ctL a2 (ctL a1 (IntKind.i64.wrap (c + 1)))) < 0 := (by have := f3.out; omega); have f4 : Fine a4 (ctL a3 (ctL a2 (ctL a1 (IntKind.i64.wrap (c + 1))))) := Fine.cell (j := 4) hf rfl; have g4 : ¬ ctL a4 (ctL a3 (ctL a2 (ctL a1 (IntKind.i64.wrap (c + 1))))) < 0 := (by have := f4.out; omega); refine ⟨_, he, ?_⟩)
        | refine ⟨(by decide : (3 : Int) ≠ 0), ?_⟩
        | ((with_reducible refine isSmall ?_) <;> (refine ⟨?_, ?_⟩; kernel_rfl))
        | refine ⟨rfl, ?_⟩
        | refine ⟨Int.natCast_nonneg _, ?_⟩))
    | with_reducible refine Both.mk ?_ ?_
    | (exfalso; exact absurd (of_decide_eq_true (by assumption)) g1)
    | (exfalso; exact absurd (of_decide_eq_true (by assumption)) g2)
    | (exfalso; exact absurd (of_decide_eq_true (by assumption)) g3)
    | (exfalso; exact absurd (of_decide_eq_true (by assumption)) g4)
    | rintro _ rfl
    | exact rfl
    | (split <;> (rename_i h; first | (simp only [beq_self_eq_true, eq_self, decide_true, Bool.not_true, Bool.false_eq_true] at h; done) | (try rw [h])))))
  all_goals (conv => whnf)
  · have hk2 : k < xs.length := get_lt hx
    subst hc
    exact ⟨⟨k + 1, _, _, step_up hk2 hP.len, hk2, (ct_up hx).symm, rfl⟩, mu_up hk2 hP.len⟩
  · have e : k = xs.length := by have := of_decide_eq_false (by assumption : decide ((k : Int) < ((mkL xs n).length : Int)) = false); omega
    rw [hc, (mk_all (xs := xs) (n := n) e).2]; exact ⟨rfl, rfl⟩
def isDb (x : D) : Prop := ∃ (a0 : List D), x = .agg [.sl false a0] ∧ AllOf isTable a0
def ownDb (x : D) : Prop := ∃ (a0 : List D), x = .agg [.os 5 true a0] ∧ AllOf ownTable a0
theorem eraseDb {x : D} (h : ownDb x) : isDb x.erase := by
  obtain ⟨a0, rfl, h0⟩ := h
  exact ⟨_, rfl, h0.erase fun _ => eraseTable⟩
set_option maxHeartbeats 1000000 in
theorem eqDb (x : D) (hP : isDb x) : Ent Tryz.prog 14 [.d x, .d x] [] (.d (.b true)) [] := by
  obtain ⟨a0, rfl, h0⟩ := hP
  refine ent_of tok mixed (f := 14) Tryz.func14 (by kernel_rfl) (keep := false) ?_
  repeat' ((conv => whnf) <;> (first
    | ((with_reducible refine isCall ?_) <;> (first
        | (refine ⟨_, eqTableS _ h0, ?_⟩; rintro _ _ ⟨rfl, rfl⟩)
        | fail))
    | ((with_reducible refine isLoop ?_) <;> (first
        | fail))
    | ((with_reducible refine isCut ?_) <;> (first
        | refine ⟨⟨none⟩, ?_⟩))
    | ((first | with_reducible refine isEx ?_ | with_reducible refine isAnd ?_ | with_reducible refine isOr ?_) <;> (first
        | ((with_reducible refine isSmall ?_) <;> (refine ⟨?_, ?_⟩; kernel_rfl))
        | refine ⟨rfl, ?_⟩
        | refine ⟨Int.natCast_nonneg _, ?_⟩))
    | with_reducible refine Both.mk ?_ ?_
    | rintro _ rfl
    | exact rfl
    | (split <;> (rename_i h; first | (simp only [beq_self_eq_true, eq_self, decide_true, Bool.not_true, Bool.false_eq_true] at h; done) | (try rw [h])))))
set_option maxHeartbeats 4000000 in
theorem markDb (a0 : List D) (h0 : AllOf ownTable a0) (n : Int) (hn : n ≤ 9223372036854775807) : Ent Tryz.prog 15 [.agg [.own 0], .d (.i .i64 n)] [.arr 5 true a0] (.d (.i .i64 (ctL a0 n))) [.arr 5 true (mkL a0 n)] := by
  refine ent_of (cx := ⟨tab, [54], []⟩) tok mixed (f := 15) Tryz.func15 (by kernel_rfl) (keep := false) ?_
  repeat' ((conv => whnf) <;> (first
    | ((with_reducible refine isCall ?_) <;> (first
        | (refine ⟨_, markTableS a0 h0 _ (by first | assumption | exact wrap_le _ | exact ctL_le _ (by first | assumption | exact wrap_le _ | exact ctL_le _ (by first | assumption | exact wrap_le _ | exact ctL_le _ (by first | assumption | exact wrap_le _ | exact ctL_le _ (by first | assumption | exact wrap_le _))))), ?_⟩; rintro _ _ ⟨rfl, rfl⟩)
        | fail))
    | ((with_reducible refine isLoop ?_) <;> (first
        | fail))
    | ((with_reducible refine isCut ?_) <;> (first
        | refine ⟨⟨none⟩, ?_⟩))
    | ((first | with_reducible refine isEx ?_ | with_reducible refine isAnd ?_ | with_reducible refine isOr ?_) <;> (first
        | ((with_reducible refine isSmall ?_) <;> (refine ⟨?_, ?_⟩; kernel_rfl))
        | refine ⟨rfl, ?_⟩
        | refine ⟨Int.natCast_nonneg _, ?_⟩))
    | with_reducible refine Both.mk ?_ ?_
    | rintro _ rfl
    | exact rfl
    | (split <;> (rename_i h; first | (simp only [beq_self_eq_true, eq_self, decide_true, Bool.not_true, Bool.false_eq_true] at h; done) | (try rw [h])))))
set_option maxHeartbeats 4000000 in
theorem heldDb (a0 : List D) (h0 : AllOf isTable a0) (n : Int) (f0 : Fine a0 n) : Ent Tryz.prog 61 [.d (.agg [.sl false (mkL a0 n)]), .d (.i .i64 n)] [] (.d (.i .i64 (ctL a0 n))) [] := by
  have g0 : ¬ ctL a0 n < 0 := (by have := f0.out; omega)
  refine ent_of tok mixed (f := 61) Tryz.func61 (by kernel_rfl) (keep := false) ?_
  repeat' ((conv => whnf) <;> (first
    | ((with_reducible refine isCall ?_) <;> (first
        | (refine ⟨_, heldTableS a0 h0 _ f0, ?_⟩; rintro _ _ ⟨rfl, rfl⟩)
        | fail))
    | ((with_reducible refine isLoop ?_) <;> (first
        | fail))
    | ((with_reducible refine isCut ?_) <;> (first
        | refine ⟨⟨none⟩, ?_⟩))
    | ((first | with_reducible refine isEx ?_ | with_reducible refine isAnd ?_ | with_reducible refine isOr ?_) <;> (first
        | ((with_reducible refine isSmall ?_) <;> (refine ⟨?_, ?_⟩; kernel_rfl))
        | refine ⟨rfl, ?_⟩
        | refine ⟨Int.natCast_nonneg _, ?_⟩))
    | with_reducible refine Both.mk ?_ ?_
    | (exfalso; exact absurd (of_decide_eq_true (by assumption)) g0)
    | rintro _ rfl
    | exact rfl
    | (split <;> (rename_i h; first | (simp only [beq_self_eq_true, eq_self, decide_true, Bool.not_true, Bool.false_eq_true] at h; done) | (try rw [h])))))
def isDbOut (x : D) : Prop := ∃ (a0 : List D) (a1 : Int) (a2 : Int), x = .agg [.sl false a0, .i .i64 a1, .i .i64 a2] ∧ AllOf isTable a0
def ownDbOut (x : D) : Prop := ∃ (a0 : List D) (a1 : Int) (a2 : Int), x = .agg [.os 5 true a0, .i .i64 a1, .i .i64 a2] ∧ AllOf ownTable a0
theorem eraseDbOut {x : D} (h : ownDbOut x) : isDbOut x.erase := by
  obtain ⟨a0, a1, a2, rfl, h0⟩ := h
  exact ⟨_, _, _, rfl, h0.erase fun _ => eraseTable⟩
set_option maxHeartbeats 1000000 in
theorem eqDbOut (x : D) (hP : isDbOut x) : Ent Tryz.prog 20 [.d x, .d x] [] (.d (.b true)) [] := by
  obtain ⟨a0, a1, a2, rfl, h0⟩ := hP
  refine ent_of tok mixed (f := 20) Tryz.func20 (by kernel_rfl) (keep := false) ?_
  repeat' ((conv => whnf) <;> (first
    | ((with_reducible refine isCall ?_) <;> (first
        | (refine ⟨_, eqDb _ ⟨_, rfl, h0⟩, ?_⟩; rintro _ _ ⟨rfl, rfl⟩)
        | fail))
    | ((with_reducible refine isLoop ?_) <;> (first
        | fail))
    | ((with_reducible refine isCut ?_) <;> (first
        | refine ⟨⟨none⟩, ?_⟩))
    | ((first | with_reducible refine isEx ?_ | with_reducible refine isAnd ?_ | with_reducible refine isOr ?_) <;> (first
        | ((with_reducible refine isSmall ?_) <;> (refine ⟨?_, ?_⟩; kernel_rfl))
        | refine ⟨rfl, ?_⟩
        | refine ⟨Int.natCast_nonneg _, ?_⟩))
    | with_reducible refine Both.mk ?_ ?_
    | rintro _ rfl
    | exact rfl
    | (split <;> (rename_i h; first | (simp only [beq_self_eq_true, eq_self, decide_true, Bool.not_true, Bool.false_eq_true] at h; done) | (try rw [h])))))
set_option maxHeartbeats 4000000 in
theorem markDbOut (a0 : List D) (a1 : Int) (a2 : Int) (h0 : AllOf ownTable a0) (n : Int) (hn : n ≤ 9223372036854775807) : Ent Tryz.prog 21 [.agg [.own 0, .d (.i .i64 a1), .d (.i .i64 a2)], .d (.i .i64 n)] [.arr 5 true a0] (.d (.i .i64 (ctL a0 n))) [.arr 5 true (mkL a0 n)] := by
  refine ent_of (cx := ⟨tab, [15], []⟩) tok mixed (f := 21) Tryz.func21 (by kernel_rfl) (keep := false) ?_
  repeat' ((conv => whnf) <;> (first
    | ((with_reducible refine isCall ?_) <;> (first
        | (refine ⟨_, markDb a0 h0 _ (by first | assumption | exact wrap_le _ | exact ctL_le _ (by first | assumption | exact wrap_le _ | exact ctL_le _ (by first | assumption | exact wrap_le _ | exact ctL_le _ (by first | assumption | exact wrap_le _ | exact ctL_le _ (by first | assumption | exact wrap_le _))))), ?_⟩; rintro _ _ ⟨rfl, rfl⟩)
        | fail))
    | ((with_reducible refine isLoop ?_) <;> (first
        | fail))
    | ((with_reducible refine isCut ?_) <;> (first
        | refine ⟨⟨none⟩, ?_⟩))
    | ((first | with_reducible refine isEx ?_ | with_reducible refine isAnd ?_ | with_reducible refine isOr ?_) <;> (first
        | ((with_reducible refine isSmall ?_) <;> (refine ⟨?_, ?_⟩; kernel_rfl))
        | refine ⟨rfl, ?_⟩
        | refine ⟨Int.natCast_nonneg _, ?_⟩))
    | with_reducible refine Both.mk ?_ ?_
    | rintro _ rfl
    | exact rfl
    | (split <;> (rename_i h; first | (simp only [beq_self_eq_true, eq_self, decide_true, Bool.not_true, Bool.false_eq_true] at h; done) | (try rw [h])))))
set_option maxHeartbeats 4000000 in
theorem heldDbOut (a0 : List D) (a1 : Int) (a2 : Int) (h0 : AllOf isTable a0) (n : Int) (f0 : Fine a0 n) : Ent Tryz.prog 22 [.d (.agg [.sl false (mkL a0 n), .i .i64 a1, .i .i64 a2]), .d (.i .i64 n)] [] (.d (.i .i64 (ctL a0 n))) [] := by
  have g0 : ¬ ctL a0 n < 0 := (by have := f0.out; omega)
  refine ent_of tok mixed (f := 22) Tryz.func22 (by kernel_rfl) (keep := false) ?_
  repeat' ((conv => whnf) <;> (first
    | ((with_reducible refine isCall ?_) <;> (first
        | (refine ⟨_, heldDb a0 h0 _ f0, ?_⟩; rintro _ _ ⟨rfl, rfl⟩)
        | fail))
    | ((with_reducible refine isLoop ?_) <;> (first
        | fail))
    | ((with_reducible refine isCut ?_) <;> (first
        | refine ⟨⟨none⟩, ?_⟩))
    | ((first | with_reducible refine isEx ?_ | with_reducible refine isAnd ?_ | with_reducible refine isOr ?_) <;> (first
        | ((with_reducible refine isSmall ?_) <;> (refine ⟨?_, ?_⟩; kernel_rfl))
        | refine ⟨rfl, ?_⟩
        | refine ⟨Int.natCast_nonneg _, ?_⟩))
    | with_reducible refine Both.mk ?_ ?_
    | (exfalso; exact absurd (of_decide_eq_true (by assumption)) g0)
    | rintro _ rfl
    | exact rfl
    | (split <;> (rename_i h; first | (simp only [beq_self_eq_true, eq_self, decide_true, Bool.not_true, Bool.false_eq_true] at h; done) | (try rw [h])))))
end Go.Pm.Tryz
