/-
The laws' helpers for data of these types (printed by fam.py).
-/
import Derived.Test.YtlihmioijkichaaGreatCg
namespace Go.Pm.Tryz
open Go Go.Proofs
set_option linter.unusedVariables false
set_option linter.unusedSimpArgs false
set_option maxRecDepth 100000
def isInt64 (x : D) : Prop := ∃ n : Int, x = .i .i64 n
def ownInt64 (x : D) : Prop := ∃ n : Int, x = .i .i64 n
theorem eraseInt64 {x : D} (h : ownInt64 x) : isInt64 x.erase := by obtain ⟨n, rfl⟩ := h; exact ⟨n, rfl⟩
theorem eqInt64S (xs : List D) (hP : AllOf isInt64 xs) : Ent Tryz.prog 108 [.d (.sl false xs), .d (.sl false xs)] [] (.d (.b true)) [] := by
  refine ent_of tok mixed (f := 108) Tryz.func108 (by kernel_rfl) (keep := false) ?_
  repeat' ((conv => whnf) <;> (first
    | ((with_reducible refine isCall ?_) <;> (first
        | refine ⟨_, hx, ?_⟩
        | (obtain ⟨x, hx⟩ := get_ex (ss := xs) (k := k) (lt_of_dec0 (by assumption)); have hs := hP.all x (get_mem hx); obtain ⟨a0, rfl⟩ := id hs; refine ⟨_, hx, ?_⟩)
        | exact ⟨rfl, ⟨k + 1, _, step_up (lt_of_dec0 (by assumption)) hP.len, lt_of_dec0 (by assumption), rfl⟩, mu_up (lt_of_dec0 (by assumption)) hP.len⟩
        | fail))
    | ((with_reducible refine isLoop ?_) <;> (first
        | (refine ⟨[5, 0, 1], [], fun s => ∃ (k : Nat) (n : Int), n = k ∧ k ≤ xs.length ∧ s = ⟨[(5, .d (.i .i64 n)), (0, .d (.sl false xs)), (1, .d (.sl false xs))], []⟩, fun s => match look 5 s.env with | some (.d (.i _ n)) => xs.length - n.toNat | _ => 0, rfl, ⟨0, _, rfl, Nat.zero_le _, rfl⟩, ?_⟩; rintro s ⟨k, n, rfl, hk, rfl⟩)
        | refine ⟨_, hx, ?_⟩
        | (obtain ⟨x, hx⟩ := get_ex (ss := xs) (k := k) (lt_of_dec0 (by assumption)); have hs := hP.all x (get_mem hx); obtain ⟨a0, rfl⟩ := id hs; refine ⟨_, hx, ?_⟩)
        | exact ⟨rfl, ⟨k + 1, _, step_up (lt_of_dec0 (by assumption)) hP.len, lt_of_dec0 (by assumption), rfl⟩, mu_up (lt_of_dec0 (by assumption)) hP.len⟩
        | fail))
    | ((with_reducible refine isCut ?_) <;> (first
        | refine ⟨⟨none⟩, ?_⟩))
    | ((first | with_reducible refine isEx ?_ | with_reducible refine isAnd ?_ | with_reducible refine isOr ?_) <;> (first
        | refine ⟨_, hx, ?_⟩
        | (obtain ⟨x, hx⟩ := get_ex (ss := xs) (k := k) (lt_of_dec0 (by assumption)); have hs := hP.all x (get_mem hx); obtain ⟨a0, rfl⟩ := id hs; refine ⟨_, hx, ?_⟩)
        | exact ⟨rfl, ⟨k + 1, _, step_up (lt_of_dec0 (by assumption)) hP.len, lt_of_dec0 (by assumption), rfl⟩, mu_up (lt_of_dec0 (by assumption)) hP.len⟩
        | ((with_reducible refine isSmall ?_) <;> (refine ⟨?_, ?_⟩; kernel_rfl))
        | refine ⟨rfl, ?_⟩
        | refine ⟨Int.natCast_nonneg _, ?_⟩))
    | with_reducible refine Both.mk ?_ ?_
    | rintro _ rfl
    | exact rfl
    | (split <;> (rename_i h; first | (simp only [beq_self_eq_true, eq_self, decide_true, Bool.not_true, Bool.false_eq_true] at h; done) | (try rw [h])))))
set_option maxHeartbeats 4000000 in
theorem markInt64S (xs : List D) (hP : AllOf ownInt64 xs) (n : Int) (hn : n ≤ 9223372036854775807) : Ent Tryz.prog 84 [.own 0, .d (.i .i64 n)] [.arr 1 false xs] (.d (.i .i64 (ctL xs n))) [.arr 1 false (mkL xs n)] := by
  refine ent_of (cx := ⟨tab, [], []⟩) tok mixed (f := 84) Tryz.func84 (by kernel_rfl) (keep := false) ?_
  repeat' ((conv => whnf) <;> (first
    | ((with_reducible refine isCall ?_) <;> (first
        | refine ⟨⟨Int.natCast_nonneg _, of_decide_eq_true (by assumption)⟩, ?_⟩
        | refine ⟨⟨lt_of_dec0 (by assumption), rfl⟩, ?_⟩
        | fail))
    | ((with_reducible refine isLoop ?_) <;> (first
        | (refine ⟨[5, 1, 0], [0], fun s => ∃ (k : Nat) (i c : Int) (zs : List D), i = k ∧ k ≤ xs.length ∧ c = ctL (xs.take k) n ∧ zs = mkL (xs.take k) n ++ xs.drop k ∧ zs.length = xs.length ∧ s = ⟨[(5, .d (.i .i64 i)), (1, .d (.i .i64 c)), (0, .own 0)], [(0, .arr 1 false zs)]⟩, fun s => match look 5 s.env with | some (.d (.i _ i)) => xs.length - i.toNat | _ => 0, rfl, ⟨0, _, _, _, rfl, Nat.zero_le _, rfl, rfl, rfl, rfl⟩, ?_⟩; rintro s ⟨k, i, c, zs, rfl, hk, hc, hz, hzl, rfl⟩; have hcl : c ≤ 9223372036854775807 := (by rw [hc]; exact ctL_le _ hn))
        | refine ⟨⟨Int.natCast_nonneg _, of_decide_eq_true (by assumption)⟩, ?_⟩
        | refine ⟨⟨lt_of_dec0 (by assumption), rfl⟩, ?_⟩
        | fail))
    | ((with_reducible refine isCut ?_) <;> (first
        | refine ⟨⟨none⟩, ?_⟩))
    | ((first | with_reducible refine isEx ?_ | with_reducible refine isAnd ?_ | with_reducible refine isOr ?_) <;> (first
        | refine ⟨⟨Int.natCast_nonneg _, of_decide_eq_true (by assumption)⟩, ?_⟩
        | refine ⟨⟨lt_of_dec0 (by assumption), rfl⟩, ?_⟩
        | ((with_reducible refine isSmall ?_) <;> (refine ⟨?_, ?_⟩; kernel_rfl))
        | refine ⟨rfl, ?_⟩
        | refine ⟨Int.natCast_nonneg _, ?_⟩))
    | with_reducible refine Both.mk ?_ ?_
    | rintro _ rfl
    | exact rfl
    | (split <;> (rename_i h; first | (simp only [beq_self_eq_true, eq_self, decide_true, Bool.not_true, Bool.false_eq_true] at h; done) | (try rw [h])))))
  all_goals (conv => whnf)
  · have hk2 : k < xs.length := by have := lt_of_dec0 (xs := zs) (k := k) (by assumption); omega
    obtain ⟨x, hx⟩ := get_ex (ss := xs) (k := k) hk2
    obtain ⟨a0, rfl⟩ := hP.all x (get_mem hx)
    subst hc
    exact ⟨⟨k + 1, _, _, _, step_up hk2 hP.len, hk2, (ct_up hx).symm, (by rw [hz]; exact mk_set hx), (by rw [List.length_set]; exact hzl), rfl⟩, mu_up hk2 hP.len⟩
  · have e : k = xs.length := by have := of_decide_eq_false (by assumption : decide ((k : Int) < (zs.length : Int)) = false); omega
    obtain ⟨e1, e2⟩ := mk_all (xs := xs) (n := n) e
    rw [hz, hc, e1, e2]; exact ⟨rfl, rfl⟩
set_option maxHeartbeats 4000000 in
theorem heldInt64S (xs : List D) (hP : AllOf isInt64 xs) (n : Int) (hF : Fine xs n) : Ent Tryz.prog 112 [.d (.sl false (mkL xs n)), .d (.i .i64 n)] [] (.d (.i .i64 (ctL xs n))) [] := by
  have hml := mkL_len xs n
  refine ent_of tok mixed (f := 112) Tryz.func112 (by kernel_rfl) (keep := false) ?_
  repeat' ((conv => whnf) <;> (first
    | ((with_reducible refine isCall ?_) <;> (first
        | refine ⟨_, he, ?_⟩
        | (obtain ⟨x, hx⟩ := get_ex (ss := xs) (k := k) (by have := lt_of_dec0 (by assumption); omega); obtain ⟨a0, rfl⟩ := hP.all x (get_mem hx); have he : (mkL xs n)[k]? = some (.i .i64 c) := (by rw [hc]; exact mk_get hx); refine ⟨_, he, ?_⟩)
        | fail))
    | ((with_reducible refine isLoop ?_) <;> (first
        | (refine ⟨[5, 1, 0], [], fun s => ∃ (k : Nat) (i c : Int), i = k ∧ k ≤ xs.length ∧ c = ctL (xs.take k) n ∧ s = ⟨[(5, .d (.i .i64 i)), (1, .d (.i .i64 c)), (0, .d (.sl false (mkL xs n)))], []⟩, fun s => match look 5 s.env with | some (.d (.i _ i)) => xs.length - i.toNat | _ => 0, rfl, ⟨0, _, _, rfl, Nat.zero_le _, rfl, rfl⟩, ?_⟩; rintro s ⟨k, i, c, rfl, hk, hc, rfl⟩; have hcl : c ≤ 9223372036854775807 := (by rw [hc]; exact ctL_le _ (by have := hF.lo; have := hF.hi; omega)))
        | refine ⟨_, he, ?_⟩
        | (obtain ⟨x, hx⟩ := get_ex (ss := xs) (k := k) (by have := lt_of_dec0 (by assumption); omega); obtain ⟨a0, rfl⟩ := hP.all x (get_mem hx); have he : (mkL xs n)[k]? = some (.i .i64 c) := (by rw [hc]; exact mk_get hx); refine ⟨_, he, ?_⟩)
        | fail))
    | ((with_reducible refine isCut ?_) <;> (first
        | refine ⟨⟨none⟩, ?_⟩))
    | ((first | with_reducible refine isEx ?_ | with_reducible refine isAnd ?_ | with_reducible refine isOr ?_) <;> (first
        | refine ⟨_, he, ?_⟩
        | (obtain ⟨x, hx⟩ := get_ex (ss := xs) (k := k) (by have := lt_of_dec0 (by assumption); omega); obtain ⟨a0, rfl⟩ := hP.all x (get_mem hx); have he : (mkL xs n)[k]? = some (.i .i64 c) := (by rw [hc]; exact mk_get hx); refine ⟨_, he, ?_⟩)
        | ((with_reducible refine isSmall ?_) <;> (refine ⟨?_, ?_⟩; kernel_rfl))
        | refine ⟨rfl, ?_⟩
        | refine ⟨Int.natCast_nonneg _, ?_⟩))
    | with_reducible refine Both.mk ?_ ?_
    | rintro _ rfl
    | exact rfl
    | (split <;> (rename_i h; first | (simp only [beq_self_eq_true, eq_self, decide_true, Bool.not_true, Bool.false_eq_true] at h; done) | (try rw [h])))))
  all_goals (conv => whnf)
  · have hk2 : k < xs.length := get_lt hx
    subst hc
    exact ⟨⟨k + 1, _, _, step_up hk2 hP.len, hk2, (ct_up hx).symm, rfl⟩, mu_up hk2 hP.len⟩
  · have e : k = xs.length := by have := of_decide_eq_false (by assumption : decide ((k : Int) < ((mkL xs n).length : Int)) = false); omega
    rw [hc, (mk_all (xs := xs) (n := n) e).2]; exact ⟨rfl, rfl⟩
def isColumn (x : D) : Prop := ∃ (a0 : List UInt8) (a1 : Int) (a2 : Bool), x = .agg [.s a0, .i .i64 a1, .b a2]
def ownColumn (x : D) : Prop := ∃ (a0 : List UInt8) (a1 : Int) (a2 : Bool), x = .agg [.s a0, .i .i64 a1, .b a2]
theorem eraseColumn {x : D} (h : ownColumn x) : isColumn x.erase := by
  obtain ⟨a0, a1, a2, rfl⟩ := h
  exact ⟨_, _, _, rfl⟩
set_option maxHeartbeats 1000000 in
theorem eqColumn (x : D) (hP : isColumn x) : Ent Tryz.prog 192 [.d x, .d x] [] (.d (.b true)) [] := by
  obtain ⟨a0, a1, a2, rfl⟩ := hP
  refine ent_of tok mixed (f := 192) Tryz.func192 (by kernel_rfl) (keep := false) ?_
  repeat' ((conv => whnf) <;> (first
    | ((with_reducible refine isCall ?_) <;> (first
        | fail))
    | ((with_reducible refine isLoop ?_) <;> (first
        | fail))
    | ((with_reducible refine isCut ?_) <;> (first
        | refine ⟨⟨none⟩, ?_⟩))
    | ((first | with_reducible refine isEx ?_ | with_reducible refine isAnd ?_ | with_reducible refine isOr ?_) <;> (first
        | ((with_reducible refine isSmall ?_) <;> (refine ⟨?_, ?_⟩; kernel_rfl))
        | refine ⟨rfl, ?_⟩
        | refine ⟨Int.natCast_nonneg _, ?_⟩))
    | with_reducible refine Both.mk ?_ ?_
    | rintro _ rfl
    | exact rfl
    | (split <;> (rename_i h; first | (simp only [beq_self_eq_true, eq_self, decide_true, Bool.not_true, Bool.false_eq_true] at h; done) | (try rw [h])))))
theorem eqColumnS (xs : List D) (hP : AllOf isColumn xs) : Ent Tryz.prog 107 [.d (.sl false xs), .d (.sl false xs)] [] (.d (.b true)) [] := by
  refine ent_of tok mixed (f := 107) Tryz.func107 (by kernel_rfl) (keep := false) ?_
  repeat' ((conv => whnf) <;> (first
    | ((with_reducible refine isCall ?_) <;> (first
        | (refine ⟨_, eqColumn _ hs, ?_⟩; rintro _ _ ⟨rfl, rfl⟩)
        | refine ⟨_, hx, ?_⟩
        | (obtain ⟨x, hx⟩ := get_ex (ss := xs) (k := k) (lt_of_dec0 (by assumption)); have hs := hP.all x (get_mem hx); obtain ⟨a0, a1, a2, rfl⟩ := id hs; refine ⟨_, hx, ?_⟩)
        | exact ⟨rfl, ⟨k + 1, _, step_up (lt_of_dec0 (by assumption)) hP.len, lt_of_dec0 (by assumption), rfl⟩, mu_up (lt_of_dec0 (by assumption)) hP.len⟩
        | fail))
    | ((with_reducible refine isLoop ?_) <;> (first
        | (refine ⟨[5, 0, 1], [], fun s => ∃ (k : Nat) (n : Int), n = k ∧ k ≤ xs.length ∧ s = ⟨[(5, .d (.i .i64 n)), (0, .d (.sl false xs)), (1, .d (.sl false xs))], []⟩, fun s => match look 5 s.env with | some (.d (.i _ n)) => xs.length - n.toNat | _ => 0, rfl, ⟨0, _, rfl, Nat.zero_le _, rfl⟩, ?_⟩; rintro s ⟨k, n, rfl, hk, rfl⟩)
        | refine ⟨_, hx, ?_⟩
        | (obtain ⟨x, hx⟩ := get_ex (ss := xs) (k := k) (lt_of_dec0 (by assumption)); have hs := hP.all x (get_mem hx); obtain ⟨a0, a1, a2, rfl⟩ := id hs; refine ⟨_, hx, ?_⟩)
        | exact ⟨rfl, ⟨k + 1, _, step_up (lt_of_dec0 (by assumption)) hP.len, lt_of_dec0 (by assumption), rfl⟩, mu_up (lt_of_dec0 (by assumption)) hP.len⟩
        | fail))
    | ((with_reducible refine isCut ?_) <;> (first
        | refine ⟨⟨none⟩, ?_⟩))
    | ((first | with_reducible refine isEx ?_ | with_reducible refine isAnd ?_ | with_reducible refine isOr ?_) <;> (first
        | refine ⟨_, hx, ?_⟩
        | (obtain ⟨x, hx⟩ := get_ex (ss := xs) (k := k) (lt_of_dec0 (by assumption)); have hs := hP.all x (get_mem hx); obtain ⟨a0, a1, a2, rfl⟩ := id hs; refine ⟨_, hx, ?_⟩)
        | exact ⟨rfl, ⟨k + 1, _, step_up (lt_of_dec0 (by assumption)) hP.len, lt_of_dec0 (by assumption), rfl⟩, mu_up (lt_of_dec0 (by assumption)) hP.len⟩
        | ((with_reducible refine isSmall ?_) <;> (refine ⟨?_, ?_⟩; kernel_rfl))
        | refine ⟨rfl, ?_⟩
        | refine ⟨Int.natCast_nonneg _, ?_⟩))
    | with_reducible refine Both.mk ?_ ?_
    | rintro _ rfl
    | exact rfl
    | (split <;> (rename_i h; first | (simp only [beq_self_eq_true, eq_self, decide_true, Bool.not_true, Bool.false_eq_true] at h; done) | (try rw [h])))))
set_option maxHeartbeats 4000000 in
theorem markColumnS (xs : List D) (hP : AllOf ownColumn xs) (n : Int) (hn : n ≤ 9223372036854775807) : Ent Tryz.prog 83 [.own 0, .d (.i .i64 n)] [.arr 3 false xs] (.d (.i .i64 (ctL xs n))) [.arr 3 false (mkL xs n)] := by
  refine ent_of (cx := ⟨tab, [], []⟩) tok mixed (f := 83) Tryz.func83 (by kernel_rfl) (keep := false) ?_
  repeat' ((conv => whnf) <;> (first
    | ((with_reducible refine isCall ?_) <;> (first
        | (refine ⟨_, markTextD _ (by first | assumption | exact wrap_le _ | exact ctL_le _ (by first | assumption | exact wrap_le _ | exact ctL_le _ (by first | assumption | exact wrap_le _ | exact ctL_le _ (by first | assumption | exact wrap_le _ | exact ctL_le _ (by first | assumption | exact wrap_le _))))), ?_⟩; rintro _ _ ⟨rfl, rfl⟩)
        | refine ⟨⟨Int.natCast_nonneg _, (by have := lt_of_dec0 (xs := zs) (k := k) (by assumption); (try simp only [baseXs_len, List.length_set]); omega)⟩, ?_⟩
        | refine ⟨_, hzx, ?_⟩
        | refine .inl ⟨rfl, ?_⟩
        | refine ⟨_, set_get (n := zs.length) (by simp only [baseXs_len, List.length_set]) (get_lt hzx), ?_⟩
        | (obtain ⟨x, hx⟩ := get_ex (ss := xs) (k := k) (by have := lt_of_dec0 (xs := zs) (k := k) (by assumption); omega); obtain ⟨a0, a1, a2, rfl⟩ := hP.all x (get_mem hx); have hzx := mk_at (n := n) hx; rw [← hz] at hzx; refine ⟨_, hzx, ?_⟩)
        | refine ⟨(by decide : (3 : Int) ≠ 0), ?_⟩
        | fail))
    | ((with_reducible refine isLoop ?_) <;> (first
        | (refine ⟨[5, 1, 0], [0], fun s => ∃ (k : Nat) (i c : Int) (zs : List D), i = k ∧ k ≤ xs.length ∧ c = ctL (xs.take k) n ∧ zs = mkL (xs.take k) n ++ xs.drop k ∧ zs.length = xs.length ∧ s = ⟨[(5, .d (.i .i64 i)), (1, .d (.i .i64 c)), (0, .own 0)], [(0, .arr 3 false zs)]⟩, fun s => match look 5 s.env with | some (.d (.i _ i)) => xs.length - i.toNat | _ => 0, rfl, ⟨0, _, _, _, rfl, Nat.zero_le _, rfl, rfl, rfl, rfl⟩, ?_⟩; rintro s ⟨k, i, c, zs, rfl, hk, hc, hz, hzl, rfl⟩; have hcl : c ≤ 9223372036854775807 := (by rw [hc]; exact ctL_le _ hn))
        | refine ⟨⟨Int.natCast_nonneg _, (by have := lt_of_dec0 (xs := zs) (k := k) (by assumption); (try simp only [baseXs_len, List.length_set]); omega)⟩, ?_⟩
        | refine ⟨_, hzx, ?_⟩
        | refine .inl ⟨rfl, ?_⟩
        | refine ⟨_, set_get (n := zs.length) (by simp only [baseXs_len, List.length_set]) (get_lt hzx), ?_⟩
        | (obtain ⟨x, hx⟩ := get_ex (ss := xs) (k := k) (by have := lt_of_dec0 (xs := zs) (k := k) (by assumption); omega); obtain ⟨a0, a1, a2, rfl⟩ := hP.all x (get_mem hx); have hzx := mk_at (n := n) hx; rw [← hz] at hzx; refine ⟨_, hzx, ?_⟩)
        | refine ⟨(by decide : (3 : Int) ≠ 0), ?_⟩
        | fail))
    | ((with_reducible refine isCut ?_) <;> (first
        | refine ⟨⟨none⟩, ?_⟩))
    | ((first | with_reducible refine isEx ?_ | with_reducible refine isAnd ?_ | with_reducible refine isOr ?_) <;> (first
        | refine ⟨⟨Int.natCast_nonneg _, (by have := lt_of_dec0 (xs := zs) (k := k) (by assumption); (try simp only [baseXs_len, List.length_set]); omega)⟩, ?_⟩
        | refine ⟨_, hzx, ?_⟩
        | refine .inl ⟨rfl, ?_⟩
        | refine ⟨_, set_get (n := zs.length) (by simp only [baseXs_len, List.length_set]) (get_lt hzx), ?_⟩
        | (obtain ⟨x, hx⟩ := get_ex (ss := xs) (k := k) (by have := lt_of_dec0 (xs := zs) (k := k) (by assumption); omega); obtain ⟨a0, a1, a2, rfl⟩ := hP.all x (get_mem hx); have hzx := mk_at (n := n) hx; rw [← hz] at hzx; refine ⟨_, hzx, ?_⟩)
        | refine ⟨(by decide : (3 : Int) ≠ 0), ?_⟩
        | ((with_reducible refine isSmall ?_) <;> (refine ⟨?_, ?_⟩; kernel_rfl))
        | refine ⟨rfl, ?_⟩
        | refine ⟨Int.natCast_nonneg _, ?_⟩))
    | with_reducible refine Both.mk ?_ ?_
    | rintro _ rfl
    | exact rfl
    | (split <;> (rename_i h; first | (simp only [beq_self_eq_true, eq_self, decide_true, Bool.not_true, Bool.false_eq_true] at h; done) | (try rw [h])))))
  all_goals (conv => whnf)
  · have hk2 : k < xs.length := get_lt hx
    subst hc
    simp only [List.set_set]
    exact ⟨⟨k + 1, _, _, _, step_up hk2 hP.len, hk2, (ct_up hx).symm, (by rw [hz]; exact mk_set hx), (by rw [List.length_set]; exact hzl), rfl⟩, mu_up hk2 hP.len⟩
  · have e : k = xs.length := by have := of_decide_eq_false (by assumption : decide ((k : Int) < (zs.length : Int)) = false); omega
    obtain ⟨e1, e2⟩ := mk_all (xs := xs) (n := n) e
    rw [hz, hc, e1, e2]; exact ⟨rfl, rfl⟩
set_option maxHeartbeats 4000000 in
theorem heldColumnS (xs : List D) (hP : AllOf isColumn xs) (n : Int) (hF : Fine xs n) : Ent Tryz.prog 111 [.d (.sl false (mkL xs n)), .d (.i .i64 n)] [] (.d (.i .i64 (ctL xs n))) [] := by
  have hml := mkL_len xs n
  refine ent_of tok mixed (f := 111) Tryz.func111 (by kernel_rfl) (keep := false) ?_
  repeat' ((conv => whnf) <;> (first
    | ((with_reducible refine isCall ?_) <;> (first
        | (refine ⟨_, markTextD _ (by first | assumption | exact wrap_le _ | exact ctL_le _ (by first | assumption | exact wrap_le _ | exact ctL_le _ (by first | assumption | exact wrap_le _ | exact ctL_le _ (by first | assumption | exact wrap_le _ | exact ctL_le _ (by first | assumption | exact wrap_le _))))), ?_⟩; rintro _ _ ⟨rfl, rfl⟩)
        | refine ⟨_, he, ?_⟩
        | (obtain ⟨x, hx⟩ := get_ex (ss := xs) (k := k) (by have := lt_of_dec0 (by assumption); omega); obtain ⟨a0, a1, a2, rfl⟩ := hP.all x (get_mem hx); have he : (mkL xs n)[k]? = some (.agg [.s (markTextM c), .i .i64 (IntKind.i64.wrap (c + 1)), .b (decide (Int.tmod (IntKind.i64.wrap ((IntKind.i64.wrap (c + 1)) + 1)) 3 = 0))]) := (by rw [hc]; exact mk_get hx); refine ⟨_, he, ?_⟩)
        | refine ⟨(by decide : (3 : Int) ≠ 0), ?_⟩
        | fail))
    | ((with_reducible refine isLoop ?_) <;> (first
        | (refine ⟨[5, 1, 0], [], fun s => ∃ (k : Nat) (i c : Int), i = k ∧ k ≤ xs.length ∧ c = ctL (xs.take k) n ∧ s = ⟨[(5, .d (.i .i64 i)), (1, .d (.i .i64 c)), (0, .d (.sl false (mkL xs n)))], []⟩, fun s => match look 5 s.env with | some (.d (.i _ i)) => xs.length - i.toNat | _ => 0, rfl, ⟨0, _, _, rfl, Nat.zero_le _, rfl, rfl⟩, ?_⟩; rintro s ⟨k, i, c, rfl, hk, hc, rfl⟩; have hcl : c ≤ 9223372036854775807 := (by rw [hc]; exact ctL_le _ (by have := hF.lo; have := hF.hi; omega)))
        | refine ⟨_, he, ?_⟩
        | (obtain ⟨x, hx⟩ := get_ex (ss := xs) (k := k) (by have := lt_of_dec0 (by assumption); omega); obtain ⟨a0, a1, a2, rfl⟩ := hP.all x (get_mem hx); have he : (mkL xs n)[k]? = some (.agg [.s (markTextM c), .i .i64 (IntKind.i64.wrap (c + 1)), .b (decide (Int.tmod (IntKind.i64.wrap ((IntKind.i64.wrap (c + 1)) + 1)) 3 = 0))]) := (by rw [hc]; exact mk_get hx); refine ⟨_, he, ?_⟩)
        | refine ⟨(by decide : (3 : Int) ≠ 0), ?_⟩
        | fail))
    | ((with_reducible refine isCut ?_) <;> (first
        | refine ⟨⟨none⟩, ?_⟩))
    | ((first | with_reducible refine isEx ?_ | with_reducible refine isAnd ?_ | with_reducible refine isOr ?_) <;> (first
        | refine ⟨_, he, ?_⟩
        | (obtain ⟨x, hx⟩ := get_ex (ss := xs) (k := k) (by have := lt_of_dec0 (by assumption); omega); obtain ⟨a0, a1, a2, rfl⟩ := hP.all x (get_mem hx); have he : (mkL xs n)[k]? = some (.agg [.s (markTextM c), .i .i64 (IntKind.i64.wrap (c + 1)), .b (decide (Int.tmod (IntKind.i64.wrap ((IntKind.i64.wrap (c + 1)) + 1)) 3 = 0))]) := (by rw [hc]; exact mk_get hx); refine ⟨_, he, ?_⟩)
        | refine ⟨(by decide : (3 : Int) ≠ 0), ?_⟩
        | ((with_reducible refine isSmall ?_) <;> (refine ⟨?_, ?_⟩; kernel_rfl))
        | refine ⟨rfl, ?_⟩
        | refine ⟨Int.natCast_nonneg _, ?_⟩))
    | with_reducible refine Both.mk ?_ ?_
    | rintro _ rfl
    | exact rfl
    | (split <;> (rename_i h; first | (simp only [beq_self_eq_true, eq_self, decide_true, Bool.not_true, Bool.false_eq_true] at h; done) | (try rw [h])))))
  all_goals (conv => whnf)
  · have hk2 : k < xs.length := get_lt hx
    subst hc
    exact ⟨⟨k + 1, _, _, step_up hk2 hP.len, hk2, (ct_up hx).symm, rfl⟩, mu_up hk2 hP.len⟩
  · have e : k = xs.length := by have := of_decide_eq_false (by assumption : decide ((k : Int) < ((mkL xs n).length : Int)) = false); omega
    rw [hc, (mk_all (xs := xs) (n := n) e).2]; exact ⟨rfl, rfl⟩
def isIndex (x : D) : Prop := ∃ (a0 : List D) (a1 : Bool), x = .agg [.sl false a0, .b a1] ∧ AllOf isInt64 a0
def ownIndex (x : D) : Prop := ∃ (a0 : List D) (a1 : Bool), x = .agg [.os 1 false a0, .b a1] ∧ AllOf ownInt64 a0
theorem eraseIndex {x : D} (h : ownIndex x) : isIndex x.erase := by
  obtain ⟨a0, a1, rfl, h0⟩ := h
  exact ⟨_, _, rfl, h0.erase fun _ => eraseInt64⟩
set_option maxHeartbeats 1000000 in
theorem eqIndex (x : D) (hP : isIndex x) : Ent Tryz.prog 193 [.d x, .d x] [] (.d (.b true)) [] := by
  obtain ⟨a0, a1, rfl, h0⟩ := hP
  refine ent_of tok mixed (f := 193) Tryz.func193 (by kernel_rfl) (keep := false) ?_
  repeat' ((conv => whnf) <;> (first
    | ((with_reducible refine isCall ?_) <;> (first
        | (refine ⟨_, eqInt64S _ h0, ?_⟩; rintro _ _ ⟨rfl, rfl⟩)
        | fail))
    | ((with_reducible refine isLoop ?_) <;> (first
        | fail))
    | ((with_reducible refine isCut ?_) <;> (first
        | refine ⟨⟨none⟩, ?_⟩))
    | ((first | with_reducible refine isEx ?_ | with_reducible refine isAnd ?_ | with_reducible refine isOr ?_) <;> (first
        | ((with_reducible refine isSmall ?_) <;> (refine ⟨?_, ?_⟩; kernel_rfl))
        | refine ⟨rfl, ?_⟩
        | refine ⟨Int.natCast_nonneg _, ?_⟩))
    | with_reducible refine Both.mk ?_ ?_
    | rintro _ rfl
    | exact rfl
    | (split <;> (rename_i h; first | (simp only [beq_self_eq_true, eq_self, decide_true, Bool.not_true, Bool.false_eq_true] at h; done) | (try rw [h])))))
theorem eqIndexS (xs : List D) (hP : AllOf isIndex xs) : Ent Tryz.prog 109 [.d (.sl false xs), .d (.sl false xs)] [] (.d (.b true)) [] := by
  refine ent_of tok mixed (f := 109) Tryz.func109 (by kernel_rfl) (keep := false) ?_
  repeat' ((conv => whnf) <;> (first
    | ((with_reducible refine isCall ?_) <;> (first
        | (refine ⟨_, eqIndex _ hs, ?_⟩; rintro _ _ ⟨rfl, rfl⟩)
        | refine ⟨_, hx, ?_⟩
        | (obtain ⟨x, hx⟩ := get_ex (ss := xs) (k := k) (lt_of_dec0 (by assumption)); have hs := hP.all x (get_mem hx); obtain ⟨a0, a1, rfl, h0⟩ := id hs; refine ⟨_, hx, ?_⟩)
        | exact ⟨rfl, ⟨k + 1, _, step_up (lt_of_dec0 (by assumption)) hP.len, lt_of_dec0 (by assumption), rfl⟩, mu_up (lt_of_dec0 (by assumption)) hP.len⟩
        | fail))
    | ((with_reducible refine isLoop ?_) <;> (first
        | (refine ⟨[5, 0, 1], [], fun s => ∃ (k : Nat) (n : Int), n = k ∧ k ≤ xs.length ∧ s = ⟨[(5, .d (.i .i64 n)), (0, .d (.sl false xs)), (1, .d (.sl false xs))], []⟩, fun s => match look 5 s.env with | some (.d (.i _ n)) => xs.length - n.toNat | _ => 0, rfl, ⟨0, _, rfl, Nat.zero_le _, rfl⟩, ?_⟩; rintro s ⟨k, n, rfl, hk, rfl⟩)
        | refine ⟨_, hx, ?_⟩
        | (obtain ⟨x, hx⟩ := get_ex (ss := xs) (k := k) (lt_of_dec0 (by assumption)); have hs := hP.all x (get_mem hx); obtain ⟨a0, a1, rfl, h0⟩ := id hs; refine ⟨_, hx, ?_⟩)
        | exact ⟨rfl, ⟨k + 1, _, step_up (lt_of_dec0 (by assumption)) hP.len, lt_of_dec0 (by assumption), rfl⟩, mu_up (lt_of_dec0 (by assumption)) hP.len⟩
        | fail))
    | ((with_reducible refine isCut ?_) <;> (first
        | refine ⟨⟨none⟩, ?_⟩))
    | ((first | with_reducible refine isEx ?_ | with_reducible refine isAnd ?_ | with_reducible refine isOr ?_) <;> (first
        | refine ⟨_, hx, ?_⟩
        | (obtain ⟨x, hx⟩ := get_ex (ss := xs) (k := k) (lt_of_dec0 (by assumption)); have hs := hP.all x (get_mem hx); obtain ⟨a0, a1, rfl, h0⟩ := id hs; refine ⟨_, hx, ?_⟩)
        | exact ⟨rfl, ⟨k + 1, _, step_up (lt_of_dec0 (by assumption)) hP.len, lt_of_dec0 (by assumption), rfl⟩, mu_up (lt_of_dec0 (by assumption)) hP.len⟩
        | ((with_reducible refine isSmall ?_) <;> (refine ⟨?_, ?_⟩; kernel_rfl))
        | refine ⟨rfl, ?_⟩
        | refine ⟨Int.natCast_nonneg _, ?_⟩))
    | with_reducible refine Both.mk ?_ ?_
    | rintro _ rfl
    | exact rfl
    | (split <;> (rename_i h; first | (simp only [beq_self_eq_true, eq_self, decide_true, Bool.not_true, Bool.false_eq_true] at h; done) | (try rw [h])))))
set_option maxHeartbeats 4000000 in
theorem markIndexS (xs : List D) (hP : AllOf ownIndex xs) (n : Int) (hn : n ≤ 9223372036854775807) : Ent Tryz.prog 85 [.own 0, .d (.i .i64 n)] [.arr 2 true xs] (.d (.i .i64 (ctL xs n))) [.arr 2 true (mkL xs n)] := by
  refine ent_of (cx := ⟨tab, [84], []⟩) tok mixed (f := 85) Tryz.func85 (by kernel_rfl) (keep := false) ?_
  repeat' ((conv => whnf) <;> (first
    | ((with_reducible refine isCall ?_) <;> (first
        | (refine ⟨_, markInt64S a0 h0 _ (by first | assumption | exact wrap_le _ | exact ctL_le _ (by first | assumption | exact wrap_le _ | exact ctL_le _ (by first | assumption | exact wrap_le _ | exact ctL_le _ (by first | assumption | exact wrap_le _ | exact ctL_le _ (by first | assumption | exact wrap_le _))))), ?_⟩; rintro _ _ ⟨rfl, rfl⟩)
        | (refine ⟨_, markTextD _ (by first | assumption | exact wrap_le _ | exact ctL_le _ (by first | assumption | exact wrap_le _ | exact ctL_le _ (by first | assumption | exact wrap_le _ | exact ctL_le _ (by first | assumption | exact wrap_le _ | exact ctL_le _ (by first | assumption | exact wrap_le _))))), ?_⟩; rintro _ _ ⟨rfl, rfl⟩)
        | refine ⟨⟨Int.natCast_nonneg _, (by have := lt_of_dec0 (xs := zs) (k := k) (by assumption); (try simp only [baseXs_len, List.length_set]); omega)⟩, ?_⟩
        | refine ⟨_, hzx, ?_⟩
        | refine .inl ⟨rfl, ?_⟩
        | refine ⟨_, set_get (n := zs.length) (by simp only [baseXs_len, List.length_set]) (get_lt hzx), ?_⟩
        | (obtain ⟨x, hx⟩ := get_ex (ss := xs) (k := k) (by have := lt_of_dec0 (xs := zs) (k := k) (by assumption); omega); obtain ⟨a0, a1, rfl, h0⟩ := hP.all x (get_mem hx); have hzx := mk_at (n := n) hx; rw [← hz] at hzx; refine ⟨_, hzx, ?_⟩)
        | refine ⟨(by decide : (3 : Int) ≠ 0), ?_⟩
        | fail))
    | ((with_reducible refine isLoop ?_) <;> (first
        | (refine ⟨[5, 1, 0], [0], fun s => ∃ (k : Nat) (i c : Int) (zs : List D), i = k ∧ k ≤ xs.length ∧ c = ctL (xs.take k) n ∧ zs = mkL (xs.take k) n ++ xs.drop k ∧ zs.length = xs.length ∧ s = ⟨[(5, .d (.i .i64 i)), (1, .d (.i .i64 c)), (0, .own 0)], [(0, .arr 2 true zs)]⟩, fun s => match look 5 s.env with | some (.d (.i _ i)) => xs.length - i.toNat | _ => 0, rfl, ⟨0, _, _, _, rfl, Nat.zero_le _, rfl, rfl, rfl, rfl⟩, ?_⟩; rintro s ⟨k, i, c, zs, rfl, hk, hc, hz, hzl, rfl⟩; have hcl : c ≤ 9223372036854775807 := (by rw [hc]; exact ctL_le _ hn))
        | refine ⟨⟨Int.natCast_nonneg _, (by have := lt_of_dec0 (xs := zs) (k := k) (by assumption); (try simp only [baseXs_len, List.length_set]); omega)⟩, ?_⟩
        | refine ⟨_, hzx, ?_⟩
        | refine .inl ⟨rfl, ?_⟩
        | refine ⟨_, set_get (n := zs.length) (by simp only [baseXs_len, List.length_set]) (get_lt hzx), ?_⟩
        | (obtain ⟨x, hx⟩ := get_ex (ss := xs) (k := k) (by have := lt_of_dec0 (xs := zs) (k := k) (by assumption); omega); obtain ⟨a0, a1, rfl, h0⟩ := hP.all x (get_mem hx); have hzx := mk_at (n := n) hx; rw [← hz] at hzx; refine ⟨_, hzx, ?_⟩)
        | refine ⟨(by decide : (3 : Int) ≠ 0), ?_⟩
        | fail))
    | ((with_reducible refine isCut ?_) <;> (first
        | refine ⟨⟨none⟩, ?_⟩))
    | ((first | with_reducible refine isEx ?_ | with_reducible refine isAnd ?_ | with_reducible refine isOr ?_) <;> (first
        | refine ⟨⟨Int.natCast_nonneg _, (by have := lt_of_dec0 (xs := zs) (k := k) (by assumption); (try simp only [baseXs_len, List.length_set]); omega)⟩, ?_⟩
        | refine ⟨_, hzx, ?_⟩
        | refine .inl ⟨rfl, ?_⟩
        | refine ⟨_, set_get (n := zs.length) (by simp only [baseXs_len, List.length_set]) (get_lt hzx), ?_⟩
        | (obtain ⟨x, hx⟩ := get_ex (ss := xs) (k := k) (by have := lt_of_dec0 (xs := zs) (k := k) (by assumption); omega); obtain ⟨a0, a1, rfl, h0⟩ := hP.all x (get_mem hx); have hzx := mk_at (n := n) hx; rw [← hz] at hzx; refine ⟨_, hzx, ?_⟩)
        | refine ⟨(by decide : (3 : Int) ≠ 0), ?_⟩
        | ((with_reducible refine isSmall ?_) <;> (refine ⟨?_, ?_⟩; kernel_rfl))
        | refine ⟨rfl, ?_⟩
        | refine ⟨Int.natCast_nonneg _, ?_⟩))
    | with_reducible refine Both.mk ?_ ?_
    | rintro _ rfl
    | exact rfl
    | (split <;> (rename_i h; first | (simp only [beq_self_eq_true, eq_self, decide_true, Bool.not_true, Bool.false_eq_true] at h; done) | (try rw [h])))))
  all_goals (conv => whnf)
  · have hk2 : k < xs.length := get_lt hx
    subst hc
    refine ⟨⟨k + 1, _, _, _, step_up hk2 hP.len, hk2, (ct_up hx).symm, ?_, ?_, rfl⟩, mu_up hk2 hP.len⟩
    · show (zs.set k _) = _
      rw [hz]; exact mk_set hx
    · show (zs.set k _).length = _
      simp only [List.length_set]; exact hzl
  · have e : k = xs.length := by have := of_decide_eq_false (by assumption : decide ((k : Int) < (zs.length : Int)) = false); omega
    obtain ⟨e1, e2⟩ := mk_all (xs := xs) (n := n) e
    rw [hz, hc, e1, e2]; exact ⟨rfl, rfl⟩
set_option maxHeartbeats 4000000 in
theorem heldIndexS (xs : List D) (hP : AllOf isIndex xs) (n : Int) (hF : Fine xs n) : Ent Tryz.prog 113 [.d (.sl false (mkL xs n)), .d (.i .i64 n)] [] (.d (.i .i64 (ctL xs n))) [] := by
  have hml := mkL_len xs n
  refine ent_of tok mixed (f := 113) Tryz.func113 (by kernel_rfl) (keep := false) ?_
  repeat' ((conv => whnf) <;> (first
    | ((with_reducible refine isCall ?_) <;> (first
        | (refine ⟨_, heldInt64S a0 h0 _ f0, ?_⟩; rintro _ _ ⟨rfl, rfl⟩)
        | (refine ⟨_, markTextD _ (by first | assumption | exact wrap_le _ | exact ctL_le _ (by first | assumption | exact wrap_le _ | exact ctL_le _ (by first | assumption | exact wrap_le _ | exact ctL_le _ (by first | assumption | exact wrap_le _ | exact ctL_le _ (by first | assumption | exact wrap_le _))))), ?_⟩; rintro _ _ ⟨rfl, rfl⟩)
        | refine ⟨_, he, ?_⟩
        | (obtain ⟨x, hx⟩ := get_ex (ss := xs) (k := k) (by have := lt_of_dec0 (by assumption); omega); obtain ⟨a0, a1, rfl, h0⟩ := hP.all x (get_mem hx); have he : (mkL xs n)[k]? = some (.agg [.sl false (mkL a0 c), .b (decide (Int.tmod (ctL a0 c) 3 = 0))]) := (by rw [hc]; exact mk_get hx); have hf : 0 ≤ c ∧ c + cntL [.sl false a0, .b a1] ≤ 1000000000000000 := (by rw [hc]; have := hF.take hx; simpa only [cntD] using this); have f0 : Fine a0 c := Fine.cell (j := 0) hf rfl; have g0 : ¬ ctL a0 c < 0 := (by have := f0.out; omega); refine ⟨_, he, ?_⟩)
        | refine ⟨(by decide : (3 : Int) ≠ 0), ?_⟩
        | fail))
    | ((with_reducible refine isLoop ?_) <;> (first
        | (refine ⟨[5, 1, 0], [], fun s => ∃ (k : Nat) (i c : Int), i = k ∧ k ≤ xs.length ∧ c = ctL (xs.take k) n ∧ s = ⟨[(5, .d (.i .i64 i)), (1, .d (.i .i64 c)), (0, .d (.sl false (mkL xs n)))], []⟩, fun s => match look 5 s.env with | some (.d (.i _ i)) => xs.length - i.toNat | _ => 0, rfl, ⟨0, _, _, rfl, Nat.zero_le _, rfl, rfl⟩, ?_⟩; rintro s ⟨k, i, c, rfl, hk, hc, rfl⟩; have hcl : c ≤ 9223372036854775807 := (by rw [hc]; exact ctL_le _ (by have := hF.lo; have := hF.hi; omega)))
        | refine ⟨_, he, ?_⟩
        | (obtain ⟨x, hx⟩ := get_ex (ss := xs) (k := k) (by have := lt_of_dec0 (by assumption); omega); obtain ⟨a0, a1, rfl, h0⟩ := hP.all x (get_mem hx); have he : (mkL xs n)[k]? = some (.agg [.sl false (mkL a0 c), .b (decide (Int.tmod (ctL a0 c) 3 = 0))]) := (by rw [hc]; exact mk_get hx); have hf : 0 ≤ c ∧ c + cntL [.sl false a0, .b a1] ≤ 1000000000000000 := (by rw [hc]; have := hF.take hx; simpa only [cntD] using this); have f0 : Fine a0 c := Fine.cell (j := 0) hf rfl; have g0 : ¬ ctL a0 c < 0 := (by have := f0.out; omega); refine ⟨_, he, ?_⟩)
        | refine ⟨(by decide : (3 : Int) ≠ 0), ?_⟩
        | fail))
    | ((with_reducible refine isCut ?_) <;> (first
        | refine ⟨⟨none⟩, ?_⟩))
    | ((first | with_reducible refine isEx ?_ | with_reducible refine isAnd ?_ | with_reducible refine isOr ?_) <;> (first
        | refine ⟨_, he, ?_⟩
        | (obtain ⟨x, hx⟩ := get_ex (ss := xs) (k := k) (by have := lt_of_dec0 (by assumption); omega); obtain ⟨a0, a1, rfl, h0⟩ := hP.all x (get_mem hx); have he : (mkL xs n)[k]? = some (.agg [.sl false (mkL a0 c), .b (decide (Int.tmod (ctL a0 c) 3 = 0))]) := (by rw [hc]; exact mk_get hx); have hf : 0 ≤ c ∧ c + cntL [.sl false a0, .b a1] ≤ 1000000000000000 := (by rw [hc]; have := hF.take hx; simpa only [cntD] using this); have f0 : Fine a0 c := Fine.cell (j := 0) hf rfl; have g0 : ¬ ctL a0 c < 0 := (by have := f0.out; omega); refine ⟨_, he, ?_⟩)
        | refine ⟨(by decide : (3 : Int) ≠ 0), ?_⟩
        | ((with_reducible refine isSmall ?_) <;> (refine ⟨?_, ?_⟩; kernel_rfl))
        | refine ⟨rfl, ?_⟩
        | refine ⟨Int.natCast_nonneg _, ?_⟩))
    | with_reducible refine Both.mk ?_ ?_
    | (exfalso; exact absurd (of_decide_eq_true (by assumption)) g0)
    | rintro _ rfl
    | exact rfl
    | (split <;> (rename_i h; first | (simp only [beq_self_eq_true, eq_self, decide_true, Bool.not_true, Bool.false_eq_true] at h; done) | (try rw [h])))))
  all_goals (conv => whnf)
  · have hk2 : k < xs.length := get_lt hx
    subst hc
    exact ⟨⟨k + 1, _, _, step_up hk2 hP.len, hk2, (ct_up hx).symm, rfl⟩, mu_up hk2 hP.len⟩
  · have e : k = xs.length := by have := of_decide_eq_false (by assumption : decide ((k : Int) < ((mkL xs n).length : Int)) = false); omega
    rw [hc, (mk_all (xs := xs) (n := n) e).2]; exact ⟨rfl, rfl⟩
def isValue (x : D) : Prop := ∃ (a0 : Int) (a1 : Int) (a2 : List UInt8), x = .agg [.i .i64 a0, .i .i64 a1, .s a2]
def ownValue (x : D) : Prop := ∃ (a0 : Int) (a1 : Int) (a2 : List UInt8), x = .agg [.i .i64 a0, .i .i64 a1, .s a2]
theorem eraseValue {x : D} (h : ownValue x) : isValue x.erase := by
  obtain ⟨a0, a1, a2, rfl⟩ := h
  exact ⟨_, _, _, rfl⟩
set_option maxHeartbeats 1000000 in
theorem eqValue (x : D) (hP : isValue x) : Ent Tryz.prog 194 [.d x, .d x] [] (.d (.b true)) [] := by
  obtain ⟨a0, a1, a2, rfl⟩ := hP
  refine ent_of tok mixed (f := 194) Tryz.func194 (by kernel_rfl) (keep := false) ?_
  repeat' ((conv => whnf) <;> (first
    | ((with_reducible refine isCall ?_) <;> (first
        | fail))
    | ((with_reducible refine isLoop ?_) <;> (first
        | fail))
    | ((with_reducible refine isCut ?_) <;> (first
        | refine ⟨⟨none⟩, ?_⟩))
    | ((first | with_reducible refine isEx ?_ | with_reducible refine isAnd ?_ | with_reducible refine isOr ?_) <;> (first
        | ((with_reducible refine isSmall ?_) <;> (refine ⟨?_, ?_⟩; kernel_rfl))
        | refine ⟨rfl, ?_⟩
        | refine ⟨Int.natCast_nonneg _, ?_⟩))
    | with_reducible refine Both.mk ?_ ?_
    | rintro _ rfl
    | exact rfl
    | (split <;> (rename_i h; first | (simp only [beq_self_eq_true, eq_self, decide_true, Bool.not_true, Bool.false_eq_true] at h; done) | (try rw [h])))))
theorem eqValueS (xs : List D) (hP : AllOf isValue xs) : Ent Tryz.prog 110 [.d (.sl false xs), .d (.sl false xs)] [] (.d (.b true)) [] := by
  refine ent_of tok mixed (f := 110) Tryz.func110 (by kernel_rfl) (keep := false) ?_
  repeat' ((conv => whnf) <;> (first
    | ((with_reducible refine isCall ?_) <;> (first
        | (refine ⟨_, eqValue _ hs, ?_⟩; rintro _ _ ⟨rfl, rfl⟩)
        | refine ⟨_, hx, ?_⟩
        | (obtain ⟨x, hx⟩ := get_ex (ss := xs) (k := k) (lt_of_dec0 (by assumption)); have hs := hP.all x (get_mem hx); obtain ⟨a0, a1, a2, rfl⟩ := id hs; refine ⟨_, hx, ?_⟩)
        | exact ⟨rfl, ⟨k + 1, _, step_up (lt_of_dec0 (by assumption)) hP.len, lt_of_dec0 (by assumption), rfl⟩, mu_up (lt_of_dec0 (by assumption)) hP.len⟩
        | fail))
    | ((with_reducible refine isLoop ?_) <;> (first
        | (refine ⟨[5, 0, 1], [], fun s => ∃ (k : Nat) (n : Int), n = k ∧ k ≤ xs.length ∧ s = ⟨[(5, .d (.i .i64 n)), (0, .d (.sl false xs)), (1, .d (.sl false xs))], []⟩, fun s => match look 5 s.env with | some (.d (.i _ n)) => xs.length - n.toNat | _ => 0, rfl, ⟨0, _, rfl, Nat.zero_le _, rfl⟩, ?_⟩; rintro s ⟨k, n, rfl, hk, rfl⟩)
        | refine ⟨_, hx, ?_⟩
        | (obtain ⟨x, hx⟩ := get_ex (ss := xs) (k := k) (lt_of_dec0 (by assumption)); have hs := hP.all x (get_mem hx); obtain ⟨a0, a1, a2, rfl⟩ := id hs; refine ⟨_, hx, ?_⟩)
        | exact ⟨rfl, ⟨k + 1, _, step_up (lt_of_dec0 (by assumption)) hP.len, lt_of_dec0 (by assumption), rfl⟩, mu_up (lt_of_dec0 (by assumption)) hP.len⟩
        | fail))
    | ((with_reducible refine isCut ?_) <;> (first
        | refine ⟨⟨none⟩, ?_⟩))
    | ((first | with_reducible refine isEx ?_ | with_reducible refine isAnd ?_ | with_reducible refine isOr ?_) <;> (first
        | refine ⟨_, hx, ?_⟩
        | (obtain ⟨x, hx⟩ := get_ex (ss := xs) (k := k) (lt_of_dec0 (by assumption)); have hs := hP.all x (get_mem hx); obtain ⟨a0, a1, a2, rfl⟩ := id hs; refine ⟨_, hx, ?_⟩)
        | exact ⟨rfl, ⟨k + 1, _, step_up (lt_of_dec0 (by assumption)) hP.len, lt_of_dec0 (by assumption), rfl⟩, mu_up (lt_of_dec0 (by assumption)) hP.len⟩
        | ((with_reducible refine isSmall ?_) <;> (refine ⟨?_, ?_⟩; kernel_rfl))
        | refine ⟨rfl, ?_⟩
        | refine ⟨Int.natCast_nonneg _, ?_⟩))
    | with_reducible refine Both.mk ?_ ?_
    | rintro _ rfl
    | exact rfl
    | (split <;> (rename_i h; first | (simp only [beq_self_eq_true, eq_self, decide_true, Bool.not_true, Bool.false_eq_true] at h; done) | (try rw [h])))))
set_option maxHeartbeats 4000000 in
theorem markValueS (xs : List D) (hP : AllOf ownValue xs) (n : Int) (hn : n ≤ 9223372036854775807) : Ent Tryz.prog 86 [.own 0, .d (.i .i64 n)] [.arr 3 false xs] (.d (.i .i64 (ctL xs n))) [.arr 3 false (mkL xs n)] := by
  refine ent_of (cx := ⟨tab, [], []⟩) tok mixed (f := 86) Tryz.func86 (by kernel_rfl) (keep := false) ?_
  repeat' ((conv => whnf) <;> (first
    | ((with_reducible refine isCall ?_) <;> (first
        | (refine ⟨_, markTextD _ (by first | assumption | exact wrap_le _ | exact ctL_le _ (by first | assumption | exact wrap_le _ | exact ctL_le _ (by first | assumption | exact wrap_le _ | exact ctL_le _ (by first | assumption | exact wrap_le _ | exact ctL_le _ (by first | assumption | exact wrap_le _))))), ?_⟩; rintro _ _ ⟨rfl, rfl⟩)
        | refine ⟨⟨Int.natCast_nonneg _, (by have := lt_of_dec0 (xs := zs) (k := k) (by assumption); (try simp only [baseXs_len, List.length_set]); omega)⟩, ?_⟩
        | refine ⟨_, hzx, ?_⟩
        | refine .inl ⟨rfl, ?_⟩
        | refine ⟨_, set_get (n := zs.length) (by simp only [baseXs_len, List.length_set]) (get_lt hzx), ?_⟩
        | (obtain ⟨x, hx⟩ := get_ex (ss := xs) (k := k) (by have := lt_of_dec0 (xs := zs) (k := k) (by assumption); omega); obtain ⟨a0, a1, a2, rfl⟩ := hP.all x (get_mem hx); have hzx := mk_at (n := n) hx; rw [← hz] at hzx; refine ⟨_, hzx, ?_⟩)
        | refine ⟨(by decide : (3 : Int) ≠ 0), ?_⟩
        | fail))
    | ((with_reducible refine isLoop ?_) <;> (first
        | (refine ⟨[5, 1, 0], [0], fun s => ∃ (k : Nat) (i c : Int) (zs : List D), i = k ∧ k ≤ xs.length ∧ c = ctL (xs.take k) n ∧ zs = mkL (xs.take k) n ++ xs.drop k ∧ zs.length = xs.length ∧ s = ⟨[(5, .d (.i .i64 i)), (1, .d (.i .i64 c)), (0, .own 0)], [(0, .arr 3 false zs)]⟩, fun s => match look 5 s.env with | some (.d (.i _ i)) => xs.length - i.toNat | _ => 0, rfl, ⟨0, _, _, _, rfl, Nat.zero_le _, rfl, rfl, rfl, rfl⟩, ?_⟩; rintro s ⟨k, i, c, zs, rfl, hk, hc, hz, hzl, rfl⟩; have hcl : c ≤ 9223372036854775807 := (by rw [hc]; exact ctL_le _ hn))
        | refine ⟨⟨Int.natCast_nonneg _, (by have := lt_of_dec0 (xs := zs) (k := k) (by assumption); (try simp only [baseXs_len, List.length_set]); omega)⟩, ?_⟩
        | refine ⟨_, hzx, ?_⟩
        | refine .inl ⟨rfl, ?_⟩
        | refine ⟨_, set_get (n := zs.length) (by simp only [baseXs_len, List.length_set]) (get_lt hzx), ?_⟩
        | (obtain ⟨x, hx⟩ := get_ex (ss := xs) (k := k) (by have := lt_of_dec0 (xs := zs) (k := k) (by assumption); omega); obtain ⟨a0, a1, a2, rfl⟩ := hP.all x (get_mem hx); have hzx := mk_at (n := n) hx; rw [← hz] at hzx; refine ⟨_, hzx, ?_⟩)
        | refine ⟨(by decide : (3 : Int) ≠ 0), ?_⟩
        | fail))
    | ((with_reducible refine isCut ?_) <;> (first
        | refine ⟨⟨none⟩, ?_⟩))
    | ((first | with_reducible refine isEx ?_ | with_reducible refine isAnd ?_ | with_reducible refine isOr ?_) <;> (first
        | refine ⟨⟨Int.natCast_nonneg _, (by have := lt_of_dec0 (xs := zs) (k := k) (by assumption); (try simp only [baseXs_len, List.length_set]); omega)⟩, ?_⟩
        | refine ⟨_, hzx, ?_⟩
        | refine .inl ⟨rfl, ?_⟩
        | refine ⟨_, set_get (n := zs.length) (by simp only [baseXs_len, List.length_set]) (get_lt hzx), ?_⟩
        | (obtain ⟨x, hx⟩ := get_ex (ss := xs) (k := k) (by have := lt_of_dec0 (xs := zs) (k := k) (by assumption); omega); obtain ⟨a0, a1, a2, rfl⟩ := hP.all x (get_mem hx); have hzx := mk_at (n := n) hx; rw [← hz] at hzx; refine ⟨_, hzx, ?_⟩)
        | refine ⟨(by decide : (3 : Int) ≠ 0), ?_⟩
        | ((with_reducible refine isSmall ?_) <;> (refine ⟨?_, ?_⟩; kernel_rfl))
        | refine ⟨rfl, ?_⟩
        | refine ⟨Int.natCast_nonneg _, ?_⟩))
    | with_reducible refine Both.mk ?_ ?_
    | rintro _ rfl
    | exact rfl
    | (split <;> (rename_i h; first | (simp only [beq_self_eq_true, eq_self, decide_true, Bool.not_true, Bool.false_eq_true] at h; done) | (try rw [h])))))
  all_goals (conv => whnf)
  · have hk2 : k < xs.length := get_lt hx
    subst hc
    simp only [List.set_set]
    exact ⟨⟨k + 1, _, _, _, step_up hk2 hP.len, hk2, (ct_up hx).symm, (by rw [hz]; exact mk_set hx), (by rw [List.length_set]; exact hzl), rfl⟩, mu_up hk2 hP.len⟩
  · have e : k = xs.length := by have := of_decide_eq_false (by assumption : decide ((k : Int) < (zs.length : Int)) = false); omega
    obtain ⟨e1, e2⟩ := mk_all (xs := xs) (n := n) e
    rw [hz, hc, e1, e2]; exact ⟨rfl, rfl⟩
set_option maxHeartbeats 4000000 in
theorem heldValueS (xs : List D) (hP : AllOf isValue xs) (n : Int) (hF : Fine xs n) : Ent Tryz.prog 114 [.d (.sl false (mkL xs n)), .d (.i .i64 n)] [] (.d (.i .i64 (ctL xs n))) [] := by
  have hml := mkL_len xs n
  refine ent_of tok mixed (f := 114) Tryz.func114 (by kernel_rfl) (keep := false) ?_
  repeat' ((conv => whnf) <;> (first
    | ((with_reducible refine isCall ?_) <;> (first
        | (refine ⟨_, markTextD _ (by first | assumption | exact wrap_le _ | exact ctL_le _ (by first | assumption | exact wrap_le _ | exact ctL_le _ (by first | assumption | exact wrap_le _ | exact ctL_le _ (by first | assumption | exact wrap_le _ | exact ctL_le _ (by first | assumption | exact wrap_le _))))), ?_⟩; rintro _ _ ⟨rfl, rfl⟩)
        | refine ⟨_, he, ?_⟩
        | (obtain ⟨x, hx⟩ := get_ex (ss := xs) (k := k) (by have := lt_of_dec0 (by assumption); omega); obtain ⟨a0, a1, a2, rfl⟩ := hP.all x (get_mem hx); have he : (mkL xs n)[k]? = some (.agg [.i .i64 c, .i .i64 (IntKind.i64.wrap (c + 1)), .s (markTextM (IntKind.i64.wrap ((IntKind.i64.wrap (c + 1)) + 1)))]) := (by rw [hc]; exact mk_get hx); refine ⟨_, he, ?_⟩)
        | refine ⟨(by decide : (3 : Int) ≠ 0), ?_⟩
        | fail))
    | ((with_reducible refine isLoop ?_) <;> (first
        | (refine ⟨[5, 1, 0], [], fun s => ∃ (k : Nat) (i c : Int), i = k ∧ k ≤ xs.length ∧ c = ctL (xs.take k) n ∧ s = ⟨[(5, .d (.i .i64 i)), (1, .d (.i .i64 c)), (0, .d (.sl false (mkL xs n)))], []⟩, fun s => match look 5 s.env with | some (.d (.i _ i)) => xs.length - i.toNat | _ => 0, rfl, ⟨0, _, _, rfl, Nat.zero_le _, rfl, rfl⟩, ?_⟩; rintro s ⟨k, i, c, rfl, hk, hc, rfl⟩; have hcl : c ≤ 9223372036854775807 := (by rw [hc]; exact ctL_le _ (by have := hF.lo; have := hF.hi; omega)))
        | refine ⟨_, he, ?_⟩
        | (obtain ⟨x, hx⟩ := get_ex (ss := xs) (k := k) (by have := lt_of_dec0 (by assumption); omega); obtain ⟨a0, a1, a2, rfl⟩ := hP.all x (get_mem hx); have he : (mkL xs n)[k]? = some (.agg [.i .i64 c, .i .i64 (IntKind.i64.wrap (c + 1)), .s (markTextM (IntKind.i64.wrap ((IntKind.i64.wrap (c + 1)) + 1)))]) := (by rw [hc]; exact mk_get hx); refine ⟨_, he, ?_⟩)
        | refine ⟨(by decide : (3 : Int) ≠ 0), ?_⟩
        | fail))
    | ((with_reducible refine isCut ?_) <;> (first
        | refine ⟨⟨none⟩, ?_⟩))
    | ((first | with_reducible refine isEx ?_ | with_reducible refine isAnd ?_ | with_reducible refine isOr ?_) <;> (first
        | refine ⟨_, he, ?_⟩
        | (obtain ⟨x, hx⟩ := get_ex (ss := xs) (k := k) (by have := lt_of_dec0 (by assumption); omega); obtain ⟨a0, a1, a2, rfl⟩ := hP.all x (get_mem hx); have he : (mkL xs n)[k]? = some (.agg [.i .i64 c, .i .i64 (IntKind.i64.wrap (c + 1)), .s (markTextM (IntKind.i64.wrap ((IntKind.i64.wrap (c + 1)) + 1)))]) := (by rw [hc]; exact mk_get hx); refine ⟨_, he, ?_⟩)
        | refine ⟨(by decide : (3 : Int) ≠ 0), ?_⟩
        | ((with_reducible refine isSmall ?_) <;> (refine ⟨?_, ?_⟩; kernel_rfl))
        | refine ⟨rfl, ?_⟩
        | refine ⟨Int.natCast_nonneg _, ?_⟩))
    | with_reducible refine Both.mk ?_ ?_
    | rintro _ rfl
    | exact rfl
    | (split <;> (rename_i h; first | (simp only [beq_self_eq_true, eq_self, decide_true, Bool.not_true, Bool.false_eq_true] at h; done) | (try rw [h])))))
  all_goals (conv => whnf)
  · have hk2 : k < xs.length := get_lt hx
    subst hc
    exact ⟨⟨k + 1, _, _, step_up hk2 hP.len, hk2, (ct_up hx).symm, rfl⟩, mu_up hk2 hP.len⟩
  · have e : k = xs.length := by have := of_decide_eq_false (by assumption : decide ((k : Int) < ((mkL xs n).length : Int)) = false); omega
    rw [hc, (mk_all (xs := xs) (n := n) e).2]; exact ⟨rfl, rfl⟩
def isSchema (x : D) : Prop := ∃ (a0 : List UInt8) (a1 : List D) (a2 : List D) (a3 : List D), x = .agg [.s a0, .sl false a1, .sl false a2, .sl false a3] ∧ AllOf isColumn a1 ∧ AllOf isInt64 a2 ∧ AllOf isIndex a3
def ownSchema (x : D) : Prop := ∃ (a0 : List UInt8) (a1 : List D) (a2 : List D) (a3 : List D), x = .agg [.s a0, .os 3 false a1, .os 1 false a2, .os 2 true a3] ∧ AllOf ownColumn a1 ∧ AllOf ownInt64 a2 ∧ AllOf ownIndex a3
theorem eraseSchema {x : D} (h : ownSchema x) : isSchema x.erase := by
  obtain ⟨a0, a1, a2, a3, rfl, h1, h2, h3⟩ := h
  exact ⟨_, _, _, _, rfl, h1.erase fun _ => eraseColumn, h2.erase fun _ => eraseInt64, h3.erase fun _ => eraseIndex⟩
set_option maxHeartbeats 1000000 in
theorem eqSchema (x : D) (hP : isSchema x) : Ent Tryz.prog 51 [.d x, .d x] [] (.d (.b true)) [] := by
  obtain ⟨a0, a1, a2, a3, rfl, h1, h2, h3⟩ := hP
  refine ent_of tok mixed (f := 51) Tryz.func51 (by kernel_rfl) (keep := false) ?_
  repeat' ((conv => whnf) <;> (first
    | ((with_reducible refine isCall ?_) <;> (first
        | (refine ⟨_, eqColumnS _ h1, ?_⟩; rintro _ _ ⟨rfl, rfl⟩)
        | (refine ⟨_, eqInt64S _ h2, ?_⟩; rintro _ _ ⟨rfl, rfl⟩)
        | (refine ⟨_, eqIndexS _ h3, ?_⟩; rintro _ _ ⟨rfl, rfl⟩)
        | fail))
    | ((with_reducible refine isLoop ?_) <;> (first
        | fail))
    | ((with_reducible refine isCut ?_) <;> (first
        | refine ⟨⟨none⟩, ?_⟩))
    | ((first | with_reducible refine isEx ?_ | with_reducible refine isAnd ?_ | with_reducible refine isOr ?_) <;> (first
        | ((with_reducible refine isSmall ?_) <;> (refine ⟨?_, ?_⟩; kernel_rfl))
        | refine ⟨rfl, ?_⟩
        | refine ⟨Int.natCast_nonneg _, ?_⟩))
    | with_reducible refine Both.mk ?_ ?_
    | rintro _ rfl
    | exact rfl
    | (split <;> (rename_i h; first | (simp only [beq_self_eq_true, eq_self, decide_true, Bool.not_true, Bool.false_eq_true] at h; done) | (try rw [h])))))
set_option maxHeartbeats 4000000 in
theorem markSchema (a0 : List UInt8) (a1 : List D) (a2 : List D) (a3 : List D) (h1 : AllOf ownColumn a1) (h2 : AllOf ownInt64 a2) (h3 : AllOf ownIndex a3) (n : Int) (hn : n ≤ 9223372036854775807) : Ent Tryz.prog 55 [.agg [.d (.s a0), .own 0, .own 1, .own 2], .d (.i .i64 n)] [.arr 3 false a1, .arr 1 false a2, .arr 2 true a3] (.d (.i .i64 (ctL a3 (ctL a2 (ctL a1 n))))) [.arr 3 false (mkL a1 n), .arr 1 false (mkL a2 (ctL a1 n)), .arr 2 true (mkL a3 (ctL a2 (ctL a1 n)))] := by
  refine ent_of (cx := ⟨tab, [83, 85, 84], []⟩) tok mixed (f := 55) Tryz.func55 (by kernel_rfl) (keep := false) ?_
  repeat' ((conv => whnf) <;> (first
    | ((with_reducible refine isCall ?_) <;> (first
        | (refine ⟨_, markColumnS a1 h1 _ (by first | assumption | exact wrap_le _ | exact ctL_le _ (by first | assumption | exact wrap_le _ | exact ctL_le _ (by first | assumption | exact wrap_le _ | exact ctL_le _ (by first | assumption | exact wrap_le _ | exact ctL_le _ (by first | assumption | exact wrap_le _))))), ?_⟩; rintro _ _ ⟨rfl, rfl⟩)
        | (refine ⟨_, markInt64S a2 h2 _ (by first | assumption | exact wrap_le _ | exact ctL_le _ (by first | assumption | exact wrap_le _ | exact ctL_le _ (by first | assumption | exact wrap_le _ | exact ctL_le _ (by first | assumption | exact wrap_le _ | exact ctL_le _ (by first | assumption | exact wrap_le _))))), ?_⟩; rintro _ _ ⟨rfl, rfl⟩)
        | (refine ⟨_, markIndexS a3 h3 _ (by first | assumption | exact wrap_le _ | exact ctL_le _ (by first | assumption | exact wrap_le _ | exact ctL_le _ (by first | assumption | exact wrap_le _ | exact ctL_le _ (by first | assumption | exact wrap_le _ | exact ctL_le _ (by first | assumption | exact wrap_le _))))), ?_⟩; rintro _ _ ⟨rfl, rfl⟩)
        | fail))
    | ((with_reducible refine isLoop ?_) <;> (first
        | fail))
    | ((with_reducible refine isCut ?_) <;> (first
        | refine ⟨⟨none⟩, ?_⟩))
    | ((first | with_reducible refine isEx ?_ | with_reducible refine isAnd ?_ | with_reducible refine isOr ?_) <;> (first
        | ((with_reducible refine isSmall ?_) <;> (refine ⟨?_, ?_⟩; kernel_rfl))
        | refine ⟨rfl, ?_⟩
        | refine ⟨Int.natCast_nonneg _, ?_⟩))
    | with_reducible refine Both.mk ?_ ?_
    | rintro _ rfl
    | exact rfl
    | (split <;> (rename_i h; first | (simp only [beq_self_eq_true, eq_self, decide_true, Bool.not_true, Bool.false_eq_true] at h; done) | (try rw [h])))))
set_option maxHeartbeats 4000000 in
theorem heldSchema (a0 : List UInt8) (a1 : List D) (a2 : List D) (a3 : List D) (h1 : AllOf isColumn a1) (h2 : AllOf isInt64 a2) (h3 : AllOf isIndex a3) (n : Int) (f1 : Fine a1 n) (f2 : Fine a2 (ctL a1 n)) (f3 : Fine a3 (ctL a2 (ctL a1 n))) : Ent Tryz.prog 57 [.d (.agg [.s a0, .sl false (mkL a1 n), .sl false (mkL a2 (ctL a1 n)), .sl false (mkL a3 (ctL a2 (ctL a1 n)))]), .d (.i .i64 n)] [] (.d (.i .i64 (ctL a3 (ctL a2 (ctL a1 n))))) [] := by
  have g1 : ¬ ctL a1 n < 0 := (by have := f1.out; omega)
  have g2 : ¬ ctL a2 (ctL a1 n) < 0 := (by have := f2.out; omega)
  have g3 : ¬ ctL a3 (ctL a2 (ctL a1 n)) < 0 := (by have := f3.out; omega)
  refine ent_of tok mixed (f := 57) Tryz.func57 (by kernel_rfl) (keep := false) ?_
  repeat' ((conv => whnf) <;> (first
    | ((with_reducible refine isCall ?_) <;> (first
        | (refine ⟨_, heldColumnS a1 h1 _ f1, ?_⟩; rintro _ _ ⟨rfl, rfl⟩)
        | (refine ⟨_, heldInt64S a2 h2 _ f2, ?_⟩; rintro _ _ ⟨rfl, rfl⟩)
        | (refine ⟨_, heldIndexS a3 h3 _ f3, ?_⟩; rintro _ _ ⟨rfl, rfl⟩)
        | fail))
    | ((with_reducible refine isLoop ?_) <;> (first
        | fail))
    | ((with_reducible refine isCut ?_) <;> (first
        | refine ⟨⟨none⟩, ?_⟩))
    | ((first | with_reducible refine isEx ?_ | with_reducible refine isAnd ?_ | with_reducible refine isOr ?_) <;> (first
        | ((with_reducible refine isSmall ?_) <;> (refine ⟨?_, ?_⟩; kernel_rfl))
        | refine ⟨rfl, ?_⟩
        | refine ⟨Int.natCast_nonneg _, ?_⟩))
    | with_reducible refine Both.mk ?_ ?_
    | (exfalso; exact absurd (of_decide_eq_true (by assumption)) g1)
    | (exfalso; exact absurd (of_decide_eq_true (by assumption)) g2)
    | (exfalso; exact absurd (of_decide_eq_true (by assumption)) g3)
    | rintro _ rfl
    | exact rfl
    | (split <;> (rename_i h; first | (simp only [beq_self_eq_true, eq_self, decide_true, Bool.not_true, Bool.false_eq_true] at h; done) | (try rw [h])))))
end Go.Pm.Tryz
