/-
The laws' helpers for data of these types (printed by fam.py).
-/
import Derived.Test.YtlihmioijkichaaCg
namespace Go.Pm.Try
open Go Go.Proofs
set_option linter.unusedVariables false
set_option linter.unusedSimpArgs false
set_option maxRecDepth 100000
def isInt64 (x : D) : Prop := ∃ n : Int, x = .i .i64 n
def ownInt64 (x : D) : Prop := ∃ n : Int, x = .i .i64 n
theorem eraseInt64 {x : D} (h : ownInt64 x) : isInt64 x.erase := by obtain ⟨n, rfl⟩ := h; exact ⟨n, rfl⟩
theorem eqInt64S (xs : List D) (hP : AllOf isInt64 xs) : Ent Try.prog 79 [.d (.sl false xs), .d (.sl false xs)] [] (.d (.b true)) [] := by
  refine ent_of tok mixed (f := 79) Try.func79 (by kernel_rfl) (keep := false) ?_
  repeat' ((conv => whnf) <;> (first
    | ((with_reducible refine isCall ?_) <;> (first
        | refine ⟨_, hx, ?_⟩
        | (obtain ⟨x, hx⟩ := get_ex (ss := xs) (k := k) (lt_of_dec0 (by assumption)); have hs := hP.all x (get_mem hx); obtain ⟨a0, rfl⟩ := id hs; refine ⟨_, hx, ?_⟩)
        | exact ⟨rfl, ⟨k + 1, _, step_up (lt_of_dec0 (by assumption)) hP.len, lt_of_dec0 (by assumption), rfl⟩, mu_up (lt_of_dec0 (by assumption)) hP.len⟩
        | fail))
    | ((with_reducible refine isLoop ?_) <;> (first
        | (refine ⟨[5, 0, 1], [], fun s => ∃ (k : Nat) (n : Int), n = k ∧ k ≤ xs.length ∧ s = ⟨[(5, .d (.i .i64 n)), (0, .d (.sl false xs)), (1, .d (.sl false xs))], []⟩, fun s => match look 5 s.env with | some (.d (.i _ n)) => xs.length - n.toNat | _ => 0, rfl, ⟨0, _, rfl, Nat.zero_le _, rfl⟩, ?_⟩; rintro s ⟨k, n, rfl, hk, rfl⟩)
        | refine ⟨_, hx, ?_⟩
        | (obtain ⟨x, hx⟩ := get_ex (ss := xs) (k := k) (lt_of_dec0 (by assumption)); have hs := hP.all x (get_mem hx); obtain ⟨a0, rfl⟩ := id hs; refine ⟨_, hx, ?_⟩)
        | exact ⟨rfl, ⟨k + 1, _, step_up (lt_of_dec0 (by assumption)) hP.len, lt_of_dec0 (by assumption), rfl⟩, mu_up (lt_of_dec0 (by assumption)) hP.len⟩
        | fail))
    | ((with_reducible refine isCut ?_) <;> (first
        | refine ⟨⟨none⟩, ?_⟩))
    | ((first | with_reducible refine isEx ?_ | with_reducible refine isAnd ?_ | with_reducible refine isOr ?_) <;> (first
        | refine ⟨_, hx, ?_⟩
        | (obtain ⟨x, hx⟩ := get_ex (ss := xs) (k := k) (lt_of_dec0 (by assumption)); have hs := hP.all x (get_mem hx); obtain ⟨a0, rfl⟩ := id hs; refine ⟨_, hx, ?_⟩)
        | exact ⟨rfl, ⟨k + 1, _, step_up (lt_of_dec0 (by assumption)) hP.len, lt_of_dec0 (by assumption), rfl⟩, mu_up (lt_of_dec0 (by assumption)) hP.len⟩
        | refine ⟨rfl, ?_⟩
        | refine ⟨Int.natCast_nonneg _, ?_⟩))
    | with_reducible refine Both.mk ?_ ?_
    | rintro _ rfl
    | exact rfl
    | (split <;> (rename_i h; first | (simp only [beq_self_eq_true, eq_self, decide_true, Bool.not_true, Bool.false_eq_true] at h; done) | (try rw [h])))))
set_option maxHeartbeats 4000000 in
theorem markInt64S (xs : List D) (hP : AllOf ownInt64 xs) (n : Int) (hn : n ≤ 9223372036854775807) : Ent Try.prog 82 [.own 0, .d (.i .i64 n)] [.arr 1 false xs] (.d (.i .i64 (ctL xs n))) [.arr 1 false (mkL xs n)] := by
  refine ent_of (cx := ⟨tab, [], []⟩) tok mixed (f := 82) Try.func82 (by kernel_rfl) (keep := false) ?_
  repeat' ((conv => whnf) <;> (first
    | ((with_reducible refine isCall ?_) <;> (first
        | refine ⟨⟨Int.natCast_nonneg _, of_decide_eq_true (by assumption)⟩, ?_⟩
        | refine ⟨⟨lt_of_dec0 (by assumption), rfl⟩, ?_⟩
        | fail))
    | ((with_reducible refine isLoop ?_) <;> (first
        | (refine ⟨[5, 1, 0], [0], fun s => ∃ (k : Nat) (i c : Int) (zs : List D), i = k ∧ k ≤ xs.length ∧ c = ctL (xs.take k) n ∧ zs = mkL (xs.take k) n ++ xs.drop k ∧ zs.length = xs.length ∧ s = ⟨[(5, .d (.i .i64 i)), (1, .d (.i .i64 c)), (0, .own 0)], [(0, .arr 1 false zs)]⟩, fun s => match look 5 s.env with | some (.d (.i _ i)) => xs.length - i.toNat | _ => 0, rfl, ⟨0, _, _, _, rfl, Nat.zero_le _, rfl, rfl, rfl, rfl⟩, ?_⟩; rintro s ⟨k, i, c, zs, rfl, hk, hc, hz, hzl, rfl⟩; have hcl : c ≤ 9223372036854775807 := (by rw [hc]; exact ctL_le _ hn))
        | refine ⟨⟨Int.natCast_nonneg _, of_decide_eq_true (by assumption)⟩, ?_⟩
        | refine ⟨⟨lt_of_dec0 (by assumption), rfl⟩, ?_⟩
        | fail))
    | ((with_reducible refine isCut ?_) <;> (first
        | refine ⟨⟨none⟩, ?_⟩))
    | ((first | with_reducible refine isEx ?_ | with_reducible refine isAnd ?_ | with_reducible refine isOr ?_) <;> (first
        | refine ⟨⟨Int.natCast_nonneg _, of_decide_eq_true (by assumption)⟩, ?_⟩
        | refine ⟨⟨lt_of_dec0 (by assumption), rfl⟩, ?_⟩
        | refine ⟨rfl, ?_⟩
        | refine ⟨Int.natCast_nonneg _, ?_⟩))
    | with_reducible refine Both.mk ?_ ?_
    | rintro _ rfl
    | exact rfl
    | (split <;> (rename_i h; first | (simp only [beq_self_eq_true, eq_self, decide_true, Bool.not_true, Bool.false_eq_true] at h; done) | (try rw [h])))))
  all_goals (conv => whnf)
  · have hk2 : k < xs.length := by have := lt_of_dec0 (xs := zs) (k := k) (by assumption); omega
    obtain ⟨x, hx⟩ := get_ex (ss := xs) (k := k) hk2
    obtain ⟨a0, rfl⟩ := hP.all x (get_mem hx)
    subst hc
    exact ⟨⟨k + 1, _, _, _, step_up hk2 hP.len, hk2, (ct_up hx).symm, (by rw [hz]; exact mk_set hx), (by rw [List.length_set]; exact hzl), rfl⟩, mu_up hk2 hP.len⟩
  · have e : k = xs.length := by have := of_decide_eq_false (by assumption : decide ((k : Int) < (zs.length : Int)) = false); omega
    obtain ⟨e1, e2⟩ := mk_all (xs := xs) (n := n) e
    rw [hz, hc, e1, e2]; exact ⟨rfl, rfl⟩
set_option maxHeartbeats 4000000 in
theorem heldInt64S (xs : List D) (hP : AllOf isInt64 xs) (n : Int) (hF : Fine xs n) : Ent Try.prog 85 [.d (.sl false (mkL xs n)), .d (.i .i64 n)] [] (.d (.i .i64 (ctL xs n))) [] := by
  have hml := mkL_len xs n
  refine ent_of tok mixed (f := 85) Try.func85 (by kernel_rfl) (keep := false) ?_
  repeat' ((conv => whnf) <;> (first
    | ((with_reducible refine isCall ?_) <;> (first
        | refine ⟨_, he, ?_⟩
        | (obtain ⟨x, hx⟩ := get_ex (ss := xs) (k := k) (by have := lt_of_dec0 (by assumption); omega); obtain ⟨a0, rfl⟩ := hP.all x (get_mem hx); have he : (mkL xs n)[k]? = some (.i .i64 c) := (by rw [hc]; exact mk_get hx); refine ⟨_, he, ?_⟩)
        | fail))
    | ((with_reducible refine isLoop ?_) <;> (first
        | (refine ⟨[5, 1, 0], [], fun s => ∃ (k : Nat) (i c : Int), i = k ∧ k ≤ xs.length ∧ c = ctL (xs.take k) n ∧ s = ⟨[(5, .d (.i .i64 i)), (1, .d (.i .i64 c)), (0, .d (.sl false (mkL xs n)))], []⟩, fun s => match look 5 s.env with | some (.d (.i _ i)) => xs.length - i.toNat | _ => 0, rfl, ⟨0, _, _, rfl, Nat.zero_le _, rfl, rfl⟩, ?_⟩; rintro s ⟨k, i, c, rfl, hk, hc, rfl⟩; have hcl : c ≤ 9223372036854775807 := (by rw [hc]; exact ctL_le _ (by have := hF.lo; have := hF.hi; omega)))
        | refine ⟨_, he, ?_⟩
        | (obtain ⟨x, hx⟩ := get_ex (ss := xs) (k := k) (by have := lt_of_dec0 (by assumption); omega); obtain ⟨a0, rfl⟩ := hP.all x (get_mem hx); have he : (mkL xs n)[k]? = some (.i .i64 c) := (by rw [hc]; exact mk_get hx); refine ⟨_, he, ?_⟩)
        | fail))
    | ((with_reducible refine isCut ?_) <;> (first
        | refine ⟨⟨none⟩, ?_⟩))
    | ((first | with_reducible refine isEx ?_ | with_reducible refine isAnd ?_ | with_reducible refine isOr ?_) <;> (first
        | refine ⟨_, he, ?_⟩
        | (obtain ⟨x, hx⟩ := get_ex (ss := xs) (k := k) (by have := lt_of_dec0 (by assumption); omega); obtain ⟨a0, rfl⟩ := hP.all x (get_mem hx); have he : (mkL xs n)[k]? = some (.i .i64 c) := (by rw [hc]; exact mk_get hx); refine ⟨_, he, ?_⟩)
        | refine ⟨rfl, ?_⟩
        | refine ⟨Int.natCast_nonneg _, ?_⟩))
    | with_reducible refine Both.mk ?_ ?_
    | rintro _ rfl
    | exact rfl
    | (split <;> (rename_i h; first | (simp only [beq_self_eq_true, eq_self, decide_true, Bool.not_true, Bool.false_eq_true] at h; done) | (try rw [h])))))
  all_goals (conv => whnf)
  · have hk2 : k < xs.length := get_lt hx
    subst hc
    exact ⟨⟨k + 1, _, _, step_up hk2 hP.len, hk2, (ct_up hx).symm, rfl⟩, mu_up hk2 hP.len⟩
  · have e : k = xs.length := by have := of_decide_eq_false (by assumption : decide ((k : Int) < ((mkL xs n).length : Int)) = false); omega
    rw [hc, (mk_all (xs := xs) (n := n) e).2]; exact ⟨rfl, rfl⟩
def isColumn (x : D) : Prop := ∃ (a0 : List UInt8) (a1 : Int) (a2 : Bool), x = .agg [.s a0, .i .i64 a1, .b a2]
def ownColumn (x : D) : Prop := ∃ (a0 : List UInt8) (a1 : Int) (a2 : Bool), x = .agg [.s a0, .i .i64 a1, .b a2]
theorem eraseColumn {x : D} (h : ownColumn x) : isColumn x.erase := by
  obtain ⟨a0, a1, a2, rfl⟩ := h
  exact ⟨_, _, _, rfl⟩
set_option maxHeartbeats 1000000 in
theorem eqColumn (x : D) (hP : isColumn x) : Ent Try.prog 114 [.d x, .d x] [] (.d (.b true)) [] := by
  obtain ⟨a0, a1, a2, rfl⟩ := hP
  refine ent_of tok mixed (f := 114) Try.func114 (by kernel_rfl) (keep := false) ?_
  repeat' ((conv => whnf) <;> (first
    | ((with_reducible refine isCall ?_) <;> (first
        | fail))
    | ((with_reducible refine isLoop ?_) <;> (first
        | fail))
    | ((with_reducible refine isCut ?_) <;> (first
        | refine ⟨⟨none⟩, ?_⟩))
    | ((first | with_reducible refine isEx ?_ | with_reducible refine isAnd ?_ | with_reducible refine isOr ?_) <;> (first
        | refine ⟨rfl, ?_⟩
        | refine ⟨Int.natCast_nonneg _, ?_⟩))
    | with_reducible refine Both.mk ?_ ?_
    | rintro _ rfl
    | exact rfl
    | (split <;> (rename_i h; first | (simp only [beq_self_eq_true, eq_self, decide_true, Bool.not_true, Bool.false_eq_true] at h; done) | (try rw [h])))))
theorem eqColumnS (xs : List D) (hP : AllOf isColumn xs) : Ent Try.prog 78 [.d (.sl false xs), .d (.sl false xs)] [] (.d (.b true)) [] := by
  refine ent_of tok mixed (f := 78) Try.func78 (by kernel_rfl) (keep := false) ?_
  repeat' ((conv => whnf) <;> (first
    | ((with_reducible refine isCall ?_) <;> (first
        | (refine ⟨_, eqColumn _ hs, ?_⟩; rintro _ _ ⟨rfl, rfl⟩)
        | refine ⟨_, hx, ?_⟩
        | (obtain ⟨x, hx⟩ := get_ex (ss := xs) (k := k) (lt_of_dec0 (by assumption)); have hs := hP.all x (get_mem hx); obtain ⟨a0, a1, a2, rfl⟩ := id hs; refine ⟨_, hx, ?_⟩)
        | exact ⟨rfl, ⟨k + 1, _, step_up (lt_of_dec0 (by assumption)) hP.len, lt_of_dec0 (by assumption), rfl⟩, mu_up (lt_of_dec0 (by assumption)) hP.len⟩
        | fail))
    | ((with_reducible refine isLoop ?_) <;> (first
        | (refine ⟨[5, 0, 1], [], fun s => ∃ (k : Nat) (n : Int), n = k ∧ k ≤ xs.length ∧ s = ⟨[(5, .d (.i .i64 n)), (0, .d (.sl false xs)), (1, .d (.sl false xs))], []⟩, fun s => match look 5 s.env with | some (.d (.i _ n)) => xs.length - n.toNat | _ => 0, rfl, ⟨0, _, rfl, Nat.zero_le _, rfl⟩, ?_⟩; rintro s ⟨k, n, rfl, hk, rfl⟩)
        | refine ⟨_, hx, ?_⟩
        | (obtain ⟨x, hx⟩ := get_ex (ss := xs) (k := k) (lt_of_dec0 (by assumption)); have hs := hP.all x (get_mem hx); obtain ⟨a0, a1, a2, rfl⟩ := id hs; refine ⟨_, hx, ?_⟩)
        | exact ⟨rfl, ⟨k + 1, _, step_up (lt_of_dec0 (by assumption)) hP.len, lt_of_dec0 (by assumption), rfl⟩, mu_up (lt_of_dec0 (by assumption)) hP.len⟩
        | fail))
    | ((with_reducible refine isCut ?_) <;> (first
        | refine ⟨⟨none⟩, ?_⟩))
    | ((first | with_reducible refine isEx ?_ | with_reducible refine isAnd ?_ | with_reducible refine isOr ?_) <;> (first
        | refine ⟨_, hx, ?_⟩
        | (obtain ⟨x, hx⟩ := get_ex (ss := xs) (k := k) (lt_of_dec0 (by assumption)); have hs := hP.all x (get_mem hx); obtain ⟨a0, a1, a2, rfl⟩ := id hs; refine ⟨_, hx, ?_⟩)
        | exact ⟨rfl, ⟨k + 1, _, step_up (lt_of_dec0 (by assumption)) hP.len, lt_of_dec0 (by assumption), rfl⟩, mu_up (lt_of_dec0 (by assumption)) hP.len⟩
        | refine ⟨rfl, ?_⟩
        | refine ⟨Int.natCast_nonneg _, ?_⟩))
    | with_reducible refine Both.mk ?_ ?_
    | rintro _ rfl
    | exact rfl
    | (split <;> (rename_i h; first | (simp only [beq_self_eq_true, eq_self, decide_true, Bool.not_true, Bool.false_eq_true] at h; done) | (try rw [h])))))
set_option maxHeartbeats 4000000 in
theorem markColumnS (xs : List D) (hP : AllOf ownColumn xs) (n : Int) (hn : n ≤ 9223372036854775807) : Ent Try.prog 81 [.own 0, .d (.i .i64 n)] [.arr 3 false xs] (.d (.i .i64 (ctL xs n))) [.arr 3 false (mkL xs n)] := by
  refine ent_of (cx := ⟨tab, [], []⟩) tok mixed (f := 81) Try.func81 (by kernel_rfl) (keep := false) ?_
  repeat' ((conv => whnf) <;> (first
    | ((with_reducible refine isCall ?_) <;> (first
        | (refine ⟨_, markTextD _ (by first | assumption | exact wrap_le _ | exact ctL_le _ (by first | assumption | exact wrap_le _ | exact ctL_le _ (by first | assumption | exact wrap_le _ | exact ctL_le _ (by first | assumption | exact wrap_le _ | exact ctL_le _ (by first | assumption | exact wrap_le _))))), ?_⟩; rintro _ _ ⟨rfl, rfl⟩)
        | refine ⟨⟨Int.natCast_nonneg _, (by have := lt_of_dec0 (xs := zs) (k := k) (by assumption); (try simp only [baseXs_len, List.length_set]); omega)⟩, ?_⟩
        | refine ⟨_, hzx, ?_⟩
        | refine .inl ⟨rfl, ?_⟩
        | refine ⟨_, set_get (n := zs.length) (by simp only [baseXs_len, List.length_set]) (get_lt hzx), ?_⟩
        | (obtain ⟨x, hx⟩ := get_ex (ss := xs) (k := k) (by have := lt_of_dec0 (xs := zs) (k := k) (by assumption); omega); obtain ⟨a0, a1, a2, rfl⟩ := hP.all x (get_mem hx); have hzx := mk_at (n := n) hx; rw [← hz] at hzx; refine ⟨_, hzx, ?_⟩)
        | refine ⟨(by decide : (3 : Int) ≠ 0), ?_⟩
        | fail))
    | ((with_reducible refine isLoop ?_) <;> (first
        | (refine ⟨[5, 1, 0], [0], fun s => ∃ (k : Nat) (i c : Int) (zs : List D), i = k ∧ k ≤ xs.length ∧ c = ctL (xs.take k) n ∧ zs = mkL (xs.take k) n ++ xs.drop k ∧ zs.length = xs.length ∧ s = ⟨[(5, .d (.i .i64 i)), (1, .d (.i .i64 c)), (0, .own 0)], [(0, .arr 3 false zs)]⟩, fun s => match look 5 s.env with | some (.d (.i _ i)) => xs.length - i.toNat | _ => 0, rfl, ⟨0, _, _, _, rfl, Nat.zero_le _, rfl, rfl, rfl, rfl⟩, ?_⟩; rintro s ⟨k, i, c, zs, rfl, hk, hc, hz, hzl, rfl⟩; have hcl : c ≤ 9223372036854775807 := (by rw [hc]; exact ctL_le _ hn))
        | refine ⟨⟨Int.natCast_nonneg _, (by have := lt_of_dec0 (xs := zs) (k := k) (by assumption); (try simp only [baseXs_len, List.length_set]); omega)⟩, ?_⟩
        | refine ⟨_, hzx, ?_⟩
        | refine .inl ⟨rfl, ?_⟩
        | refine ⟨_, set_get (n := zs.length) (by simp only [baseXs_len, List.length_set]) (get_lt hzx), ?_⟩
        | (obtain ⟨x, hx⟩ := get_ex (ss := xs) (k := k) (by have := lt_of_dec0 (xs := zs) (k := k) (by assumption); omega); obtain ⟨a0, a1, a2, rfl⟩ := hP.all x (get_mem hx); have hzx := mk_at (n := n) hx; rw [← hz] at hzx; refine ⟨_, hzx, ?_⟩)
        | refine ⟨(by decide : (3 : Int) ≠ 0), ?_⟩
        | fail))
    | ((with_reducible refine isCut ?_) <;> (first
        | refine ⟨⟨none⟩, ?_⟩))
    | ((first | with_reducible refine isEx ?_ | with_reducible refine isAnd ?_ | with_reducible refine isOr ?_) <;> (first
        | refine ⟨⟨Int.natCast_nonneg _, (by have := lt_of_dec0 (xs := zs) (k := k) (by assumption); (try simp only [baseXs_len, List.length_set]); omega)⟩, ?_⟩
        | refine ⟨_, hzx, ?_⟩
        | refine .inl ⟨rfl, ?_⟩
        | refine ⟨_, set_get (n := zs.length) (by simp only [baseXs_len, List.length_set]) (get_lt hzx), ?_⟩
        | (obtain ⟨x, hx⟩ := get_ex (ss := xs) (k := k) (by have := lt_of_dec0 (xs := zs) (k := k) (by assumption); omega); obtain ⟨a0, a1, a2, rfl⟩ := hP.all x (get_mem hx); have hzx := mk_at (n := n) hx; rw [← hz] at hzx; refine ⟨_, hzx, ?_⟩)
        | refine ⟨(by decide : (3 : Int) ≠ 0), ?_⟩
        | refine ⟨rfl, ?_⟩
        | refine ⟨Int.natCast_nonneg _, ?_⟩))
    | with_reducible refine Both.mk ?_ ?_
    | rintro _ rfl
    | exact rfl
    | (split <;> (rename_i h; first | (simp only [beq_self_eq_true, eq_self, decide_true, Bool.not_true, Bool.false_eq_true] at h; done) | (try rw [h])))))
  all_goals (conv => whnf)
  · have hk2 : k < xs.length := get_lt hx
    subst hc
    simp only [List.set_set]
    exact ⟨⟨k + 1, _, _, _, step_up hk2 hP.len, hk2, (ct_up hx).symm, (by rw [hz]; exact mk_set hx), (by rw [List.length_set]; exact hzl), rfl⟩, mu_up hk2 hP.len⟩
  · have e : k = xs.length := by have := of_decide_eq_false (by assumption : decide ((k : Int) < (zs.length : Int)) = false); omega
    obtain ⟨e1, e2⟩ := mk_all (xs := xs) (n := n) e
    rw [hz, hc, e1, e2]; exact ⟨rfl, rfl⟩
set_option maxHeartbeats 4000000 in
theorem heldColumnS (xs : List D) (hP : AllOf isColumn xs) (n : Int) (hF : Fine xs n) : Ent Try.prog 84 [.d (.sl false (mkL xs n)), .d (.i .i64 n)] [] (.d (.i .i64 (ctL xs n))) [] := by
  have hml := mkL_len xs n
  refine ent_of tok mixed (f := 84) Try.func84 (by kernel_rfl) (keep := false) ?_
  repeat' ((conv => whnf) <;> (first
    | ((with_reducible refine isCall ?_) <;> (first
        | (refine ⟨_, markTextD _ (by first | assumption | exact wrap_le _ | exact ctL_le _ (by first | assumption | exact wrap_le _ | exact ctL_le _ (by first | assumption | exact wrap_le _ | exact ctL_le _ (by first | assumption | exact wrap_le _ | exact ctL_le _ (by first | assumption | exact wrap_le _))))), ?_⟩; rintro _ _ ⟨rfl, rfl⟩)
        | refine ⟨_, he, ?_⟩
        | (obtain ⟨x, hx⟩ := get_ex (ss := xs) (k := k) (by have := lt_of_dec0 (by assumption); omega); obtain ⟨a0, a1, a2, rfl⟩ := hP.all x (get_mem hx); have he : (mkL xs n)[k]? = some (.agg [.s (markTextM c), .i .i64 (IntKind.i64.wrap (c + 1)), .b (decide (Int.tmod (IntKind.i64.wrap ((IntKind.i64.wrap (c + 1)) + 1)) 3 = 0))]) := (by rw [hc]; exact mk_get hx); refine ⟨_, he, ?_⟩)
        | refine ⟨(by decide : (3 : Int) ≠ 0), ?_⟩
        | fail))
    | ((with_reducible refine isLoop ?_) <;> (first
        | (refine ⟨[5, 1, 0], [], fun s => ∃ (k : Nat) (i c : Int), i = k ∧ k ≤ xs.length ∧ c = ctL (xs.take k) n ∧ s = ⟨[(5, .d (.i .i64 i)), (1, .d (.i .i64 c)), (0, .d (.sl false (mkL xs n)))], []⟩, fun s => match look 5 s.env with | some (.d (.i _ i)) => xs.length - i.toNat | _ => 0, rfl, ⟨0, _, _, rfl, Nat.zero_le _, rfl, rfl⟩, ?_⟩; rintro s ⟨k, i, c, rfl, hk, hc, rfl⟩; have hcl : c ≤ 9223372036854775807 := (by rw [hc]; exact ctL_le _ (by have := hF.lo; have := hF.hi; omega)))
        | refine ⟨_, he, ?_⟩
        | (obtain ⟨x, hx⟩ := get_ex (ss := xs) (k := k) (by have := lt_of_dec0 (by assumption); omega); obtain ⟨a0, a1, a2, rfl⟩ := hP.all x (get_mem hx); have he : (mkL xs n)[k]? = some (.agg [.s (markTextM c), .i .i64 (IntKind.i64.wrap (c + 1)), .b (decide (Int.tmod (IntKind.i64.wrap ((IntKind.i64.wrap (c + 1)) + 1)) 3 = 0))]) := (by rw [hc]; exact mk_get hx); refine ⟨_, he, ?_⟩)
        | refine ⟨(by decide : (3 : Int) ≠ 0), ?_⟩
        | fail))
    | ((with_reducible refine isCut ?_) <;> (first
        | refine ⟨⟨none⟩, ?_⟩))
    | ((first | with_reducible refine isEx ?_ | with_reducible refine isAnd ?_ | with_reducible refine isOr ?_) <;> (first
        | refine ⟨_, he, ?_⟩
        | (obtain ⟨x, hx⟩ := get_ex (ss := xs) (k := k) (by have := lt_of_dec0 (by assumption); omega); obtain ⟨a0, a1, a2, rfl⟩ := hP.all x (get_mem hx); have he : (mkL xs n)[k]? = some (.agg [.s (markTextM c), .i .i64 (IntKind.i64.wrap (c + 1)), .b (decide (Int.tmod (IntKind.i64.wrap ((IntKind.i64.wrap (c + 1)) + 1)) 3 = 0))]) := (by rw [hc]; exact mk_get hx); refine ⟨_, he, ?_⟩)
        | refine ⟨(by decide : (3 : Int) ≠ 0), ?_⟩
        | refine ⟨rfl, ?_⟩
        | refine ⟨Int.natCast_nonneg _, ?_⟩))
    | with_reducible refine Both.mk ?_ ?_
    | rintro _ rfl
    | exact rfl
    | (split <;> (rename_i h; first | (simp only [beq_self_eq_true, eq_self, decide_true, Bool.not_true, Bool.false_eq_true] at h; done) | (try rw [h])))))
  all_goals (conv => whnf)
  · have hk2 : k < xs.length := get_lt hx
    subst hc
    exact ⟨⟨k + 1, _, _, step_up hk2 hP.len, hk2, (ct_up hx).symm, rfl⟩, mu_up hk2 hP.len⟩
  · have e : k = xs.length := by have := of_decide_eq_false (by assumption : decide ((k : Int) < ((mkL xs n).length : Int)) = false); omega
    rw [hc, (mk_all (xs := xs) (n := n) e).2]; exact ⟨rfl, rfl⟩
def isIndex (x : D) : Prop := ∃ (a0 : List D) (a1 : Bool), x = .agg [.sl false a0, .b a1] ∧ AllOf isInt64 a0
def ownIndex (x : D) : Prop := ∃ (a0 : List D) (a1 : Bool), x = .agg [.os 1 false a0, .b a1] ∧ AllOf ownInt64 a0
theorem eraseIndex {x : D} (h : ownIndex x) : isIndex x.erase := by
  obtain ⟨a0, a1, rfl, h0⟩ := h
  exact ⟨_, _, rfl, h0.erase fun _ => eraseInt64⟩
set_option maxHeartbeats 1000000 in
theorem eqIndex (x : D) (hP : isIndex x) : Ent Try.prog 115 [.d x, .d x] [] (.d (.b true)) [] := by
  obtain ⟨a0, a1, rfl, h0⟩ := hP
  refine ent_of tok mixed (f := 115) Try.func115 (by kernel_rfl) (keep := false) ?_
  repeat' ((conv => whnf) <;> (first
    | ((with_reducible refine isCall ?_) <;> (first
        | (refine ⟨_, eqInt64S _ h0, ?_⟩; rintro _ _ ⟨rfl, rfl⟩)
        | fail))
    | ((with_reducible refine isLoop ?_) <;> (first
        | fail))
    | ((with_reducible refine isCut ?_) <;> (first
        | refine ⟨⟨none⟩, ?_⟩))
    | ((first | with_reducible refine isEx ?_ | with_reducible refine isAnd ?_ | with_reducible refine isOr ?_) <;> (first
        | refine ⟨rfl, ?_⟩
        | refine ⟨Int.natCast_nonneg _, ?_⟩))
    | with_reducible refine Both.mk ?_ ?_
    | rintro _ rfl
    | exact rfl
    | (split <;> (rename_i h; first | (simp only [beq_self_eq_true, eq_self, decide_true, Bool.not_true, Bool.false_eq_true] at h; done) | (try rw [h])))))
theorem eqIndexS (xs : List D) (hP : AllOf isIndex xs) : Ent Try.prog 80 [.d (.sl false xs), .d (.sl false xs)] [] (.d (.b true)) [] := by
  refine ent_of tok mixed (f := 80) Try.func80 (by kernel_rfl) (keep := false) ?_
  repeat' ((conv => whnf) <;> (first
    | ((with_reducible refine isCall ?_) <;> (first
        | (refine ⟨_, eqIndex _ hs, ?_⟩; rintro _ _ ⟨rfl, rfl⟩)
        | refine ⟨_, hx, ?_⟩
        | (obtain ⟨x, hx⟩ := get_ex (ss := xs) (k := k) (lt_of_dec0 (by assumption)); have hs := hP.all x (get_mem hx); obtain ⟨a0, a1, rfl, h0⟩ := id hs; refine ⟨_, hx, ?_⟩)
        | exact ⟨rfl, ⟨k + 1, _, step_up (lt_of_dec0 (by assumption)) hP.len, lt_of_dec0 (by assumption), rfl⟩, mu_up (lt_of_dec0 (by assumption)) hP.len⟩
        | fail))
    | ((with_reducible refine isLoop ?_) <;> (first
        | (refine ⟨[5, 0, 1], [], fun s => ∃ (k : Nat) (n : Int), n = k ∧ k ≤ xs.length ∧ s = ⟨[(5, .d (.i .i64 n)), (0, .d (.sl false xs)), (1, .d (.sl false xs))], []⟩, fun s => match look 5 s.env with | some (.d (.i _ n)) => xs.length - n.toNat | _ => 0, rfl, ⟨0, _, rfl, Nat.zero_le _, rfl⟩, ?_⟩; rintro s ⟨k, n, rfl, hk, rfl⟩)
        | refine ⟨_, hx, ?_⟩
        | (obtain ⟨x, hx⟩ := get_ex (ss := xs) (k := k) (lt_of_dec0 (by assumption)); have hs := hP.all x (get_mem hx); obtain ⟨a0, a1, rfl, h0⟩ := id hs; refine ⟨_, hx, ?_⟩)
        | exact ⟨rfl, ⟨k + 1, _, step_up (lt_of_dec0 (by assumption)) hP.len, lt_of_dec0 (by assumption), rfl⟩, mu_up (lt_of_dec0 (by assumption)) hP.len⟩
        | fail))
    | ((with_reducible refine isCut ?_) <;> (first
        | refine ⟨⟨none⟩, ?_⟩))
    | ((first | with_reducible refine isEx ?_ | with_reducible refine isAnd ?_ | with_reducible refine isOr ?_) <;> (first
        | refine ⟨_, hx, ?_⟩
        | (obtain ⟨x, hx⟩ := get_ex (ss := xs) (k := k) (lt_of_dec0 (by assumption)); have hs := hP.all x (get_mem hx); obtain ⟨a0, a1, rfl, h0⟩ := id hs; refine ⟨_, hx, ?_⟩)
        | exact ⟨rfl, ⟨k + 1, _, step_up (lt_of_dec0 (by assumption)) hP.len, lt_of_dec0 (by assumption), rfl⟩, mu_up (lt_of_dec0 (by assumption)) hP.len⟩
        | refine ⟨rfl, ?_⟩
        | refine ⟨Int.natCast_nonneg _, ?_⟩))
    | with_reducible refine Both.mk ?_ ?_
    | rintro _ rfl
    | exact rfl
    | (split <;> (rename_i h; first | (simp only [beq_self_eq_true, eq_self, decide_true, Bool.not_true, Bool.false_eq_true] at h; done) | (try rw [h])))))
set_option maxHeartbeats 4000000 in
theorem markIndexS (xs : List D) (hP : AllOf ownIndex xs) (n : Int) (hn : n ≤ 9223372036854775807) : Ent Try.prog 83 [.own 0, .d (.i .i64 n)] [.arr 2 true xs] (.d (.i .i64 (ctL xs n))) [.arr 2 true (mkL xs n)] := by
  refine ent_of (cx := ⟨tab, [82], []⟩) tok mixed (f := 83) Try.func83 (by kernel_rfl) (keep := false) ?_
  repeat' ((conv => whnf) <;> (first
    | ((with_reducible refine isCall ?_) <;> (first
        | (refine ⟨_, markInt64S a0 h0 _ (by first | assumption | exact wrap_le _ | exact ctL_le _ (by first | assumption | exact wrap_le _ | exact ctL_le _ (by first | assumption | exact wrap_le _ | exact ctL_le _ (by first | assumption | exact wrap_le _ | exact ctL_le _ (by first | assumption | exact wrap_le _))))), ?_⟩; rintro _ _ ⟨rfl, rfl⟩)
        | (refine ⟨_, markTextD _ (by first | assumption | exact wrap_le _ | exact ctL_le _ (by first | assumption | exact wrap_le _ | exact ctL_le _ (by first | assumption | exact wrap_le _ | exact ctL_le _ (by first | assumption | exact wrap_le _ | exact ctL_le _ (by first | assumption | exact wrap_le _))))), ?_⟩; rintro _ _ ⟨rfl, rfl⟩)
        | refine ⟨⟨Int.natCast_nonneg _, (by have := lt_of_dec0 (xs := zs) (k := k) (by assumption); (try simp only [baseXs_len, List.length_set]); omega)⟩, ?_⟩
        | refine ⟨_, hzx, ?_⟩
        | refine .inl ⟨rfl, ?_⟩
        | refine ⟨_, set_get (n := zs.length) (by simp only [baseXs_len, List.length_set]) (get_lt hzx), ?_⟩
        | (obtain ⟨x, hx⟩ := get_ex (ss := xs) (k := k) (by have := lt_of_dec0 (xs := zs) (k := k) (by assumption); omega); obtain ⟨a0, a1, rfl, h0⟩ := hP.all x (get_mem hx); have hzx := mk_at (n := n) hx; rw [← hz] at hzx; refine ⟨_, hzx, ?_⟩)
        | refine ⟨(by decide : (3 : Int) ≠ 0), ?_⟩
        | fail))
    | ((with_reducible refine isLoop ?_) <;> (first
        | (refine ⟨[5, 1, 0], [0], fun s => ∃ (k : Nat) (i c : Int) (zs : List D), i = k ∧ k ≤ xs.length ∧ c = ctL (xs.take k) n ∧ zs = mkL (xs.take k) n ++ xs.drop k ∧ zs.length = xs.length ∧ s = ⟨[(5, .d (.i .i64 i)), (1, .d (.i .i64 c)), (0, .own 0)], [(0, .arr 2 true zs)]⟩, fun s => match look 5 s.env with | some (.d (.i _ i)) => xs.length - i.toNat | _ => 0, rfl, ⟨0, _, _, _, rfl, Nat.zero_le _, rfl, rfl, rfl, rfl⟩, ?_⟩; rintro s ⟨k, i, c, zs, rfl, hk, hc, hz, hzl, rfl⟩; have hcl : c ≤ 9223372036854775807 := (by rw [hc]; exact ctL_le _ hn))
        | refine ⟨⟨Int.natCast_nonneg _, (by have := lt_of_dec0 (xs := zs) (k := k) (by assumption); (try simp only [baseXs_len, List.length_set]); omega)⟩, ?_⟩
        | refine ⟨_, hzx, ?_⟩
        | refine .inl ⟨rfl, ?_⟩
        | refine ⟨_, set_get (n := zs.length) (by simp only [baseXs_len, List.length_set]) (get_lt hzx), ?_⟩
        | (obtain ⟨x, hx⟩ := get_ex (ss := xs) (k := k) (by have := lt_of_dec0 (xs := zs) (k := k) (by assumption); omega); obtain ⟨a0, a1, rfl, h0⟩ := hP.all x (get_mem hx); have hzx := mk_at (n := n) hx; rw [← hz] at hzx; refine ⟨_, hzx, ?_⟩)
        | refine ⟨(by decide : (3 : Int) ≠ 0), ?_⟩
        | fail))
    | ((with_reducible refine isCut ?_) <;> (first
        | refine ⟨⟨none⟩, ?_⟩))
    | ((first | with_reducible refine isEx ?_ | with_reducible refine isAnd ?_ | with_reducible refine isOr ?_) <;> (first
        | refine ⟨⟨Int.natCast_nonneg _, (by have := lt_of_dec0 (xs := zs) (k := k) (by assumption); (try simp only [baseXs_len, List.length_set]); omega)⟩, ?_⟩
        | refine ⟨_, hzx, ?_⟩
        | refine .inl ⟨rfl, ?_⟩
        | refine ⟨_, set_get (n := zs.length) (by simp only [baseXs_len, List.length_set]) (get_lt hzx), ?_⟩
        | (obtain ⟨x, hx⟩ := get_ex (ss := xs) (k := k) (by have := lt_of_dec0 (xs := zs) (k := k) (by assumption); omega); obtain ⟨a0, a1, rfl, h0⟩ := hP.all x (get_mem hx); have hzx := mk_at (n := n) hx; rw [← hz] at hzx; refine ⟨_, hzx, ?_⟩)
        | refine ⟨(by decide : (3 : Int) ≠ 0), ?_⟩
        | refine ⟨rfl, ?_⟩
        | refine ⟨Int.natCast_nonneg _, ?_⟩))
    | with_reducible refine Both.mk ?_ ?_
    | rintro _ rfl
    | exact rfl
    | (split <;> (rename_i h; first | (simp only [beq_self_eq_true, eq_self, decide_true, Bool.not_true, Bool.false_eq_true] at h; done) | (try rw [h])))))
  all_goals (conv => whnf)
  · have hk2 : k < xs.length := get_lt hx
    subst hc
    refine ⟨⟨k + 1, _, _, _, step_up hk2 hP.len, hk2, (ct_up hx).symm, ?_, ?_, rfl⟩, mu_up hk2 hP.len⟩
    · show (zs.set k _) = _
      rw [hz]; exact mk_set hx
    · show (zs.set k _).length = _
      simp only [List.length_set]; exact hzl
  · have e : k = xs.length := by have := of_decide_eq_false (by assumption : decide ((k : Int) < (zs.length : Int)) = false); omega
    obtain ⟨e1, e2⟩ := mk_all (xs := xs) (n := n) e
    rw [hz, hc, e1, e2]; exact ⟨rfl, rfl⟩
set_option maxHeartbeats 4000000 in
theorem heldIndexS (xs : List D) (hP : AllOf isIndex xs) (n : Int) (hF : Fine xs n) : Ent Try.prog 86 [.d (.sl false (mkL xs n)), .d (.i .i64 n)] [] (.d (.i .i64 (ctL xs n))) [] := by
  have hml := mkL_len xs n
  refine ent_of tok mixed (f := 86) Try.func86 (by kernel_rfl) (keep := false) ?_
  repeat' ((conv => whnf) <;> (first
    | ((with_reducible refine isCall ?_) <;> (first
        | (refine ⟨_, heldInt64S a0 h0 _ f0, ?_⟩; rintro _ _ ⟨rfl, rfl⟩)
        | (refine ⟨_, markTextD _ (by first | assumption | exact wrap_le _ | exact ctL_le _ (by first | assumption | exact wrap_le _ | exact ctL_le _ (by first | assumption | exact wrap_le _ | exact ctL_le _ (by first | assumption | exact wrap_le _ | exact ctL_le _ (by first | assumption | exact wrap_le _))))), ?_⟩; rintro _ _ ⟨rfl, rfl⟩)
        | refine ⟨_, he, ?_⟩
        | (obtain ⟨x, hx⟩ := get_ex (ss := xs) (k := k) (by have := lt_of_dec0 (by assumption); omega); obtain ⟨a0, a1, rfl, h0⟩ := hP.all x (get_mem hx); have he : (mkL xs n)[k]? = some (.agg [.sl false (mkL a0 c), .b (decide (Int.tmod (ctL a0 c) 3 = 0))]) := (by rw [hc]; exact mk_get hx); have hf : 0 ≤ c ∧ c + cntL [.sl false a0, .b a1] ≤ 1000000000000000 := (by rw [hc]; have := hF.take hx; simpa only [cntD] using this); have f0 : Fine a0 c := Fine.cell (j := 0) hf rfl; have g0 : ¬ ctL a0 c < 0 := (by have := f0.out; omega); refine ⟨_, he, ?_⟩)
        | refine ⟨(by decide : (3 : Int) ≠ 0), ?_⟩
        | fail))
    | ((with_reducible refine isLoop ?_) <;> (first
        | (refine ⟨[5, 1, 0], [], fun s => ∃ (k : Nat) (i c : Int), i = k ∧ k ≤ xs.length ∧ c = ctL (xs.take k) n ∧ s = ⟨[(5, .d (.i .i64 i)), (1, .d (.i .i64 c)), (0, .d (.sl false (mkL xs n)))], []⟩, fun s => match look 5 s.env with | some (.d (.i _ i)) => xs.length - i.toNat | _ => 0, rfl, ⟨0, _, _, rfl, Nat.zero_le _, rfl, rfl⟩, ?_⟩; rintro s ⟨k, i, c, rfl, hk, hc, rfl⟩; have hcl : c ≤ 9223372036854775807 := (by rw [hc]; exact ctL_le _ (by have := hF.lo; have := hF.hi; omega)))
        | refine ⟨_, he, ?_⟩
        | (obtain ⟨x, hx⟩ := get_ex (ss := xs) (k := k) (by have := lt_of_dec0 (by assumption); omega); obtain ⟨a0, a1, rfl, h0⟩ := hP.all x (get_mem hx); have he : (mkL xs n)[k]? = some (.agg [.sl false (mkL a0 c), .b (decide (Int.tmod (ctL a0 c) 3 = 0))]) := (by rw [hc]; exact mk_get hx); have hf : 0 ≤ c ∧ c + cntL [.sl false a0, .b a1] ≤ 1000000000000000 := (by rw [hc]; have := hF.take hx; simpa only [cntD] using this); have f0 : Fine a0 c := Fine.cell (j := 0) hf rfl; have g0 : ¬ ctL a0 c < 0 := (by have := f0.out; omega); refine ⟨_, he, ?_⟩)
        | refine ⟨(by decide : (3 : Int) ≠ 0), ?_⟩
        | fail))
    | ((with_reducible refine isCut ?_) <;> (first
        | refine ⟨⟨none⟩, ?_⟩))
    | ((first | with_reducible refine isEx ?_ | with_reducible refine isAnd ?_ | with_reducible refine isOr ?_) <;> (first
        | refine ⟨_, he, ?_⟩
        | (obtain ⟨x, hx⟩ := get_ex (ss := xs) (k := k) (by have := lt_of_dec0 (by assumption); omega); obtain ⟨a0, a1, rfl, h0⟩ := hP.all x (get_mem hx); have he : (mkL xs n)[k]? = some (.agg [.sl false (mkL a0 c), .b (decide (Int.tmod (ctL a0 c) 3 = 0))]) := (by rw [hc]; exact mk_get hx); have hf : 0 ≤ c ∧ c + cntL [.sl false a0, .b a1] ≤ 1000000000000000 := (by rw [hc]; have := hF.take hx; simpa only [cntD] using this); have f0 : Fine a0 c := Fine.cell (j := 0) hf rfl; have g0 : ¬ ctL a0 c < 0 := (by have := f0.out; omega); refine ⟨_, he, ?_⟩)
        | refine ⟨(by decide : (3 : Int) ≠ 0), ?_⟩
        | refine ⟨rfl, ?_⟩
        | refine ⟨Int.natCast_nonneg _, ?_⟩))
    | with_reducible refine Both.mk ?_ ?_
    | (exfalso; exact absurd (of_decide_eq_true (by assumption)) g0)
    | rintro _ rfl
    | exact rfl
    | (split <;> (rename_i h; first | (simp only [beq_self_eq_true, eq_self, decide_true, Bool.not_true, Bool.false_eq_true] at h; done) | (try rw [h])))))
  all_goals (conv => whnf)
  · have hk2 : k < xs.length := get_lt hx
    subst hc
    exact ⟨⟨k + 1, _, _, step_up hk2 hP.len, hk2, (ct_up hx).symm, rfl⟩, mu_up hk2 hP.len⟩
  · have e : k = xs.length := by have := of_decide_eq_false (by assumption : decide ((k : Int) < ((mkL xs n).length : Int)) = false); omega
    rw [hc, (mk_all (xs := xs) (n := n) e).2]; exact ⟨rfl, rfl⟩
def isValue (x : D) : Prop := ∃ (a0 : Int) (a1 : Int) (a2 : List UInt8), x = .agg [.i .i64 a0, .i .i64 a1, .s a2]
def ownValue (x : D) : Prop := ∃ (a0 : Int) (a1 : Int) (a2 : List UInt8), x = .agg [.i .i64 a0, .i .i64 a1, .s a2]
theorem eraseValue {x : D} (h : ownValue x) : isValue x.erase := by
  obtain ⟨a0, a1, a2, rfl⟩ := h
  exact ⟨_, _, _, rfl⟩
set_option maxHeartbeats 1000000 in
theorem eqValue (x : D) (hP : isValue x) : Ent Try.prog 135 [.d x, .d x] [] (.d (.b true)) [] := by
  obtain ⟨a0, a1, a2, rfl⟩ := hP
  refine ent_of tok mixed (f := 135) Try.func135 (by kernel_rfl) (keep := false) ?_
  repeat' ((conv => whnf) <;> (first
    | ((with_reducible refine isCall ?_) <;> (first
        | fail))
    | ((with_reducible refine isLoop ?_) <;> (first
        | fail))
    | ((with_reducible refine isCut ?_) <;> (first
        | refine ⟨⟨none⟩, ?_⟩))
    | ((first | with_reducible refine isEx ?_ | with_reducible refine isAnd ?_ | with_reducible refine isOr ?_) <;> (first
        | refine ⟨rfl, ?_⟩
        | refine ⟨Int.natCast_nonneg _, ?_⟩))
    | with_reducible refine Both.mk ?_ ?_
    | rintro _ rfl
    | exact rfl
    | (split <;> (rename_i h; first | (simp only [beq_self_eq_true, eq_self, decide_true, Bool.not_true, Bool.false_eq_true] at h; done) | (try rw [h])))))
theorem eqValueS (xs : List D) (hP : AllOf isValue xs) : Ent Try.prog 128 [.d (.sl false xs), .d (.sl false xs)] [] (.d (.b true)) [] := by
  refine ent_of tok mixed (f := 128) Try.func128 (by kernel_rfl) (keep := false) ?_
  repeat' ((conv => whnf) <;> (first
    | ((with_reducible refine isCall ?_) <;> (first
        | (refine ⟨_, eqValue _ hs, ?_⟩; rintro _ _ ⟨rfl, rfl⟩)
        | refine ⟨_, hx, ?_⟩
        | (obtain ⟨x, hx⟩ := get_ex (ss := xs) (k := k) (lt_of_dec0 (by assumption)); have hs := hP.all x (get_mem hx); obtain ⟨a0, a1, a2, rfl⟩ := id hs; refine ⟨_, hx, ?_⟩)
        | exact ⟨rfl, ⟨k + 1, _, step_up (lt_of_dec0 (by assumption)) hP.len, lt_of_dec0 (by assumption), rfl⟩, mu_up (lt_of_dec0 (by assumption)) hP.len⟩
        | fail))
    | ((with_reducible refine isLoop ?_) <;> (first
        | (refine ⟨[5, 0, 1], [], fun s => ∃ (k : Nat) (n : Int), n = k ∧ k ≤ xs.length ∧ s = ⟨[(5, .d (.i .i64 n)), (0, .d (.sl false xs)), (1, .d (.sl false xs))], []⟩, fun s => match look 5 s.env with | some (.d (.i _ n)) => xs.length - n.toNat | _ => 0, rfl, ⟨0, _, rfl, Nat.zero_le _, rfl⟩, ?_⟩; rintro s ⟨k, n, rfl, hk, rfl⟩)
        | refine ⟨_, hx, ?_⟩
        | (obtain ⟨x, hx⟩ := get_ex (ss := xs) (k := k) (lt_of_dec0 (by assumption)); have hs := hP.all x (get_mem hx); obtain ⟨a0, a1, a2, rfl⟩ := id hs; refine ⟨_, hx, ?_⟩)
        | exact ⟨rfl, ⟨k + 1, _, step_up (lt_of_dec0 (by assumption)) hP.len, lt_of_dec0 (by assumption), rfl⟩, mu_up (lt_of_dec0 (by assumption)) hP.len⟩
        | fail))
    | ((with_reducible refine isCut ?_) <;> (first
        | refine ⟨⟨none⟩, ?_⟩))
    | ((first | with_reducible refine isEx ?_ | with_reducible refine isAnd ?_ | with_reducible refine isOr ?_) <;> (first
        | refine ⟨_, hx, ?_⟩
        | (obtain ⟨x, hx⟩ := get_ex (ss := xs) (k := k) (lt_of_dec0 (by assumption)); have hs := hP.all x (get_mem hx); obtain ⟨a0, a1, a2, rfl⟩ := id hs; refine ⟨_, hx, ?_⟩)
        | exact ⟨rfl, ⟨k + 1, _, step_up (lt_of_dec0 (by assumption)) hP.len, lt_of_dec0 (by assumption), rfl⟩, mu_up (lt_of_dec0 (by assumption)) hP.len⟩
        | refine ⟨rfl, ?_⟩
        | refine ⟨Int.natCast_nonneg _, ?_⟩))
    | with_reducible refine Both.mk ?_ ?_
    | rintro _ rfl
    | exact rfl
    | (split <;> (rename_i h; first | (simp only [beq_self_eq_true, eq_self, decide_true, Bool.not_true, Bool.false_eq_true] at h; done) | (try rw [h])))))
set_option maxHeartbeats 4000000 in
theorem markValueS (xs : List D) (hP : AllOf ownValue xs) (n : Int) (hn : n ≤ 9223372036854775807) : Ent Try.prog 108 [.own 0, .d (.i .i64 n)] [.arr 3 false xs] (.d (.i .i64 (ctL xs n))) [.arr 3 false (mkL xs n)] := by
  refine ent_of (cx := ⟨tab, [], []⟩) tok mixed (f := 108) Try.func108 (by kernel_rfl) (keep := false) ?_
  repeat' ((conv => whnf) <;> (first
    | ((with_reducible refine isCall ?_) <;> (first
        | (refine ⟨_, markTextD _ (by first | assumption | exact wrap_le _ | exact ctL_le _ (by first | assumption | exact wrap_le _ | exact ctL_le _ (by first | assumption | exact wrap_le _ | exact ctL_le _ (by first | assumption | exact wrap_le _ | exact ctL_le _ (by first | assumption | exact wrap_le _))))), ?_⟩; rintro _ _ ⟨rfl, rfl⟩)
        | refine ⟨⟨Int.natCast_nonneg _, (by have := lt_of_dec0 (xs := zs) (k := k) (by assumption); (try simp only [baseXs_len, List.length_set]); omega)⟩, ?_⟩
        | refine ⟨_, hzx, ?_⟩
        | refine .inl ⟨rfl, ?_⟩
        | refine ⟨_, set_get (n := zs.length) (by simp only [baseXs_len, List.length_set]) (get_lt hzx), ?_⟩
        | (obtain ⟨x, hx⟩ := get_ex (ss := xs) (k := k) (by have := lt_of_dec0 (xs := zs) (k := k) (by assumption); omega); obtain ⟨a0, a1, a2, rfl⟩ := hP.all x (get_mem hx); have hzx := mk_at (n := n) hx; rw [← hz] at hzx; refine ⟨_, hzx, ?_⟩)
        | refine ⟨(by decide : (3 : Int) ≠ 0), ?_⟩
        | fail))
    | ((with_reducible refine isLoop ?_) <;> (first
        | (refine ⟨[5, 1, 0], [0], fun s => ∃ (k : Nat) (i c : Int) (zs : List D), i = k ∧ k ≤ xs.length ∧ c = ctL (xs.take k) n ∧ zs = mkL (xs.take k) n ++ xs.drop k ∧ zs.length = xs.length ∧ s = ⟨[(5, .d (.i .i64 i)), (1, .d (.i .i64 c)), (0, .own 0)], [(0, .arr 3 false zs)]⟩, fun s => match look 5 s.env with | some (.d (.i _ i)) => xs.length - i.toNat | _ => 0, rfl, ⟨0, _, _, _, rfl, Nat.zero_le _, rfl, rfl, rfl, rfl⟩, ?_⟩; rintro s ⟨k, i, c, zs, rfl, hk, hc, hz, hzl, rfl⟩; have hcl : c ≤ 9223372036854775807 := (by rw [hc]; exact ctL_le _ hn))
        | refine ⟨⟨Int.natCast_nonneg _, (by have := lt_of_dec0 (xs := zs) (k := k) (by assumption); (try simp only [baseXs_len, List.length_set]); omega)⟩, ?_⟩
        | refine ⟨_, hzx, ?_⟩
        | refine .inl ⟨rfl, ?_⟩
        | refine ⟨_, set_get (n := zs.length) (by simp only [baseXs_len, List.length_set]) (get_lt hzx), ?_⟩
        | (obtain ⟨x, hx⟩ := get_ex (ss := xs) (k := k) (by have := lt_of_dec0 (xs := zs) (k := k) (by assumption); omega); obtain ⟨a0, a1, a2, rfl⟩ := hP.all x (get_mem hx); have hzx := mk_at (n := n) hx; rw [← hz] at hzx; refine ⟨_, hzx, ?_⟩)
        | refine ⟨(by decide : (3 : Int) ≠ 0), ?_⟩
        | fail))
    | ((with_reducible refine isCut ?_) <;> (first
        | refine ⟨⟨none⟩, ?_⟩))
    | ((first | with_reducible refine isEx ?_ | with_reducible refine isAnd ?_ | with_reducible refine isOr ?_) <;> (first
        | refine ⟨⟨Int.natCast_nonneg _, (by have := lt_of_dec0 (xs := zs) (k := k) (by assumption); (try simp only [baseXs_len, List.length_set]); omega)⟩, ?_⟩
        | refine ⟨_, hzx, ?_⟩
        | refine .inl ⟨rfl, ?_⟩
        | refine ⟨_, set_get (n := zs.length) (by simp only [baseXs_len, List.length_set]) (get_lt hzx), ?_⟩
        | (obtain ⟨x, hx⟩ := get_ex (ss := xs) (k := k) (by have := lt_of_dec0 (xs := zs) (k := k) (by assumption); omega); obtain ⟨a0, a1, a2, rfl⟩ := hP.all x (get_mem hx); have hzx := mk_at (n := n) hx; rw [← hz] at hzx; refine ⟨_, hzx, ?_⟩)
        | refine ⟨(by decide : (3 : Int) ≠ 0), ?_⟩
        | refine ⟨rfl, ?_⟩
        | refine ⟨Int.natCast_nonneg _, ?_⟩))
    | with_reducible refine Both.mk ?_ ?_
    | rintro _ rfl
    | exact rfl
    | (split <;> (rename_i h; first | (simp only [beq_self_eq_true, eq_self, decide_true, Bool.not_true, Bool.false_eq_true] at h; done) | (try rw [h])))))
  all_goals (conv => whnf)
  · have hk2 : k < xs.length := get_lt hx
    subst hc
    simp only [List.set_set]
    exact ⟨⟨k + 1, _, _, _, step_up hk2 hP.len, hk2, (ct_up hx).symm, (by rw [hz]; exact mk_set hx), (by rw [List.length_set]; exact hzl), rfl⟩, mu_up hk2 hP.len⟩
  · have e : k = xs.length := by have := of_decide_eq_false (by assumption : decide ((k : Int) < (zs.length : Int)) = false); omega
    obtain ⟨e1, e2⟩ := mk_all (xs := xs) (n := n) e
    rw [hz, hc, e1, e2]; exact ⟨rfl, rfl⟩
set_option maxHeartbeats 4000000 in
theorem heldValueS (xs : List D) (hP : AllOf isValue xs) (n : Int) (hF : Fine xs n) : Ent Try.prog 109 [.d (.sl false (mkL xs n)), .d (.i .i64 n)] [] (.d (.i .i64 (ctL xs n))) [] := by
  have hml := mkL_len xs n
  refine ent_of tok mixed (f := 109) Try.func109 (by kernel_rfl) (keep := false) ?_
  repeat' ((conv => whnf) <;> (first
    | ((with_reducible refine isCall ?_) <;> (first
        | (refine ⟨_, markTextD _ (by first | assumption | exact wrap_le _ | exact ctL_le _ (by first | assumption | exact wrap_le _ | exact ctL_le _ (by first | assumption | exact wrap_le _ | exact ctL_le _ (by first | assumption | exact wrap_le _ | exact ctL_le _ (by first | assumption | exact wrap_le _))))), ?_⟩; rintro _ _ ⟨rfl, rfl⟩)
        | refine ⟨_, he, ?_⟩
        | (obtain ⟨x, hx⟩ := get_ex (ss := xs) (k := k) (by have := lt_of_dec0 (by assumption); omega); obtain ⟨a0, a1, a2, rfl⟩ := hP.all x (get_mem hx); have he : (mkL xs n)[k]? = some (.agg [.i .i64 c, .i .i64 (IntKind.i64.wrap (c + 1)), .s (markTextM (IntKind.i64.wrap ((IntKind.i64.wrap (c + 1)) + 1)))]) := (by rw [hc]; exact mk_get hx); refine ⟨_, he, ?_⟩)
        | refine ⟨(by decide : (3 : Int) ≠ 0), ?_⟩
        | fail))
    | ((with_reducible refine isLoop ?_) <;> (first
        | (refine ⟨[5, 1, 0], [], fun s => ∃ (k : Nat) (i c : Int), i = k ∧ k ≤ xs.length ∧ c = ctL (xs.take k) n ∧ s = ⟨[(5, .d (.i .i64 i)), (1, .d (.i .i64 c)), (0, .d (.sl false (mkL xs n)))], []⟩, fun s => match look 5 s.env with | some (.d (.i _ i)) => xs.length - i.toNat | _ => 0, rfl, ⟨0, _, _, rfl, Nat.zero_le _, rfl, rfl⟩, ?_⟩; rintro s ⟨k, i, c, rfl, hk, hc, rfl⟩; have hcl : c ≤ 9223372036854775807 := (by rw [hc]; exact ctL_le _ (by have := hF.lo; have := hF.hi; omega)))
        | refine ⟨_, he, ?_⟩
        | (obtain ⟨x, hx⟩ := get_ex (ss := xs) (k := k) (by have := lt_of_dec0 (by assumption); omega); obtain ⟨a0, a1, a2, rfl⟩ := hP.all x (get_mem hx); have he : (mkL xs n)[k]? = some (.agg [.i .i64 c, .i .i64 (IntKind.i64.wrap (c + 1)), .s (markTextM (IntKind.i64.wrap ((IntKind.i64.wrap (c + 1)) + 1)))]) := (by rw [hc]; exact mk_get hx); refine ⟨_, he, ?_⟩)
        | refine ⟨(by decide : (3 : Int) ≠ 0), ?_⟩
        | fail))
    | ((with_reducible refine isCut ?_) <;> (first
        | refine ⟨⟨none⟩, ?_⟩))
    | ((first | with_reducible refine isEx ?_ | with_reducible refine isAnd ?_ | with_reducible refine isOr ?_) <;> (first
        | refine ⟨_, he, ?_⟩
        | (obtain ⟨x, hx⟩ := get_ex (ss := xs) (k := k) (by have := lt_of_dec0 (by assumption); omega); obtain ⟨a0, a1, a2, rfl⟩ := hP.all x (get_mem hx); have he : (mkL xs n)[k]? = some (.agg [.i .i64 c, .i .i64 (IntKind.i64.wrap (c + 1)), .s (markTextM (IntKind.i64.wrap ((IntKind.i64.wrap (c + 1)) + 1)))]) := (by rw [hc]; exact mk_get hx); refine ⟨_, he, ?_⟩)
        | refine ⟨(by decide : (3 : Int) ≠ 0), ?_⟩
        | refine ⟨rfl, ?_⟩
        | refine ⟨Int.natCast_nonneg _, ?_⟩))
    | with_reducible refine Both.mk ?_ ?_
    | rintro _ rfl
    | exact rfl
    | (split <;> (rename_i h; first | (simp only [beq_self_eq_true, eq_self, decide_true, Bool.not_true, Bool.false_eq_true] at h; done) | (try rw [h])))))
  all_goals (conv => whnf)
  · have hk2 : k < xs.length := get_lt hx
    subst hc
    exact ⟨⟨k + 1, _, _, step_up hk2 hP.len, hk2, (ct_up hx).symm, rfl⟩, mu_up hk2 hP.len⟩
  · have e : k = xs.length := by have := of_decide_eq_false (by assumption : decide ((k : Int) < ((mkL xs n).length : Int)) = false); omega
    rw [hc, (mk_all (xs := xs) (n := n) e).2]; exact ⟨rfl, rfl⟩
def isSchema (x : D) : Prop := ∃ (a0 : List UInt8) (a1 : List D) (a2 : List D) (a3 : List D), x = .agg [.s a0, .sl false a1, .sl false a2, .sl false a3] ∧ AllOf isColumn a1 ∧ AllOf isInt64 a2 ∧ AllOf isIndex a3
def ownSchema (x : D) : Prop := ∃ (a0 : List UInt8) (a1 : List D) (a2 : List D) (a3 : List D), x = .agg [.s a0, .os 3 false a1, .os 1 false a2, .os 2 true a3] ∧ AllOf ownColumn a1 ∧ AllOf ownInt64 a2 ∧ AllOf ownIndex a3
theorem eraseSchema {x : D} (h : ownSchema x) : isSchema x.erase := by
  obtain ⟨a0, a1, a2, a3, rfl, h1, h2, h3⟩ := h
  exact ⟨_, _, _, _, rfl, h1.erase fun _ => eraseColumn, h2.erase fun _ => eraseInt64, h3.erase fun _ => eraseIndex⟩
set_option maxHeartbeats 1000000 in
theorem eqSchema (x : D) (hP : isSchema x) : Ent Try.prog 30 [.d x, .d x] [] (.d (.b true)) [] := by
  obtain ⟨a0, a1, a2, a3, rfl, h1, h2, h3⟩ := hP
  refine ent_of tok mixed (f := 30) Try.func30 (by kernel_rfl) (keep := false) ?_
  repeat' ((conv => whnf) <;> (first
    | ((with_reducible refine isCall ?_) <;> (first
        | (refine ⟨_, eqColumnS _ h1, ?_⟩; rintro _ _ ⟨rfl, rfl⟩)
        | (refine ⟨_, eqInt64S _ h2, ?_⟩; rintro _ _ ⟨rfl, rfl⟩)
        | (refine ⟨_, eqIndexS _ h3, ?_⟩; rintro _ _ ⟨rfl, rfl⟩)
        | fail))
    | ((with_reducible refine isLoop ?_) <;> (first
        | fail))
    | ((with_reducible refine isCut ?_) <;> (first
        | refine ⟨⟨none⟩, ?_⟩))
    | ((first | with_reducible refine isEx ?_ | with_reducible refine isAnd ?_ | with_reducible refine isOr ?_) <;> (first
        | refine ⟨rfl, ?_⟩
        | refine ⟨Int.natCast_nonneg _, ?_⟩))
    | with_reducible refine Both.mk ?_ ?_
    | rintro _ rfl
    | exact rfl
    | (split <;> (rename_i h; first | (simp only [beq_self_eq_true, eq_self, decide_true, Bool.not_true, Bool.false_eq_true] at h; done) | (try rw [h])))))
set_option maxHeartbeats 4000000 in
theorem markSchema (a0 : List UInt8) (a1 : List D) (a2 : List D) (a3 : List D) (h1 : AllOf ownColumn a1) (h2 : AllOf ownInt64 a2) (h3 : AllOf ownIndex a3) (n : Int) (hn : n ≤ 9223372036854775807) : Ent Try.prog 31 [.agg [.d (.s a0), .own 0, .own 1, .own 2], .d (.i .i64 n)] [.arr 3 false a1, .arr 1 false a2, .arr 2 true a3] (.d (.i .i64 (ctL a3 (ctL a2 (ctL a1 n))))) [.arr 3 false (mkL a1 n), .arr 1 false (mkL a2 (ctL a1 n)), .arr 2 true (mkL a3 (ctL a2 (ctL a1 n)))] := by
  refine ent_of (cx := ⟨tab, [81, 83, 82], []⟩) tok mixed (f := 31) Try.func31 (by kernel_rfl) (keep := false) ?_
  repeat' ((conv => whnf) <;> (first
    | ((with_reducible refine isCall ?_) <;> (first
        | (refine ⟨_, markColumnS a1 h1 _ (by first | assumption | exact wrap_le _ | exact ctL_le _ (by first | assumption | exact wrap_le _ | exact ctL_le _ (by first | assumption | exact wrap_le _ | exact ctL_le _ (by first | assumption | exact wrap_le _ | exact ctL_le _ (by first | assumption | exact wrap_le _))))), ?_⟩; rintro _ _ ⟨rfl, rfl⟩)
        | (refine ⟨_, markInt64S a2 h2 _ (by first | assumption | exact wrap_le _ | exact ctL_le _ (by first | assumption | exact wrap_le _ | exact ctL_le _ (by first | assumption | exact wrap_le _ | exact ctL_le _ (by first | assumption | exact wrap_le _ | exact ctL_le _ (by first | assumption | exact wrap_le _))))), ?_⟩; rintro _ _ ⟨rfl, rfl⟩)
        | (refine ⟨_, markIndexS a3 h3 _ (by first | assumption | exact wrap_le _ | exact ctL_le _ (by first | assumption | exact wrap_le _ | exact ctL_le _ (by first | assumption | exact wrap_le _ | exact ctL_le _ (by first | assumption | exact wrap_le _ | exact ctL_le _ (by first | assumption | exact wrap_le _))))), ?_⟩; rintro _ _ ⟨rfl, rfl⟩)
        | fail))
    | ((with_reducible refine isLoop ?_) <;> (first
        | fail))
    | ((with_reducible refine isCut ?_) <;> (first
        | refine ⟨⟨none⟩, ?_⟩))
    | ((first | with_reducible refine isEx ?_ | with_reducible refine isAnd ?_ | with_reducible refine isOr ?_) <;> (first
        | refine ⟨rfl, ?_⟩
        | refine ⟨Int.natCast_nonneg _, ?_⟩))
    | with_reducible refine Both.mk ?_ ?_
    | rintro _ rfl
    | exact rfl
    | (split <;> (rename_i h; first | (simp only [beq_self_eq_true, eq_self, decide_true, Bool.not_true, Bool.false_eq_true] at h; done) | (try rw [h])))))
set_option maxHeartbeats 4000000 in
theorem heldSchema (a0 : List UInt8) (a1 : List D) (a2 : List D) (a3 : List D) (h1 : AllOf isColumn a1) (h2 : AllOf isInt64 a2) (h3 : AllOf isIndex a3) (n : Int) (f1 : Fine a1 n) (f2 : Fine a2 (ctL a1 n)) (f3 : Fine a3 (ctL a2 (ctL a1 n))) : Ent Try.prog 32 [.d (.agg [.s a0, .sl false (mkL a1 n), .sl false (mkL a2 (ctL a1 n)), .sl false (mkL a3 (ctL a2 (ctL a1 n)))]), .d (.i .i64 n)] [] (.d (.i .i64 (ctL a3 (ctL a2 (ctL a1 n))))) [] := by
  have g1 : ¬ ctL a1 n < 0 := (by have := f1.out; omega)
  have g2 : ¬ ctL a2 (ctL a1 n) < 0 := (by have := f2.out; omega)
  have g3 : ¬ ctL a3 (ctL a2 (ctL a1 n)) < 0 := (by have := f3.out; omega)
  refine ent_of tok mixed (f := 32) Try.func32 (by kernel_rfl) (keep := false) ?_
  repeat' ((conv => whnf) <;> (first
    | ((with_reducible refine isCall ?_) <;> (first
        | (refine ⟨_, heldColumnS a1 h1 _ f1, ?_⟩; rintro _ _ ⟨rfl, rfl⟩)
        | (refine ⟨_, heldInt64S a2 h2 _ f2, ?_⟩; rintro _ _ ⟨rfl, rfl⟩)
        | (refine ⟨_, heldIndexS a3 h3 _ f3, ?_⟩; rintro _ _ ⟨rfl, rfl⟩)
        | fail))
    | ((with_reducible refine isLoop ?_) <;> (first
        | fail))
    | ((with_reducible refine isCut ?_) <;> (first
        | refine ⟨⟨none⟩, ?_⟩))
    | ((first | with_reducible refine isEx ?_ | with_reducible refine isAnd ?_ | with_reducible refine isOr ?_) <;> (first
        | refine ⟨rfl, ?_⟩
        | refine ⟨Int.natCast_nonneg _, ?_⟩))
    | with_reducible refine Both.mk ?_ ?_
    | (exfalso; exact absurd (of_decide_eq_true (by assumption)) g1)
    | (exfalso; exact absurd (of_decide_eq_true (by assumption)) g2)
    | (exfalso; exact absurd (of_decide_eq_true (by assumption)) g3)
    | rintro _ rfl
    | exact rfl
    | (split <;> (rename_i h; first | (simp only [beq_self_eq_true, eq_self, decide_true, Bool.not_true, Bool.false_eq_true] at h; done) | (try rw [h])))))
def isOp (x : D) : Prop := ∃ (a0 : Int) (a1 : List UInt8) (a2 : List UInt8) (a3 : List D) (a4 : List D) (a5 : List D) (a6 : List D), x = .agg [.i .i64 a0, .s a1, .s a2, .sl false a3, .sl false a4, .sl false a5, .sl false a6] ∧ AllOf isColumn a3 ∧ AllOf isInt64 a4 ∧ AllOf isIndex a5 ∧ AllOf isValue a6
def ownOp (x : D) : Prop := ∃ (a0 : Int) (a1 : List UInt8) (a2 : List UInt8) (a3 : List D) (a4 : List D) (a5 : List D) (a6 : List D), x = .agg [.i .i64 a0, .s a1, .s a2, .os 3 false a3, .os 1 false a4, .os 2 true a5, .os 3 false a6] ∧ AllOf ownColumn a3 ∧ AllOf ownInt64 a4 ∧ AllOf ownIndex a5 ∧ AllOf ownValue a6
theorem eraseOp {x : D} (h : ownOp x) : isOp x.erase := by
  obtain ⟨a0, a1, a2, a3, a4, a5, a6, rfl, h3, h4, h5, h6⟩ := h
  exact ⟨_, _, _, _, _, _, _, rfl, h3.erase fun _ => eraseColumn, h4.erase fun _ => eraseInt64, h5.erase fun _ => eraseIndex, h6.erase fun _ => eraseValue⟩
set_option maxHeartbeats 1000000 in
theorem eqOp (x : D) (hP : isOp x) : Ent Try.prog 106 [.d x, .d x] [] (.d (.b true)) [] := by
  obtain ⟨a0, a1, a2, a3, a4, a5, a6, rfl, h3, h4, h5, h6⟩ := hP
  refine ent_of tok mixed (f := 106) Try.func106 (by kernel_rfl) (keep := false) ?_
  repeat' ((conv => whnf) <;> (first
    | ((with_reducible refine isCall ?_) <;> (first
        | (refine ⟨_, eqSchema _ ⟨_, _, _, _, rfl, h3, h4, h5⟩, ?_⟩; rintro _ _ ⟨rfl, rfl⟩)
        | (refine ⟨_, eqValueS _ h6, ?_⟩; rintro _ _ ⟨rfl, rfl⟩)
        | fail))
    | ((with_reducible refine isLoop ?_) <;> (first
        | fail))
    | ((with_reducible refine isCut ?_) <;> (first
        | refine ⟨⟨none⟩, ?_⟩))
    | ((first | with_reducible refine isEx ?_ | with_reducible refine isAnd ?_ | with_reducible refine isOr ?_) <;> (first
        | refine ⟨rfl, ?_⟩
        | refine ⟨Int.natCast_nonneg _, ?_⟩))
    | with_reducible refine Both.mk ?_ ?_
    | rintro _ rfl
    | exact rfl
    | (split <;> (rename_i h; first | (simp only [beq_self_eq_true, eq_self, decide_true, Bool.not_true, Bool.false_eq_true] at h; done) | (try rw [h])))))
theorem eqOpS (xs : List D) (hP : AllOf isOp xs) : Ent Try.prog 62 [.d (.sl false xs), .d (.sl false xs)] [] (.d (.b true)) [] := by
  refine ent_of tok mixed (f := 62) Try.func62 (by kernel_rfl) (keep := false) ?_
  repeat' ((conv => whnf) <;> (first
    | ((with_reducible refine isCall ?_) <;> (first
        | (refine ⟨_, eqOp _ hs, ?_⟩; rintro _ _ ⟨rfl, rfl⟩)
        | refine ⟨_, hx, ?_⟩
        | (obtain ⟨x, hx⟩ := get_ex (ss := xs) (k := k) (lt_of_dec0 (by assumption)); have hs := hP.all x (get_mem hx); obtain ⟨a0, a1, a2, a3, a4, a5, a6, rfl, h3, h4, h5, h6⟩ := id hs; refine ⟨_, hx, ?_⟩)
        | exact ⟨rfl, ⟨k + 1, _, step_up (lt_of_dec0 (by assumption)) hP.len, lt_of_dec0 (by assumption), rfl⟩, mu_up (lt_of_dec0 (by assumption)) hP.len⟩
        | fail))
    | ((with_reducible refine isLoop ?_) <;> (first
        | (refine ⟨[5, 0, 1], [], fun s => ∃ (k : Nat) (n : Int), n = k ∧ k ≤ xs.length ∧ s = ⟨[(5, .d (.i .i64 n)), (0, .d (.sl false xs)), (1, .d (.sl false xs))], []⟩, fun s => match look 5 s.env with | some (.d (.i _ n)) => xs.length - n.toNat | _ => 0, rfl, ⟨0, _, rfl, Nat.zero_le _, rfl⟩, ?_⟩; rintro s ⟨k, n, rfl, hk, rfl⟩)
        | refine ⟨_, hx, ?_⟩
        | (obtain ⟨x, hx⟩ := get_ex (ss := xs) (k := k) (lt_of_dec0 (by assumption)); have hs := hP.all x (get_mem hx); obtain ⟨a0, a1, a2, a3, a4, a5, a6, rfl, h3, h4, h5, h6⟩ := id hs; refine ⟨_, hx, ?_⟩)
        | exact ⟨rfl, ⟨k + 1, _, step_up (lt_of_dec0 (by assumption)) hP.len, lt_of_dec0 (by assumption), rfl⟩, mu_up (lt_of_dec0 (by assumption)) hP.len⟩
        | fail))
    | ((with_reducible refine isCut ?_) <;> (first
        | refine ⟨⟨none⟩, ?_⟩))
    | ((first | with_reducible refine isEx ?_ | with_reducible refine isAnd ?_ | with_reducible refine isOr ?_) <;> (first
        | refine ⟨_, hx, ?_⟩
        | (obtain ⟨x, hx⟩ := get_ex (ss := xs) (k := k) (lt_of_dec0 (by assumption)); have hs := hP.all x (get_mem hx); obtain ⟨a0, a1, a2, a3, a4, a5, a6, rfl, h3, h4, h5, h6⟩ := id hs; refine ⟨_, hx, ?_⟩)
        | exact ⟨rfl, ⟨k + 1, _, step_up (lt_of_dec0 (by assumption)) hP.len, lt_of_dec0 (by assumption), rfl⟩, mu_up (lt_of_dec0 (by assumption)) hP.len⟩
        | refine ⟨rfl, ?_⟩
        | refine ⟨Int.natCast_nonneg _, ?_⟩))
    | with_reducible refine Both.mk ?_ ?_
    | rintro _ rfl
    | exact rfl
    | (split <;> (rename_i h; first | (simp only [beq_self_eq_true, eq_self, decide_true, Bool.not_true, Bool.false_eq_true] at h; done) | (try rw [h])))))
set_option maxHeartbeats 4000000 in
theorem markOpS (xs : List D) (hP : AllOf ownOp xs) (n : Int) (hn : n ≤ 9223372036854775807) : Ent Try.prog 63 [.own 0, .d (.i .i64 n)] [.arr 7 true xs] (.d (.i .i64 (ctL xs n))) [.arr 7 true (mkL xs n)] := by
  refine ent_of (cx := ⟨tab, [81, 83, 82, 108], []⟩) tok mixed (f := 63) Try.func63 (by kernel_rfl) (keep := false) ?_
  repeat' ((conv => whnf) <;> (first
    | ((with_reducible refine isCall ?_) <;> (first
        | (refine ⟨_, markColumnS a3 h3 _ (by first | assumption | exact wrap_le _ | exact ctL_le _ (by first | assumption | exact wrap_le _ | exact ctL_le _ (by first | assumption | exact wrap_le _ | exact ctL_le _ (by first | assumption | exact wrap_le _ | exact ctL_le _ (by first | assumption | exact wrap_le _))))), ?_⟩; rintro _ _ ⟨rfl, rfl⟩)
        | (refine ⟨_, markInt64S a4 h4 _ (by first | assumption | exact wrap_le _ | exact ctL_le _ (by first | assumption | exact wrap_le _ | exact ctL_le _ (by first | assumption | exact wrap_le _ | exact ctL_le _ (by first | assumption | exact wrap_le _ | exact ctL_le _ (by first | assumption | exact wrap_le _))))), ?_⟩; rintro _ _ ⟨rfl, rfl⟩)
        | (refine ⟨_, markIndexS a5 h5 _ (by first | assumption | exact wrap_le _ | exact ctL_le _ (by first | assumption | exact wrap_le _ | exact ctL_le _ (by first | assumption | exact wrap_le _ | exact ctL_le _ (by first | assumption | exact wrap_le _ | exact ctL_le _ (by first | assumption | exact wrap_le _))))), ?_⟩; rintro _ _ ⟨rfl, rfl⟩)
        | (refine ⟨_, markValueS a6 h6 _ (by first | assumption | exact wrap_le _ | exact ctL_le _ (by first | assumption | exact wrap_le _ | exact ctL_le _ (by first | assumption | exact wrap_le _ | exact ctL_le _ (by first | assumption | exact wrap_le _ | exact ctL_le _ (by first | assumption | exact wrap_le _))))), ?_⟩; rintro _ _ ⟨rfl, rfl⟩)
        | (refine ⟨_, markTextD _ (by first | assumption | exact wrap_le _ | exact ctL_le _ (by first | assumption | exact wrap_le _ | exact ctL_le _ (by first | assumption | exact wrap_le _ | exact ctL_le _ (by first | assumption | exact wrap_le _ | exact ctL_le _ (by first | assumption | exact wrap_le _))))), ?_⟩; rintro _ _ ⟨rfl, rfl⟩)
        | refine ⟨⟨Int.natCast_nonneg _, (by have := lt_of_dec0 (xs := zs) (k := k) (by assumption); (try simp only [baseXs_len, List.length_set]); omega)⟩, ?_⟩
        | refine ⟨_, hzx, ?_⟩
        | refine .inl ⟨rfl, ?_⟩
        | refine ⟨_, set_get (n := zs.length) (by simp only [baseXs_len, List.length_set]) (get_lt hzx), ?_⟩
        | (obtain ⟨x, hx⟩ := get_ex (ss := xs) (k := k) (by have := lt_of_dec0 (xs := zs) (k := k) (by assumption); omega); obtain ⟨a0, a1, a2, a3, a4, a5, a6, rfl, h3, h4, h5, h6⟩ := hP.all x (get_mem hx); have hzx := mk_at (n := n) hx; rw [← hz] at hzx; refine ⟨_, hzx, ?_⟩)
        | refine ⟨(by decide : (3 : Int) ≠ 0), ?_⟩
        | fail))
    | ((with_reducible refine isLoop ?_) <;> (first
        | (refine ⟨[5, 1, 0], [0], fun s => ∃ (k : Nat) (i c : Int) (zs : List D), i = k ∧ k ≤ xs.length ∧ c = ctL (xs.take k) n ∧ zs = mkL (xs.take k) n ++ xs.drop k ∧ zs.length = xs.length ∧ s = ⟨[(5, .d (.i .i64 i)), (1, .d (.i .i64 c)), (0, .own 0)], [(0, .arr 7 true zs)]⟩, fun s => match look 5 s.env with | some (.d (.i _ i)) => xs.length - i.toNat | _ => 0, rfl, ⟨0, _, _, _, rfl, Nat.zero_le _, rfl, rfl, rfl, rfl⟩, ?_⟩; rintro s ⟨k, i, c, zs, rfl, hk, hc, hz, hzl, rfl⟩; have hcl : c ≤ 9223372036854775807 := (by rw [hc]; exact ctL_le _ hn))
        | refine ⟨⟨Int.natCast_nonneg _, (by have := lt_of_dec0 (xs := zs) (k := k) (by assumption); (try simp only [baseXs_len, List.length_set]); omega)⟩, ?_⟩
        | refine ⟨_, hzx, ?_⟩
        | refine .inl ⟨rfl, ?_⟩
        | refine ⟨_, set_get (n := zs.length) (by simp only [baseXs_len, List.length_set]) (get_lt hzx), ?_⟩
        | (obtain ⟨x, hx⟩ := get_ex (ss := xs) (k := k) (by have := lt_of_dec0 (xs := zs) (k := k) (by assumption); omega); obtain ⟨a0, a1, a2, a3, a4, a5, a6, rfl, h3, h4, h5, h6⟩ := hP.all x (get_mem hx); have hzx := mk_at (n := n) hx; rw [← hz] at hzx; refine ⟨_, hzx, ?_⟩)
        | refine ⟨(by decide : (3 : Int) ≠ 0), ?_⟩
        | fail))
    | ((with_reducible refine isCut ?_) <;> (first
        | refine ⟨⟨none⟩, ?_⟩))
    | ((first | with_reducible refine isEx ?_ | with_reducible refine isAnd ?_ | with_reducible refine isOr ?_) <;> (first
        | refine ⟨⟨Int.natCast_nonneg _, (by have := lt_of_dec0 (xs := zs) (k := k) (by assumption); (try simp only [baseXs_len, List.length_set]); omega)⟩, ?_⟩
        | refine ⟨_, hzx, ?_⟩
        | refine .inl ⟨rfl, ?_⟩
        | refine ⟨_, set_get (n := zs.length) (by simp only [baseXs_len, List.length_set]) (get_lt hzx), ?_⟩
        | (obtain ⟨x, hx⟩ := get_ex (ss := xs) (k := k) (by have := lt_of_dec0 (xs := zs) (k := k) (by assumption); omega); obtain ⟨a0, a1, a2, a3, a4, a5, a6, rfl, h3, h4, h5, h6⟩ := hP.all x (get_mem hx); have hzx := mk_at (n := n) hx; rw [← hz] at hzx; refine ⟨_, hzx, ?_⟩)
        | refine ⟨(by decide : (3 : Int) ≠ 0), ?_⟩
        | refine ⟨rfl, ?_⟩
        | refine ⟨Int.natCast_nonneg _, ?_⟩))
    | with_reducible refine Both.mk ?_ ?_
    | rintro _ rfl
    | exact rfl
    | (split <;> (rename_i h; first | (simp only [beq_self_eq_true, eq_self, decide_true, Bool.not_true, Bool.false_eq_true] at h; done) | (try rw [h])))))
  all_goals (conv => whnf)
  · have hk2 : k < xs.length := get_lt hx
    subst hc
    refine ⟨⟨k + 1, _, _, _, step_up hk2 hP.len, hk2, (ct_up hx).symm, ?_, ?_, rfl⟩, mu_up hk2 hP.len⟩
    · show ((((zs.set k _).set k _).set k _).set k _) = _
      simp only [List.set_set]
      rw [hz]; exact mk_set hx
    · show ((((zs.set k _).set k _).set k _).set k _).length = _
      simp only [List.length_set]; exact hzl
  · have e : k = xs.length := by have := of_decide_eq_false (by assumption : decide ((k : Int) < (zs.length : Int)) = false); omega
    obtain ⟨e1, e2⟩ := mk_all (xs := xs) (n := n) e
    rw [hz, hc, e1, e2]; exact ⟨rfl, rfl⟩
set_option maxHeartbeats 4000000 in
theorem heldOpS (xs : List D) (hP : AllOf isOp xs) (n : Int) (hF : Fine xs n) : Ent Try.prog 64 [.d (.sl false (mkL xs n)), .d (.i .i64 n)] [] (.d (.i .i64 (ctL xs n))) [] := by
  have hml := mkL_len xs n
  refine ent_of tok mixed (f := 64) Try.func64 (by kernel_rfl) (keep := false) ?_
  repeat' ((conv => whnf) <;> (first
    | ((with_reducible refine isCall ?_) <;> (first
        | (refine ⟨_, heldColumnS a3 h3 _ f3, ?_⟩; rintro _ _ ⟨rfl, rfl⟩)
        | (refine ⟨_, heldInt64S a4 h4 _ f4, ?_⟩; rintro _ _ ⟨rfl, rfl⟩)
        | (refine ⟨_, heldIndexS a5 h5 _ f5, ?_⟩; rintro _ _ ⟨rfl, rfl⟩)
        | (refine ⟨_, heldValueS a6 h6 _ f6, ?_⟩; rintro _ _ ⟨rfl, rfl⟩)
        | (refine ⟨_, markTextD _ (by first | assumption | exact wrap_le _ | exact ctL_le _ (by first | assumption | exact wrap_le _ | exact ctL_le _ (by first | assumption | exact wrap_le _ | exact ctL_le _ (by first | assumption | exact wrap_le _ | exact ctL_le _ (by first | assumption | exact wrap_le _))))), ?_⟩; rintro _ _ ⟨rfl, rfl⟩)
        | refine ⟨_, he, ?_⟩
        | (obtain ⟨x, hx⟩ := get_ex (ss := xs) (k := k) (by have := lt_of_dec0 (by assumption); omega); obtain ⟨a0, a1, a2, a3, a4, a5, a6, rfl, h3, h4, h5, h6⟩ := hP.all x (get_mem hx); have he : (mkL xs n)[k]? = some (.agg [.i .i64 c, .s (markTextM (IntKind.i64.wrap (c + 1))), .s (markTextM (IntKind.i64.wrap ((IntKind.i64.wrap (c + 1)) + 1))), .sl false (mkL a3 (IntKind.i64.wrap ((IntKind.i64.wrap ((IntKind.i64.wrap (c + 1)) + 1)) + 1))), .sl false (mkL a4 (ctL a3 (IntKind.i64.wrap ((IntKind.i64.wrap ((IntKind.i64.wrap (c + 1)) + 1)) + 1)))), .sl false (mkL a5 (ctL a4 (ctL a3 (IntKind.i64.wrap ((IntKind.i64.wrap ((IntKind.i64.wrap (c + 1)) + 1)) + 1))))), .sl false (mkL a6 (ctL a5 (ctL a4 (ctL a3 (IntKind.i64.wrap ((IntKind.i64.wrap ((IntKind.i64.wrap (c + 1)) + 1)) + 1))))))]) := (by rw [hc]; exact mk_get hx); have hf : 0 ≤ c ∧ c + cntL [.i .i64 a0, .s a1, .s a2, .sl false a3, .sl false a4, .sl false a5, .sl false a6] ≤ 1000000000000000 := (by rw [hc]; have := hF.take hx; simpa only [cntD] using this); have f3 : Fine a3 (IntKind.i64.wrap ((IntKind.i64.wrap ((IntKind.i64.wrap (c + 1)) + 1)) + 1)) := Fine.cell (j := 3) hf rfl; have g3 : ¬ ctL a3 (IntKind.i64.wrap ((IntKind.i64.wrap ((IntKind.i64.wrap (c + 1)) + 1)) + 1)) < 0 := (by have := f3.out; omega); have f4 : Fine a4 (ctL a3 (IntKind.i64.wrap ((IntKind.i64.wrap ((IntKind.i64.wrap (c + 1)) + 1)) + 1))) := Fine.cell (j := 4) hf rfl; have g4 : ¬ ctL a4 (ctL a3 (IntKind.i64.wrap ((IntKind.i64.wrap ((IntKind.i64.wrap (c + 1)) + 1)) + 1))) < 0 := (by have := f4.out; omega); have f5 : Fine a5 (ctL a4 (ctL a3 (IntKind.i64.wrap ((IntKind.i64.wrap ((IntKind.i64.wrap (c + 1)) + 1)) + 1)))) := Fine.cell (j := 5) hf rfl; have g5 : ¬ ctL a5 (ctL a4 (ctL a3 (IntKind.i64.wrap ((IntKind.i64.wrap ((IntKind.i64.wrap (c + 1)) + 1)) + 1)))) < 0 := (by have := f5.out; omega); have f6 : Fine a6 (ctL a5 (ctL a4 (ctL a3 (IntKind.i64.wrap ((IntKind.i64.wrap ((IntKind.i64.wrap (c + 1)) + 1)) + 1))))) := Fine.cell (j := 6) hf rfl; have g6 : ¬ ctL a6 (ctL a5 (ctL a4 (ctL a3 (IntKind.i64.wrap ((IntKind.i64.wrap ((IntKind.i64.wrap (c + 1)) + 1)) + 1))))) < 0 := (by have := f6.out; omega); refine ⟨_, he, ?_⟩)
        | refine ⟨(by decide : (3 : Int) ≠ 0), ?_⟩
        | fail))
    | ((with_reducible refine isLoop ?_) <;> (first
        | (refine ⟨[5, 1, 0], [], fun s => ∃ (k : Nat) (i c : Int), i = k ∧ k ≤ xs.length ∧ c = ctL (xs.take k) n ∧ s = ⟨[(5, .d (.i .i64 i)), (1, .d (.i .i64 c)), (0, .d (.sl false (mkL xs n)))], []⟩, fun s => match look 5 s.env with | some (.d (.i _ i)) => xs.length - i.toNat | _ => 0, rfl, ⟨0, _, _, rfl, Nat.zero_le _, rfl, rfl⟩, ?_⟩; rintro s ⟨k, i, c, rfl, hk, hc, rfl⟩; have hcl : c ≤ 9223372036854775807 := (by rw [hc]; exact ctL_le _ (by have := hF.lo; have := hF.hi; omega)))
        | refine ⟨_, he, ?_⟩
        | (obtain ⟨x, hx⟩ := get_ex (ss := xs) (k := k) (by have := lt_of_dec0 (by assumption); omega); obtain ⟨a0, a1, a2, a3, a4, a5, a6, rfl, h3, h4, h5, h6⟩ := hP.all x (get_mem hx); have he : (mkL xs n)[k]? = some (.agg [.i .i64 c, .s (markTextM (IntKind.i64.wrap (c + 1))), .s (markTextM (IntKind.i64.wrap ((IntKind.i64.wrap (c + 1)) + 1))), .sl false (mkL a3 (IntKind.i64.wrap ((IntKind.i64.wrap ((IntKind.i64.wrap (c + 1)) + 1)) + 1))), .sl false (mkL a4 (ctL a3 (IntKind.i64.wrap ((IntKind.i64.wrap ((IntKind.i64.wrap (c + 1)) + 1)) + 1)))), .sl false (mkL a5 (ctL a4 (ctL a3 (IntKind.i64.wrap ((IntKind.i64.wrap ((IntKind.i64.wrap (c + 1)) + 1)) + 1))))), .sl false (mkL a6 (ctL a5 (ctL a4 (ctL a3 (IntKind.i64.wrap ((IntKind.i64.wrap ((IntKind.i64.wrap (c + 1)) + 1)) + 1))))))]) := (by rw [hc]; exact mk_get hx); have hf : 0 ≤ c ∧ c + cntL [.i .i64 a0, .s a1, .s a2, .sl false a3, .sl false a4, .sl false a5, .sl false a6] ≤ 1000000000000000 := (by rw [hc]; have := hF.take hx; simpa only [cntD] using this); have f3 : Fine a3 (IntKind.i64.wrap ((IntKind.i64.wrap ((IntKind.i64.wrap (c + 1)) + 1)) + 1)) := Fine.cell (j := 3) hf rfl; have g3 : ¬ ctL a3 (IntKind.i64.wrap ((IntKind.i64.wrap ((IntKind.i64.wrap (c + 1)) + 1)) + 1)) < 0 := (by have := f3.out; omega); have f4 : Fine a4 (ctL a3 (IntKind.i64.wrap ((IntKind.i64.wrap ((IntKind.i64.wrap (c + 1)) + 1)) + 1))) := Fine.cell (j := 4) hf rfl; have g4 : ¬ ctL a4 (ctL a3 (IntKind.i64.wrap ((IntKind.i64.wrap ((IntKind.i64.wrap (c + 1)) + 1)) + 1))) < 0 := (by have := f4.out; omega); have f5 : Fine a5 (ctL a4 (ctL a3 (IntKind.i64.wrap ((IntKind.i64.wrap ((IntKind.i64.wrap (c + 1)) + 1)) + 1)))) := Fine.cell (j := 5) hf rfl; have g5 : ¬ ctL a5 (ctL a4 (ctL a3 (IntKind.i64.wrap ((IntKind.i64.wrap ((IntKind.i64.wrap (c + 1)) + 1)) + 1)))) < 0 := (by have := f5.out; omega); have f6 : Fine a6 (ctL a5 (ctL a4 (ctL a3 (IntKind.i64.wrap ((IntKind.i64.wrap ((IntKind.i64.wrap (c + 1)) + 1)) + 1))))) := Fine.cell (j := 6) hf rfl; have g6 : ¬ ctL a6 (ctL a5 (ctL a4 (ctL a3 (IntKind.i64.wrap ((IntKind.i64.wrap ((IntKind.i64.wrap (c + 1)) + 1)) + 1))))) < 0 := (by have := f6.out; omega); refine ⟨_, he, ?_⟩)
        | refine ⟨(by decide : (3 : Int) ≠ 0), ?_⟩
        | fail))
    | ((with_reducible refine isCut ?_) <;> (first
        | refine ⟨⟨none⟩, ?_⟩))
    | ((first | with_reducible refine isEx ?_ | with_reducible refine isAnd ?_ | with_reducible refine isOr ?_) <;> (first
        | refine ⟨_, he, ?_⟩
        | (obtain ⟨x, hx⟩ := get_ex (ss := xs) (k := k) (by have := lt_of_dec0 (by assumption); omega); obtain ⟨a0, a1, a2, a3, a4, a5, a6, rfl, h3, h4, h5, h6⟩ := hP.all x (get_mem hx); have he : (mkL xs n)[k]? = some (.agg [.i .i64 c, .s (markTextM (IntKind.i64.wrap (c + 1))), .s (markTextM (IntKind.i64.wrap ((IntKind.i64.wrap (c + 1)) + 1))), .sl false (mkL a3 (IntKind.i64.wrap ((IntKind.i64.wrap ((IntKind.i64.wrap (c + 1)) + 1)) + 1))), .sl false (mkL a4 (ctL a3 (IntKind.i64.wrap ((IntKind.i64.wrap ((IntKind.i64.wrap (c + 1)) + 1)) + 1)))), .sl false (mkL a5 (ctL a4 (ctL a3 (IntKind.i64.wrap ((IntKind.i64.wrap ((IntKind.i64.wrap (c + 1)) + 1)) + 1))))), .sl false (mkL a6 (ctL a5 (ctL a4 (ctL a3 (IntKind.i64.wrap ((IntKind.i64.wrap ((IntKind.i64.wrap (c + 1)) + 1)) + 1))))))]) := (by rw [hc]; exact mk_get hx); have hf : 0 ≤ c ∧ c + cntL [.i .i64 a0, .s a1, .s a2, .sl false a3, .sl false a4, .sl false a5, .sl false a6] ≤ 1000000000000000 := (by rw [hc]; have := hF.take hx; simpa only [cntD] using this); have f3 : Fine a3 (IntKind.i64.wrap ((IntKind.i64.wrap ((IntKind.i64.wrap (c + 1)) + 1)) + 1)) := Fine.cell (j := 3) hf rfl; have g3 : ¬ ctL a3 (IntKind.i64.wrap ((IntKind.i64.wrap ((IntKind.i64.wrap (c + 1)) + 1)) + 1)) < 0 := (by have := f3.out; omega); have f4 : Fine a4 (ctL a3 (IntKind.i64.wrap ((IntKind.i64.wrap ((IntKind.i64.wrap (c + 1)) + 1)) + 1))) := Fine.cell (j := 4) hf rfl; have g4 : ¬ ctL a4 (ctL a3 (IntKind.i64.wrap ((IntKind.i64.wrap ((IntKind.i64.wrap (c + 1)) + 1)) + 1))) < 0 := (by have := f4.out; omega); have f5 : Fine a5 (ctL a4 (ctL a3 (IntKind.i64.wrap ((IntKind.i64.wrap ((IntKind.i64.wrap (c + 1)) + 1)) + 1)))) := Fine.cell (j := 5) hf rfl; have g5 : ¬ ctL a5 (ctL a4 (ctL a3 (IntKind.i64.wrap ((IntKind.i64.wrap ((IntKind.i64.wrap (c + 1)) + 1)) + 1)))) < 0 := (by have := f5.out; omega); have f6 : Fine a6 (ctL a5 (ctL a4 (ctL a3 (IntKind.i64.wrap ((IntKind.i64.wrap ((IntKind.i64.wrap (c + 1)) + 1)) + 1))))) := Fine.cell (j := 6) hf rfl; have g6 : ¬ ctL a6 (ctL a5 (ctL a4 (ctL a3 (IntKind.i64.wrap ((IntKind.i64.wrap ((IntKind.i64.wrap (c + 1)) + 1)) + 1))))) < 0 := (by have := f6.out; omega); refine ⟨_, he, ?_⟩)
        | refine ⟨(by decide : (3 : Int) ≠ 0), ?_⟩
        | refine ⟨rfl, ?_⟩
        | refine ⟨Int.natCast_nonneg _, ?_⟩))
    | with_reducible refine Both.mk ?_ ?_
    | (exfalso; exact absurd (of_decide_eq_true (by assumption)) g3)
    | (exfalso; exact absurd (of_decide_eq_true (by assumption)) g4)
    | (exfalso; exact absurd (of_decide_eq_true (by assumption)) g5)
    | (exfalso; exact absurd (of_decide_eq_true (by assumption)) g6)
    | rintro _ rfl
    | exact rfl
    | (split <;> (rename_i h; first | (simp only [beq_self_eq_true, eq_self, decide_true, Bool.not_true, Bool.false_eq_true] at h; done) | (try rw [h])))))
  all_goals (conv => whnf)
  · have hk2 : k < xs.length := get_lt hx
    subst hc
    exact ⟨⟨k + 1, _, _, step_up hk2 hP.len, hk2, (ct_up hx).symm, rfl⟩, mu_up hk2 hP.len⟩
  · have e : k = xs.length := by have := of_decide_eq_false (by assumption : decide ((k : Int) < ((mkL xs n).length : Int)) = false); omega
    rw [hc, (mk_all (xs := xs) (n := n) e).2]; exact ⟨rfl, rfl⟩
def isSchemaOut (x : D) : Prop := ∃ (a0 : List UInt8) (a1 : List D) (a2 : List D) (a3 : List D) (a4 : Int), x = .agg [.s a0, .sl false a1, .sl false a2, .sl false a3, .i .i64 a4] ∧ AllOf isColumn a1 ∧ AllOf isInt64 a2 ∧ AllOf isIndex a3
def ownSchemaOut (x : D) : Prop := ∃ (a0 : List UInt8) (a1 : List D) (a2 : List D) (a3 : List D) (a4 : Int), x = .agg [.s a0, .os 3 false a1, .os 1 false a2, .os 2 true a3, .i .i64 a4] ∧ AllOf ownColumn a1 ∧ AllOf ownInt64 a2 ∧ AllOf ownIndex a3
theorem eraseSchemaOut {x : D} (h : ownSchemaOut x) : isSchemaOut x.erase := by
  obtain ⟨a0, a1, a2, a3, a4, rfl, h1, h2, h3⟩ := h
  exact ⟨_, _, _, _, _, rfl, h1.erase fun _ => eraseColumn, h2.erase fun _ => eraseInt64, h3.erase fun _ => eraseIndex⟩
set_option maxHeartbeats 1000000 in
theorem eqSchemaOut (x : D) (hP : isSchemaOut x) : Ent Try.prog 8 [.d x, .d x] [] (.d (.b true)) [] := by
  obtain ⟨a0, a1, a2, a3, a4, rfl, h1, h2, h3⟩ := hP
  refine ent_of tok mixed (f := 8) Try.func8 (by kernel_rfl) (keep := false) ?_
  repeat' ((conv => whnf) <;> (first
    | ((with_reducible refine isCall ?_) <;> (first
        | (refine ⟨_, eqSchema _ ⟨_, _, _, _, rfl, h1, h2, h3⟩, ?_⟩; rintro _ _ ⟨rfl, rfl⟩)
        | fail))
    | ((with_reducible refine isLoop ?_) <;> (first
        | fail))
    | ((with_reducible refine isCut ?_) <;> (first
        | refine ⟨⟨none⟩, ?_⟩))
    | ((first | with_reducible refine isEx ?_ | with_reducible refine isAnd ?_ | with_reducible refine isOr ?_) <;> (first
        | refine ⟨rfl, ?_⟩
        | refine ⟨Int.natCast_nonneg _, ?_⟩))
    | with_reducible refine Both.mk ?_ ?_
    | rintro _ rfl
    | exact rfl
    | (split <;> (rename_i h; first | (simp only [beq_self_eq_true, eq_self, decide_true, Bool.not_true, Bool.false_eq_true] at h; done) | (try rw [h])))))
set_option maxHeartbeats 4000000 in
theorem markSchemaOut (a0 : List UInt8) (a1 : List D) (a2 : List D) (a3 : List D) (a4 : Int) (h1 : AllOf ownColumn a1) (h2 : AllOf ownInt64 a2) (h3 : AllOf ownIndex a3) (n : Int) (hn : n ≤ 9223372036854775807) : Ent Try.prog 9 [.agg [.d (.s a0), .own 0, .own 1, .own 2, .d (.i .i64 a4)], .d (.i .i64 n)] [.arr 3 false a1, .arr 1 false a2, .arr 2 true a3] (.d (.i .i64 (ctL a3 (ctL a2 (ctL a1 n))))) [.arr 3 false (mkL a1 n), .arr 1 false (mkL a2 (ctL a1 n)), .arr 2 true (mkL a3 (ctL a2 (ctL a1 n)))] := by
  refine ent_of (cx := ⟨tab, [31], []⟩) tok mixed (f := 9) Try.func9 (by kernel_rfl) (keep := false) ?_
  repeat' ((conv => whnf) <;> (first
    | ((with_reducible refine isCall ?_) <;> (first
        | (refine ⟨_, markSchema a0 a1 a2 a3 h1 h2 h3 _ (by first | assumption | exact wrap_le _ | exact ctL_le _ (by first | assumption | exact wrap_le _ | exact ctL_le _ (by first | assumption | exact wrap_le _ | exact ctL_le _ (by first | assumption | exact wrap_le _ | exact ctL_le _ (by first | assumption | exact wrap_le _))))), ?_⟩; rintro _ _ ⟨rfl, rfl⟩)
        | fail))
    | ((with_reducible refine isLoop ?_) <;> (first
        | fail))
    | ((with_reducible refine isCut ?_) <;> (first
        | refine ⟨⟨none⟩, ?_⟩))
    | ((first | with_reducible refine isEx ?_ | with_reducible refine isAnd ?_ | with_reducible refine isOr ?_) <;> (first
        | refine ⟨rfl, ?_⟩
        | refine ⟨Int.natCast_nonneg _, ?_⟩))
    | with_reducible refine Both.mk ?_ ?_
    | rintro _ rfl
    | exact rfl
    | (split <;> (rename_i h; first | (simp only [beq_self_eq_true, eq_self, decide_true, Bool.not_true, Bool.false_eq_true] at h; done) | (try rw [h])))))
set_option maxHeartbeats 4000000 in
theorem heldSchemaOut (a0 : List UInt8) (a1 : List D) (a2 : List D) (a3 : List D) (a4 : Int) (h1 : AllOf isColumn a1) (h2 : AllOf isInt64 a2) (h3 : AllOf isIndex a3) (n : Int) (f1 : Fine a1 n) (f2 : Fine a2 (ctL a1 n)) (f3 : Fine a3 (ctL a2 (ctL a1 n))) : Ent Try.prog 10 [.d (.agg [.s a0, .sl false (mkL a1 n), .sl false (mkL a2 (ctL a1 n)), .sl false (mkL a3 (ctL a2 (ctL a1 n))), .i .i64 a4]), .d (.i .i64 n)] [] (.d (.i .i64 (ctL a3 (ctL a2 (ctL a1 n))))) [] := by
  have g1 : ¬ ctL a1 n < 0 := (by have := f1.out; omega)
  have g2 : ¬ ctL a2 (ctL a1 n) < 0 := (by have := f2.out; omega)
  have g3 : ¬ ctL a3 (ctL a2 (ctL a1 n)) < 0 := (by have := f3.out; omega)
  refine ent_of tok mixed (f := 10) Try.func10 (by kernel_rfl) (keep := false) ?_
  repeat' ((conv => whnf) <;> (first
    | ((with_reducible refine isCall ?_) <;> (first
        | (refine ⟨_, heldSchema a0 a1 a2 a3 h1 h2 h3 _ f1 f2 f3, ?_⟩; rintro _ _ ⟨rfl, rfl⟩)
        | fail))
    | ((with_reducible refine isLoop ?_) <;> (first
        | fail))
    | ((with_reducible refine isCut ?_) <;> (first
        | refine ⟨⟨none⟩, ?_⟩))
    | ((first | with_reducible refine isEx ?_ | with_reducible refine isAnd ?_ | with_reducible refine isOr ?_) <;> (first
        | refine ⟨rfl, ?_⟩
        | refine ⟨Int.natCast_nonneg _, ?_⟩))
    | with_reducible refine Both.mk ?_ ?_
    | (exfalso; exact absurd (of_decide_eq_true (by assumption)) g1)
    | (exfalso; exact absurd (of_decide_eq_true (by assumption)) g2)
    | (exfalso; exact absurd (of_decide_eq_true (by assumption)) g3)
    | rintro _ rfl
    | exact rfl
    | (split <;> (rename_i h; first | (simp only [beq_self_eq_true, eq_self, decide_true, Bool.not_true, Bool.false_eq_true] at h; done) | (try rw [h])))))
def isOpsOut (x : D) : Prop := ∃ (a0 : List D) (a1 : Int), x = .agg [.sl false a0, .i .i64 a1] ∧ AllOf isOp a0
def ownOpsOut (x : D) : Prop := ∃ (a0 : List D) (a1 : Int), x = .agg [.os 7 true a0, .i .i64 a1] ∧ AllOf ownOp a0
theorem eraseOpsOut {x : D} (h : ownOpsOut x) : isOpsOut x.erase := by
  obtain ⟨a0, a1, rfl, h0⟩ := h
  exact ⟨_, _, rfl, h0.erase fun _ => eraseOp⟩
set_option maxHeartbeats 1000000 in
theorem eqOpsOut (x : D) (hP : isOpsOut x) : Ent Try.prog 22 [.d x, .d x] [] (.d (.b true)) [] := by
  obtain ⟨a0, a1, rfl, h0⟩ := hP
  refine ent_of tok mixed (f := 22) Try.func22 (by kernel_rfl) (keep := false) ?_
  repeat' ((conv => whnf) <;> (first
    | ((with_reducible refine isCall ?_) <;> (first
        | (refine ⟨_, eqOpS _ h0, ?_⟩; rintro _ _ ⟨rfl, rfl⟩)
        | fail))
    | ((with_reducible refine isLoop ?_) <;> (first
        | fail))
    | ((with_reducible refine isCut ?_) <;> (first
        | refine ⟨⟨none⟩, ?_⟩))
    | ((first | with_reducible refine isEx ?_ | with_reducible refine isAnd ?_ | with_reducible refine isOr ?_) <;> (first
        | refine ⟨rfl, ?_⟩
        | refine ⟨Int.natCast_nonneg _, ?_⟩))
    | with_reducible refine Both.mk ?_ ?_
    | rintro _ rfl
    | exact rfl
    | (split <;> (rename_i h; first | (simp only [beq_self_eq_true, eq_self, decide_true, Bool.not_true, Bool.false_eq_true] at h; done) | (try rw [h])))))
set_option maxHeartbeats 4000000 in
theorem markOpsOut (a0 : List D) (a1 : Int) (h0 : AllOf ownOp a0) (n : Int) (hn : n ≤ 9223372036854775807) : Ent Try.prog 23 [.agg [.own 0, .d (.i .i64 a1)], .d (.i .i64 n)] [.arr 7 true a0] (.d (.i .i64 (ctL a0 n))) [.arr 7 true (mkL a0 n)] := by
  refine ent_of (cx := ⟨tab, [63], []⟩) tok mixed (f := 23) Try.func23 (by kernel_rfl) (keep := false) ?_
  repeat' ((conv => whnf) <;> (first
    | ((with_reducible refine isCall ?_) <;> (first
        | (refine ⟨_, markOpS a0 h0 _ (by first | assumption | exact wrap_le _ | exact ctL_le _ (by first | assumption | exact wrap_le _ | exact ctL_le _ (by first | assumption | exact wrap_le _ | exact ctL_le _ (by first | assumption | exact wrap_le _ | exact ctL_le _ (by first | assumption | exact wrap_le _))))), ?_⟩; rintro _ _ ⟨rfl, rfl⟩)
        | fail))
    | ((with_reducible refine isLoop ?_) <;> (first
        | fail))
    | ((with_reducible refine isCut ?_) <;> (first
        | refine ⟨⟨none⟩, ?_⟩))
    | ((first | with_reducible refine isEx ?_ | with_reducible refine isAnd ?_ | with_reducible refine isOr ?_) <;> (first
        | refine ⟨rfl, ?_⟩
        | refine ⟨Int.natCast_nonneg _, ?_⟩))
    | with_reducible refine Both.mk ?_ ?_
    | rintro _ rfl
    | exact rfl
    | (split <;> (rename_i h; first | (simp only [beq_self_eq_true, eq_self, decide_true, Bool.not_true, Bool.false_eq_true] at h; done) | (try rw [h])))))
set_option maxHeartbeats 4000000 in
theorem heldOpsOut (a0 : List D) (a1 : Int) (h0 : AllOf isOp a0) (n : Int) (f0 : Fine a0 n) : Ent Try.prog 24 [.d (.agg [.sl false (mkL a0 n), .i .i64 a1]), .d (.i .i64 n)] [] (.d (.i .i64 (ctL a0 n))) [] := by
  have g0 : ¬ ctL a0 n < 0 := (by have := f0.out; omega)
  refine ent_of tok mixed (f := 24) Try.func24 (by kernel_rfl) (keep := false) ?_
  repeat' ((conv => whnf) <;> (first
    | ((with_reducible refine isCall ?_) <;> (first
        | (refine ⟨_, heldOpS a0 h0 _ f0, ?_⟩; rintro _ _ ⟨rfl, rfl⟩)
        | fail))
    | ((with_reducible refine isLoop ?_) <;> (first
        | fail))
    | ((with_reducible refine isCut ?_) <;> (first
        | refine ⟨⟨none⟩, ?_⟩))
    | ((first | with_reducible refine isEx ?_ | with_reducible refine isAnd ?_ | with_reducible refine isOr ?_) <;> (first
        | refine ⟨rfl, ?_⟩
        | refine ⟨Int.natCast_nonneg _, ?_⟩))
    | with_reducible refine Both.mk ?_ ?_
    | (exfalso; exact absurd (of_decide_eq_true (by assumption)) g0)
    | rintro _ rfl
    | exact rfl
    | (split <;> (rename_i h; first | (simp only [beq_self_eq_true, eq_self, decide_true, Bool.not_true, Bool.false_eq_true] at h; done) | (try rw [h])))))
end Go.Pm.Try
