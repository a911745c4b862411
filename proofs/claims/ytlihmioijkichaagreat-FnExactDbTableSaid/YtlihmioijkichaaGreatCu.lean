/-
Values in a key: the reference's reader.
-/
import Derived.Test.YtlihmioijkichaaGreatCt
namespace Go.Pm.Tryz
open Go Go.Proofs
set_option linter.unusedVariables false
set_option linter.unusedSimpArgs false
set_option maxRecDepth 100000
theorem getD_drop (l : List UInt8) (a k : Nat) : (l.drop a).getD k 0 = l.getD (a + k) 0 := by
  simp only [List.getD_eq_getElem?_getD, List.getElem?_drop]
theorem kd_drop (l : List UInt8) (a k : Nat) : kd (l.drop a) k = kd l (a + k) := by rw [kd, kd, getD_drop]
def TwoQ (a : Nat) (v : Val) (n : Int) (ok : Bool) : Option (Val × Nat) → Prop
  | some (w, m) => v = w ∧ n = ((a + m : Nat) : Int) ∧ ok = true
  | none => ok = false
def TwoR (l : List UInt8) (a : Nat) (R : AV) (O : List Ob) : Prop := O = [] ∧ ∃ v n ok, R = .tup [.d (valD v), .d (.i .i64 n), .d (.b ok)] ∧ TwoQ a v n ok (oneM (l.drop a))
theorem wrapAt (a k : Nat) (h : a + k ≤ 100000) : IntKind.i64.wrap (IntKind.i64.wrap ((a : Int) + 1) + (k : Int)) = ((a + 1 + k : Nat) : Int) := by
  rw [wrap_i64_id ((a : Int) + 1) (by omega) (by omega), wrap_i64_id _ (by omega) (by omega)]; omega
set_option maxHeartbeats 4000000 in
theorem l02Value (l : List UInt8) (hl : l.length ≤ 20000) (a : Nat) (ha : a < l.length) : EntQ Tryz.prog 261 [.d (.s l), .d (.i .i64 (a : Int))] [] (TwoR l a) := by
  have ha1 := up_small (k := a) (n := 20001) (by omega) (by decide)
  have hk0 : kd (l.drop a) 0 = kd l a := kd_drop l a 0
  have hk1 : kd (l.drop a) 1 = kd l (a + 1) := kd_drop l a 1
  have hlen : (l.drop a).length = l.length - a := List.length_drop
  obtain ⟨s, hs⟩ : ∃ s, s = l.drop a := ⟨_, rfl⟩
  have hg : ∀ k, s.getD k 0 = l.getD (a + k) 0 := fun k => by rw [hs]; exact getD_drop l a k
  have hT : TwoR l a = fun R O => O = [] ∧ ∃ v n ok, R = .tup [.d (valD v), .d (.i .i64 n), .d (.b ok)] ∧ TwoQ a v n ok (oneM s) := by rw [hs]; rfl
  rw [hT]
  rw [← hs] at hk0 hk1 hlen
  refine ent_of tok mixed (f := 261) Tryz.func261 (by kernel_rfl) (keep := false) ?_
  repeat' ((conv => whnf) <;> (first
    | ((with_reducible refine isCall ?_) <;> (first
        | (refine ⟨⟨Int.natCast_nonneg _, (by first | omega | (have := of_decide_eq_true (by assumption : decide (IntKind.i64.wrap (((a + p : Nat) : Int) + 1) < (l.length : Int)) = true); rw [hw] at this; omega))⟩, ?_⟩)
        | (refine ⟨⟨(by rw [hA]; omega), (by rw [hA]; have := lt_of_dec' (by assumption : decide ((k : Int) < ((8 : Nat) : Int)) = true); omega)⟩, ?_⟩)
        | (refine ⟨⟨(by rw [hw]; omega), (by have := of_decide_eq_true (by assumption : decide (IntKind.i64.wrap (((a + p : Nat) : Int) + 1) < (l.length : Int)) = true); omega)⟩, ?_⟩)
        | (refine ⟨⟨(by rw [ha1]; omega), (by have := of_decide_eq_false h; omega)⟩, ?_⟩)
        | refine ⟨_, rfl, ?_⟩
        | (refine ⟨⟨by decide, rfl, rfl, room_add (by unfold u8s; rw [List.length_map]; omega) (by decide)⟩, ?_⟩)
        | fail))
    | ((with_reducible refine isLoop ?_) <;> (first
        | (refine ⟨[9, 0, 1, 4, 7, 8], [10004, 10007], fun st => ∃ (k : Nat) (i u : Int), i = k ∧ k ≤ 8 ∧ a + 9 ≤ l.length ∧ kd l a = 2 ∧ u = accU s k ∧ st = ⟨[(9, .d (.i .i64 i)), (0, .d (.s l)), (1, .d (.i .i64 (IntKind.i64.wrap ((a : Int) + 1)))), (4, .ptr 10004 0), (7, .ptr 10007 0), (8, .d (.i .u64 u))], [(10004, .var [.d (.i .i64 (Int.ofNat 0)), .d (.i .i64 (Int.ofNat 0)), .d (.s [])]), (10007, .var [.d (.i .i64 (kd l a)), .d (.i .i64 (Int.ofNat 0)), .d (.s [])])]⟩, fun st => match look 9 st.env with | some (.d (.i _ i)) => 8 - i.toNat | _ => 0, rfl, ⟨0, _, _, rfl, Nat.zero_le _, ?_, ?_, rfl, rfl⟩, ?_⟩; rotate_right; rintro st ⟨k, i, u, rfl, hk8, h9, hk, hu, rfl⟩; have hA := wrapAt a k (by omega))
        | (refine ⟨[10, 0, 1, 4, 7], [10004, 10007, 10071], fun st => ∃ (p f : Nat) (i : Int) (acc : List UInt8) (xs : List D), i = ((a + p : Nat) : Int) ∧ 1 ≤ p ∧ a + p ≤ l.length ∧ acc.length + 1 ≤ p ∧ s.length ≤ p + f ∧ kd l a = 3 ∧ oneM s = (scanG s f p acc).map (fun p => (⟨kd s 0, 0, p.1⟩, p.2)) ∧ xs = u8s acc ∧ st = ⟨[(10, .own 10071), (0, .d (.s l)), (1, .d (.i .i64 i)), (4, .ptr 10004 0), (7, .ptr 10007 0)], [(10004, .var [.d (.i .i64 (Int.ofNat 0)), .d (.i .i64 (Int.ofNat 0)), .d (.s [])]), (10007, .var [.d (.i .i64 (kd l a)), .d (.i .i64 (Int.ofNat 0)), .d (.s [])]), (10071, .arr 1 false xs)]⟩, fun st => match look 1 st.env with | some (.d (.i _ i)) => l.length - i.toNat | _ => 0, rfl, ⟨1, s.length, _, [], [], ha1, Nat.le_refl _, ha, (by simp), (by omega), ?_, ?_, rfl, rfl⟩, ?_⟩; rotate_right; rintro st ⟨p, f, i, acc, xs, rfl, hp1, hpl, hacc, hpf, hk3, ho, rfl, rfl⟩; have hw := up_small (k := a + p) (n := 20001) (by omega) (by decide))
        | (refine ⟨⟨Int.natCast_nonneg _, (by first | omega | (have := of_decide_eq_true (by assumption : decide (IntKind.i64.wrap (((a + p : Nat) : Int) + 1) < (l.length : Int)) = true); rw [hw] at this; omega))⟩, ?_⟩)
        | (refine ⟨⟨(by rw [hA]; omega), (by rw [hA]; have := lt_of_dec' (by assumption : decide ((k : Int) < ((8 : Nat) : Int)) = true); omega)⟩, ?_⟩)
        | (refine ⟨⟨(by rw [hw]; omega), (by have := of_decide_eq_true (by assumption : decide (IntKind.i64.wrap (((a + p : Nat) : Int) + 1) < (l.length : Int)) = true); omega)⟩, ?_⟩)
        | (refine ⟨⟨(by rw [ha1]; omega), (by have := of_decide_eq_false h; omega)⟩, ?_⟩)
        | refine ⟨_, rfl, ?_⟩
        | (refine ⟨⟨by decide, rfl, rfl, room_add (by unfold u8s; rw [List.length_map]; omega) (by decide)⟩, ?_⟩)
        | fail))
    | ((with_reducible refine isCut ?_) <;> (first
        | refine ⟨⟨none⟩, ?_⟩))
    | ((first | with_reducible refine isEx ?_ | with_reducible refine isAnd ?_ | with_reducible refine isOr ?_) <;> (first
        | (refine ⟨⟨Int.natCast_nonneg _, (by first | omega | (have := of_decide_eq_true (by assumption : decide (IntKind.i64.wrap (((a + p : Nat) : Int) + 1) < (l.length : Int)) = true); rw [hw] at this; omega))⟩, ?_⟩)
        | (refine ⟨⟨(by rw [hA]; omega), (by rw [hA]; have := lt_of_dec' (by assumption : decide ((k : Int) < ((8 : Nat) : Int)) = true); omega)⟩, ?_⟩)
        | (refine ⟨⟨(by rw [hw]; omega), (by have := of_decide_eq_true (by assumption : decide (IntKind.i64.wrap (((a + p : Nat) : Int) + 1) < (l.length : Int)) = true); omega)⟩, ?_⟩)
        | (refine ⟨⟨(by rw [ha1]; omega), (by have := of_decide_eq_false h; omega)⟩, ?_⟩)
        | refine ⟨_, rfl, ?_⟩
        | (refine ⟨⟨by decide, rfl, rfl, room_add (by unfold u8s; rw [List.length_map]; omega) (by decide)⟩, ?_⟩)
        | ((with_reducible refine isSmall ?_) <;> (refine ⟨?_, ?_⟩; kernel_rfl))
        | refine ⟨rfl, ?_⟩
        | refine ⟨Int.natCast_nonneg _, ?_⟩))
    | with_reducible refine Both.mk ?_ ?_
    | rintro _ rfl
    | exact rfl
    | (split <;> (rename_i h; first | (simp only [beq_self_eq_true, eq_self, decide_true, Bool.not_true, Bool.false_eq_true] at h; done) | (try rw [h])))))
  all_goals (conv => whnf)
  all_goals first
    | (refine ⟨⟨kd l a, 0, []⟩, IntKind.i64.wrap ((a : Int) + 1), true, rfl, ?_⟩
       rw [one0 (hk0.trans (of_decide_eq_true h))]; exact ⟨by rw [hk0], ha1, rfl⟩)
    | (refine ⟨⟨kd l a, 0, []⟩, IntKind.i64.wrap ((a : Int) + 1), false, rfl, ?_⟩
       have hq := of_decide_eq_true h
       rw [ha1] at hq
       rw [one1n (hk0.trans (of_decide_eq_true (by assumption))) (by omega)]; rfl)
    | (have hq := of_decide_eq_false h
       refine ⟨⟨kd l a, kd l (a + 1), []⟩, IntKind.i64.wrap (IntKind.i64.wrap ((a : Int) + 1) + 1), true, (by rw [ha1]; rfl), ?_⟩
       rw [ha1] at hq
       rw [one1 (hk0.trans (of_decide_eq_true (by assumption))) (by omega)]; exact ⟨by rw [hk0, hk1], wrapAt a 1 (by omega), rfl⟩)
    | (refine ⟨⟨kd l a, 0, []⟩, IntKind.i64.wrap ((a : Int) + 1), false, rfl, ?_⟩
       have hq := of_decide_eq_true h
       rw [show (8 : Int) = ((8 : Nat) : Int) from rfl, wrapAt a 8 (by omega)] at hq
       rw [one2n (hk0.trans (of_decide_eq_true (by assumption))) (by omega)]; rfl)
    | (have hkk : k < 8 := lt_of_dec' h
       refine ⟨⟨k + 1, _, _, up_small (n := 8) hkk (by decide), hkk, h9, hk, ?_, rfl⟩, mu_up (n := 8) hkk (Nat.le_of_ble_eq_true rfl)⟩
       rw [accU, hg, ← hu, show a + (k + 1) = a + 1 + k by omega, hA]; rfl)
    | (have e : k = 8 := by have := of_decide_eq_false h; omega
       refine ⟨⟨kd l a, numU u, []⟩, IntKind.i64.wrap (IntKind.i64.wrap ((a : Int) + 1) + 8), true, rfl, ?_⟩
       rw [one2 (hk0.trans hk) (by omega), hu, e]; exact ⟨by rw [hk0], wrapAt a 8 (by omega), rfl⟩)
    | (have hq := of_decide_eq_false h
       rw [show (8 : Int) = ((8 : Nat) : Int) from rfl, wrapAt a 8 (by omega)] at hq
       show a + 9 ≤ l.length; omega)
    | exact of_decide_eq_true h
    | exact of_decide_eq_true (by assumption)
    | exact one3 (hk0.trans (of_decide_eq_true h))
    | (refine ⟨⟨kd l a, 0, []⟩, IntKind.i64.wrap ((a : Int) + 1), false, rfl, ?_⟩
       have q0 : ¬ kd l a = 0 := of_decide_eq_false (by assumption)
       have q1 : ¬ kd l a = 1 := of_decide_eq_false (by assumption)
       have q2 : ¬ kd l a = 2 := of_decide_eq_false (by assumption)
       have q3 : ¬ kd l a = 3 := of_decide_eq_false h
       rw [one4 (hk0 ▸ q0) (hk0 ▸ q1) (hk0 ▸ q2) (hk0 ▸ q3)]; rfl)
    | (refine ⟨⟨kd l a, 0, []⟩, ((a + p : Nat) : Int), false, rfl, ?_⟩
       have hq := of_decide_eq_false h
       rw [hw] at hq
       rw [ho, scan_end (by omega)]; rfl)
    | (have hq := of_decide_eq_true (by assumption : decide (IntKind.i64.wrap (((a + p : Nat) : Int) + 1) < (l.length : Int)) = true)
       rw [hw] at hq
       have hc : s.getD p 0 ≠ 0 := by rw [hg]; exact b_nz (of_decide_eq_false (not_ok' h))
       exact ⟨⟨p + 1, f - 1, _, acc ++ [s.getD p 0], _, hw, by omega, by omega, by simp only [List.length_append, List.length_cons, List.length_nil]; omega, by omega, hk3, (by rw [ho, scan_push (by omega) (by omega) hc]), (by rw [hg]; unfold u8s; rw [List.map_append]; rfl), rfl⟩, (by have := mu_up (k := a + p) (n := l.length) (by omega) (Nat.le_trans hl (Nat.le_of_ble_eq_true rfl)); exact this)⟩)
    | (have hq := of_decide_eq_true (by assumption : decide (IntKind.i64.wrap (((a + p : Nat) : Int) + 1) < (l.length : Int)) = true)
       have hc : s.getD p 0 = 0 := by rw [hg]; exact b_zero (of_decide_eq_true (not_ok (by assumption : (!decide (((l.getD (((a + p : Nat) : Int)).toNat 0).toNat : Int) = 0)) = false)))
       rw [hw] at h hq
       have hn : s.getD (p + 1) 0 = 0 := by rw [hg]; exact b_zero (of_decide_eq_true h)
       refine ⟨⟨kd l a, 0, acc⟩, IntKind.i64.wrap (((a + p : Nat) : Int) + 2), true, rfl, ?_⟩
       rw [ho, scan_done (by omega) (by omega) hc hn]
       exact ⟨by rw [hk0], (by rw [wrap_i64_id _ (by omega) (by omega)]; omega), rfl⟩)
    | (have hc : s.getD p 0 = 0 := by rw [hg]; exact b_zero (of_decide_eq_true (not_ok (by assumption : (!decide (((l.getD (((a + p : Nat) : Int)).toNat 0).toNat : Int) = 0)) = false)))
       have hb := (by assumption : decide (((l.getD (IntKind.i64.wrap (((a + p : Nat) : Int) + 1)).toNat 0).toNat : Int) = 0) = false)
       rw [hw] at h hb
       refine ⟨⟨kd l a, 0, []⟩, ((a + p : Nat) : Int), false, rfl, ?_⟩
       rw [ho, scan_bad hc (by rw [hg]; exact b_nz (of_decide_eq_false hb)) (by rw [hg]; exact b_n255 (of_decide_eq_false (not_ok' h)))]; rfl)
    | (have hq := of_decide_eq_true (by assumption : decide (IntKind.i64.wrap (((a + p : Nat) : Int) + 1) < (l.length : Int)) = true)
       have hc : s.getD p 0 = 0 := by rw [hg]; exact b_zero (of_decide_eq_true (not_ok (by assumption : (!decide (((l.getD (((a + p : Nat) : Int)).toNat 0).toNat : Int) = 0)) = false)))
       rw [hw] at h hq
       have hn : s.getD (p + 1) 0 = 255 := by rw [hg]; exact b_255 (of_decide_eq_true (not_ok h))
       have hi2 : IntKind.i64.wrap (((a + p : Nat) : Int) + 2) = ((a + (p + 2) : Nat) : Int) := by rw [wrap_i64_id _ (by omega) (by omega)]; omega
       have hm : l.length - (IntKind.i64.wrap (((a + p : Nat) : Int) + 2)).toNat < l.length - (((a + p : Nat) : Int)).toNat := by rw [hi2]; omega
       exact ⟨⟨p + 2, f - 1, _, acc ++ [0], _, hi2, by omega, by omega, by simp only [List.length_append, List.length_cons, List.length_nil]; omega, by omega, hk3, (by rw [ho, scan_zero (by omega) (by omega) hc hn]), (by unfold u8s; rw [List.map_append]; rfl), rfl⟩, hm⟩)
    | trace_state
end Go.Pm.Tryz
/-
Values: which are right.
-/
namespace Go.Pm.Tryz
open Go Go.Proofs
set_option linter.unusedVariables false
set_option linter.unusedSimpArgs false
set_option maxRecDepth 100000
def valueP (v : Val) : Prop := (v.kind = 0 ∧ v.n = 0 ∧ v.text = []) ∨ (v.kind = 1 ∧ (0 ≤ v.n ∧ v.n ≤ 1) ∧ v.text = []) ∨ (v.kind = 2 ∧ v.text = []) ∨ (v.kind = 3 ∧ v.n = 0 ∧ v.text.length ≤ 200)
theorem specValueRight (v : Val) : Ent Tryz.prog 246 [.d (valD v)] [] (.d (.b (dec (valueP v)))) [] := by
  obtain ⟨o, ho⟩ : ∃ o, o = dec (valueP v) := ⟨_, rfl⟩
  rw [← ho]
  rcases v with ⟨k, n, t⟩
  refine ent_of tok mixed (f := 246) Tryz.func246 (by kernel_rfl) (keep := false) ?_
  repeat' ((conv => whnf) <;> (first
    | ((with_reducible refine isCall ?_) <;> (first
        | fail))
    | ((with_reducible refine isLoop ?_) <;> (first
        | fail))
    | ((with_reducible refine isCut ?_) <;> (first
        | refine ⟨⟨none⟩, ?_⟩))
    | ((first | with_reducible refine isEx ?_ | with_reducible refine isAnd ?_ | with_reducible refine isOr ?_) <;> (first
        | ((with_reducible refine isSmall ?_) <;> (refine ⟨?_, ?_⟩; kernel_rfl))
        | refine ⟨rfl, ?_⟩
        | refine ⟨Int.natCast_nonneg _, ?_⟩))
    | with_reducible refine Both.mk ?_ ?_
    | rintro _ rfl
    | exact rfl
    | (split <;> (rename_i h; first | (simp only [beq_self_eq_true, eq_self, decide_true, Bool.not_true, Bool.false_eq_true] at h; done) | (try rw [h])))))
  all_goals (conv => whnf)
  all_goals (refine ret_b ho ?_; simp only [valueP] at *; simp_all <;> omega)
theorem implValueRight (v : Val) : Ent Tryz.prog 210 [.d (valD v)] [] (.d (.b (dec (valueP v)))) [] := by
  obtain ⟨o, ho⟩ : ∃ o, o = dec (valueP v) := ⟨_, rfl⟩
  rw [← ho]
  rcases v with ⟨k, n, t⟩
  refine ent_of tok mixed (f := 210) Tryz.func210 (by kernel_rfl) (keep := false) ?_
  repeat' ((conv => whnf) <;> (first
    | ((with_reducible refine isCall ?_) <;> (first
        | (refine ⟨_, within _ _ _, ?_⟩; rintro _ _ ⟨rfl, rfl⟩)
        | fail))
    | ((with_reducible refine isLoop ?_) <;> (first
        | fail))
    | ((with_reducible refine isCut ?_) <;> (first
        | refine ⟨⟨none⟩, ?_⟩))
    | ((first | with_reducible refine isEx ?_ | with_reducible refine isAnd ?_ | with_reducible refine isOr ?_) <;> (first
        | ((with_reducible refine isSmall ?_) <;> (refine ⟨?_, ?_⟩; kernel_rfl))
        | refine ⟨rfl, ?_⟩
        | refine ⟨Int.natCast_nonneg _, ?_⟩))
    | with_reducible refine Both.mk ?_ ?_
    | rintro _ rfl
    | exact rfl
    | (split <;> (rename_i h; first | (simp only [beq_self_eq_true, eq_self, decide_true, Bool.not_true, Bool.false_eq_true] at h; done) | (try rw [h])))))
  all_goals (conv => whnf)
  all_goals (refine ret_b ho ?_; simp only [valueP] at *; simp_all [inside] <;> omega)
end Go.Pm.Tryz
/-
Keys: lists of values.
-/
namespace Go.Pm.Tryz
open Go Go.Proofs
set_option linter.unusedVariables false
set_option linter.unusedSimpArgs false
set_option maxRecDepth 100000
noncomputable def readV : Nat → List UInt8 → List Val → Option (List Val)
  | 0, _, _ => none
  | f + 1, s, acc => if s = [] then some acc else match oneM s with
    | none => none
    | some (v, n) => match dec (valueP v) && decide (acc.length < 12) with | true => readV f (s.drop n) (acc ++ [v]) | false => none
def codeOf : Option (List Val) → Int
  | some _ => 0
  | none => 3
def valsOf : Option (List Val) → List Val
  | some vs => vs
  | none => []
noncomputable def keyM (l : List UInt8) : Option (List Val) := readV (l.length + 1) l []
theorem oneM_bad {len : Nat} {v : Val} {n : Int} {o : Option (Val × Nat)} (h : OneQ len v n o) (hn : n < 0) : o = none := by
  cases o with
  | none => rfl
  | some p => obtain ⟨w, m⟩ := p; obtain ⟨_, h2, h3, _⟩ := h; omega
theorem oneM_good {len : Nat} {v : Val} {n : Int} {o : Option (Val × Nat)} (h : OneQ len v n o) (hn : ¬ n < 0) : ∃ m : Nat, o = some (v, m) ∧ n = m ∧ 0 < m ∧ m ≤ len := by
  cases o with
  | none => exfalso; have : n = -1 := h; omega
  | some p => obtain ⟨w, m⟩ := p; obtain ⟨rfl, h2, h3, h4⟩ := h; exact ⟨m, rfl, h2, h3, h4⟩
theorem readV_end {f : Nat} {acc : List Val} (hf : 0 < f) : readV f [] acc = some acc := by
  obtain ⟨g, rfl⟩ : ∃ g, f = g + 1 := ⟨f - 1, by omega⟩
  rw [readV, if_pos rfl]
theorem readV_bad {f : Nat} {s : List UInt8} {acc : List Val} (hs : ¬ s = []) (h : oneM s = none) : readV f s acc = none := by
  cases f with
  | zero => rfl
  | succ f => rw [readV, if_neg hs, h]
theorem readV_no {f : Nat} {s : List UInt8} {acc : List Val} {v : Val} {n : Nat} (hs : ¬ s = []) (h : oneM s = some (v, n)) (hb : (dec (valueP v) && decide (acc.length < 12)) = false) : readV f s acc = none := by
  cases f with
  | zero => rfl
  | succ f => rw [readV, if_neg hs, h]; simp only [hb]
theorem readV_yes {f : Nat} {s : List UInt8} {acc : List Val} {v : Val} {n : Nat} (hf : 0 < f) (hs : ¬ s = []) (h : oneM s = some (v, n)) (hb : (dec (valueP v) && decide (acc.length < 12)) = true) : readV f s acc = readV (f - 1) (s.drop n) (acc ++ [v]) := by
  obtain ⟨g, rfl⟩ : ∃ g, f = g + 1 := ⟨f - 1, by omega⟩
  rw [readV, if_neg hs, h]; simp only [hb, Nat.add_sub_cancel]
set_option maxHeartbeats 4000000 in
theorem implKeyRead (l : List UInt8) (hl : l.length ≤ 20000) : EntQ Tryz.prog 202 [.d (.s l)] [] (fun R O => R = .agg [.own 0, .d (.i .i64 (codeOf (keyM l)))] ∧ O = [.arr 3 false ((valsOf (keyM l)).map valD)]) := by
  have c0 := isLong [l] (Nat.le_of_ble_eq_true rfl)
  have hb : longs [l] = false := by
    simp only [longs, List.any_cons, List.any_nil, Bool.or_false]; exact decide_eq_false (by omega)
  rw [hb] at c0
  obtain ⟨o, ho⟩ : ∃ o, o = keyM l := ⟨_, rfl⟩
  rw [← ho]
  refine ent_ofN (cx := ⟨tab, [], []⟩) tok mixed (f := 202) Tryz.func202 (by kernel_rfl) (keep := true) (nm := [.cell 20002 3 false 10002 0]) ?_
  repeat' ((conv => whnf) <;> (first
    | ((with_reducible refine isCall ?_) <;> (first
        | (refine ⟨_, c0, ?_⟩; rintro _ _ ⟨rfl, rfl⟩)
        | (refine ⟨_, keyOne s hsl (List.length_pos_iff.2 (of_decide_eq_false (not_ok' (by assumption : (!decide (s = [])) = true)))), ?_⟩; rintro _ _ ⟨rfl, v, n, rfl, hq⟩)
        | (refine ⟨_, implValueRight _, ?_⟩; rintro _ _ ⟨rfl, rfl⟩)
        | (refine ⟨⟨by decide, rfl, rfl, room_add (by rw [List.length_map]; omega) (by decide)⟩, ?_⟩)
        | (refine ⟨(by obtain ⟨m, _, h2, h3, h4⟩ := oneM_good hq (of_decide_eq_false (by assumption)); omega), ?_⟩)
        | fail))
    | ((with_reducible refine isLoop ?_) <;> (first
        | (refine ⟨[0, 2, 3], [10002, 10010], fun st => ∃ (f : Nat) (s : List UInt8) (acc : List Val) (xs : List D), s.length ≤ 20000 ∧ s.length < f ∧ acc.length ≤ 12 ∧ o = readV f s acc ∧ xs = acc.map valD ∧ st = ⟨[(0, .d (.s s)), (2, .ptr 10002 0), (3, .own 10010)], [(10002, .var [.snil, .d (.i .i64 (Int.ofNat 0))]), (10010, .arr 3 false xs)]⟩, fun st => match look 0 st.env with | some (.d (.s s)) => s.length | _ => 0, rfl, ⟨l.length + 1, l, [], _, hl, Nat.lt_succ_self _, by decide, ho, rfl, rfl⟩, ?_⟩; rintro st ⟨f, s, acc, xs, hsl, hsf, hacc, hr, rfl, rfl⟩)
        | (refine ⟨⟨by decide, rfl, rfl, room_add (by rw [List.length_map]; omega) (by decide)⟩, ?_⟩)
        | (refine ⟨(by obtain ⟨m, _, h2, h3, h4⟩ := oneM_good hq (of_decide_eq_false (by assumption)); omega), ?_⟩)
        | fail))
    | ((with_reducible refine isCut ?_) <;> (first
        | refine ⟨⟨none⟩, ?_⟩))
    | ((first | with_reducible refine isEx ?_ | with_reducible refine isAnd ?_ | with_reducible refine isOr ?_) <;> (first
        | (refine ⟨⟨by decide, rfl, rfl, room_add (by rw [List.length_map]; omega) (by decide)⟩, ?_⟩)
        | (refine ⟨(by obtain ⟨m, _, h2, h3, h4⟩ := oneM_good hq (of_decide_eq_false (by assumption)); omega), ?_⟩)
        | ((with_reducible refine isSmall ?_) <;> (refine ⟨?_, ?_⟩; kernel_rfl))
        | refine ⟨rfl, ?_⟩
        | refine ⟨Int.natCast_nonneg _, ?_⟩))
    | with_reducible refine Both.mk ?_ ?_
    | rintro _ rfl
    | exact rfl
    | (split <;> (rename_i h; first | (simp only [beq_self_eq_true, eq_self, decide_true, Bool.not_true, Bool.false_eq_true] at h; done) | (try rw [h])))))
  all_goals (conv => whnf)
  all_goals first
    | (rw [hr, readV_bad (of_decide_eq_false (not_ok' (by assumption : (!decide (s = [])) = true))) (oneM_bad hq (of_decide_eq_true h))]; exact ⟨rfl, rfl⟩)
    | (obtain ⟨m, h1, _⟩ := oneM_good hq (of_decide_eq_false (by assumption))
       rw [hr, readV_no (of_decide_eq_false (not_ok' (by assumption : (!decide (s = [])) = true))) h1 (by rw [not_ok' h, Bool.false_and])]; exact ⟨rfl, rfl⟩)
    | (obtain ⟨m, h1, _⟩ := oneM_good hq (of_decide_eq_false (by assumption))
       have hq12 := of_decide_eq_true h
       rw [List.length_map] at hq12
       rw [hr, readV_no (of_decide_eq_false (not_ok' (by assumption : (!decide (s = [])) = true))) h1 (by rw [decide_eq_false (by omega : ¬ acc.length < 12), Bool.and_false])]; exact ⟨rfl, rfl⟩)
    | (have e : s = [] := of_decide_eq_true (not_ok h)
       rw [hr, e, readV_end (by omega)]; exact ⟨rfl, rfl⟩)
    | (obtain ⟨m, h1, h2, h3, h4⟩ := oneM_good hq (of_decide_eq_false (by assumption))
       have hq12 := of_decide_eq_false h
       rw [List.length_map] at hq12
       have hy := readV_yes (f := f) (acc := acc) (by omega) (of_decide_eq_false (not_ok' (by assumption : (!decide (s = [])) = true))) h1 (by rw [not_ok (by assumption : (!dec (valueP v)) = false), decide_eq_true (by omega : acc.length < 12)]; rfl)
       have e : (s.take s.length).drop n.toNat = s.drop m := by rw [h2, List.take_length]; rfl
       have hl2 : ((s.take s.length).drop n.toNat).length < s.length := by rw [e, List.length_drop]; omega
       exact ⟨⟨f - 1, (s.take s.length).drop n.toNat, acc ++ [v], _, by omega, by omega, by simp only [List.length_append, List.length_cons, List.length_nil]; omega, by rw [hr, hy, e], by rw [List.map_append]; rfl, rfl⟩, hl2⟩)
    | trace_state
end Go.Pm.Tryz
