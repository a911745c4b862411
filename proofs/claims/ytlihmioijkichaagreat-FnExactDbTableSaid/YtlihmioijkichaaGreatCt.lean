/-
Values in a key.
-/
import Derived.Test.YtlihmioijkichaaGreatCq
namespace Go.Pm.Tryz
open Go Go.Proofs
set_option linter.unusedVariables false
set_option linter.unusedSimpArgs false
set_option maxRecDepth 100000
structure Val where
  kind : Int
  n : Int
  text : List UInt8
def valD (v : Val) : D := .agg [.i .i64 v.kind, .i .i64 v.n, .s v.text]
def kd (s : List UInt8) (k : Nat) : Int := IntKind.i64.wrap ((s.getD k 0).toNat : Int)
def shU (u b : Int) : Int := match bitD .u64 (fun x y => x ||| y) (IntKind.u64.wrap (u * 2 ^ min (Int.toNat 8) IntKind.u64.bits)) (IntKind.u64.wrap b) with | .i _ n => n | _ => 0
def accU (s : List UInt8) : Nat → Int
  | 0 => 0
  | k + 1 => shU (accU s k) ((s.getD (k + 1) 0).toNat : Int)
def numU (u : Int) : Int := match bitD .u64 (fun x y => x ^^^ y) u 9223372036854775808 with | .i _ n => IntKind.i64.wrap n | _ => 0
/-- A text in a key, from p on; how many bytes. -/
def scanG (s : List UInt8) : Nat → Nat → List UInt8 → Option (List UInt8 × Nat)
  | 0, _, _ => none
  | f + 1, p, acc =>
    if p + 1 < s.length then
      if s.getD p 0 ≠ 0 then scanG s f (p + 1) (acc ++ [s.getD p 0])
      else if s.getD (p + 1) 0 = 0 then some (acc, p + 2)
      else if s.getD (p + 1) 0 = 255 then scanG s f (p + 2) (acc ++ [0]) else none
    else none
def oneM (s : List UInt8) : Option (Val × Nat) :=
  if kd s 0 = 0 then some (⟨kd s 0, 0, []⟩, 1)
  else if kd s 0 = 1 then (if s.length < 2 then none else some (⟨kd s 0, kd s 1, []⟩, 2))
  else if kd s 0 = 2 then (if s.length < 9 then none else some (⟨kd s 0, numU (accU s 8), []⟩, 9))
  else if kd s 0 = 3 then (scanG s s.length 1 []).map fun p => (⟨kd s 0, 0, p.1⟩, p.2)
  else none
theorem byte_ne {a b : UInt8} : decide ((a.toNat : Int) = (b.toNat : Int)) = decide (a = b) := by
  by_cases h : a = b
  · subst h; simp
  · rw [decide_eq_false h]; exact decide_eq_false fun e => h (UInt8.toNat_inj.1 (by omega))
theorem one0 {s : List UInt8} (h : kd s 0 = 0) : oneM s = some (⟨kd s 0, 0, []⟩, 1) := by rw [oneM, if_pos h]
theorem one1n {s : List UInt8} (h : kd s 0 = 1) (hl : s.length < 2) : oneM s = none := by rw [oneM, if_neg (by omega), if_pos h, if_pos hl]
theorem one1 {s : List UInt8} (h : kd s 0 = 1) (hl : ¬ s.length < 2) : oneM s = some (⟨kd s 0, kd s 1, []⟩, 2) := by rw [oneM, if_neg (by omega), if_pos h, if_neg hl]
theorem one2n {s : List UInt8} (h : kd s 0 = 2) (hl : s.length < 9) : oneM s = none := by rw [oneM, if_neg (by omega), if_neg (by omega), if_pos h, if_pos hl]
theorem one2 {s : List UInt8} (h : kd s 0 = 2) (hl : 9 ≤ s.length) : oneM s = some (⟨kd s 0, numU (accU s 8), []⟩, 9) := by rw [oneM, if_neg (by omega), if_neg (by omega), if_pos h, if_neg (by omega)]
theorem one3 {s : List UInt8} (h : kd s 0 = 3) : oneM s = (scanG s s.length 1 []).map fun p => (⟨kd s 0, 0, p.1⟩, p.2) := by rw [oneM, if_neg (by omega), if_neg (by omega), if_neg (by omega), if_pos h]
theorem one4 {s : List UInt8} (h0 : kd s 0 ≠ 0) (h1 : kd s 0 ≠ 1) (h2 : kd s 0 ≠ 2) (h3 : kd s 0 ≠ 3) : oneM s = none := by rw [oneM, if_neg h0, if_neg h1, if_neg h2, if_neg h3]
theorem b_zero {c : UInt8} (h : ((c.toNat : Nat) : Int) = 0) : c = 0 := UInt8.toNat_inj.1 (by show c.toNat = 0; omega)
theorem b_255 {c : UInt8} (h : ((c.toNat : Nat) : Int) = 255) : c = 255 := UInt8.toNat_inj.1 (by show c.toNat = 255; omega)
theorem b_nz {c : UInt8} (h : ¬ ((c.toNat : Nat) : Int) = 0) : c ≠ 0 := fun e => h (by rw [e]; rfl)
theorem b_n255 {c : UInt8} (h : ¬ ((c.toNat : Nat) : Int) = 255) : c ≠ 255 := fun e => h (by rw [e]; rfl)
theorem scan_end {s : List UInt8} {f p : Nat} {acc : List UInt8} (h : ¬ p + 1 < s.length) : scanG s f p acc = none := by
  cases f with
  | zero => rfl
  | succ f => rw [scanG, if_neg h]
theorem scan_push {s : List UInt8} {f p : Nat} {acc : List UInt8} (hf : 0 < f) (h : p + 1 < s.length) (hc : s.getD p 0 ≠ 0) : scanG s f p acc = scanG s (f - 1) (p + 1) (acc ++ [s.getD p 0]) := by
  obtain ⟨g, rfl⟩ : ∃ g, f = g + 1 := ⟨f - 1, by omega⟩
  rw [scanG, if_pos h, if_pos hc, Nat.add_sub_cancel]
theorem scan_done {s : List UInt8} {f p : Nat} {acc : List UInt8} (hf : 0 < f) (h : p + 1 < s.length) (hc : s.getD p 0 = 0) (hn : s.getD (p + 1) 0 = 0) : scanG s f p acc = some (acc, p + 2) := by
  obtain ⟨g, rfl⟩ : ∃ g, f = g + 1 := ⟨f - 1, by omega⟩
  rw [scanG, if_pos h, if_neg (fun e => e hc), if_pos hn]
theorem scan_zero {s : List UInt8} {f p : Nat} {acc : List UInt8} (hf : 0 < f) (h : p + 1 < s.length) (hc : s.getD p 0 = 0) (hn : s.getD (p + 1) 0 = 255) : scanG s f p acc = scanG s (f - 1) (p + 2) (acc ++ [0]) := by
  obtain ⟨g, rfl⟩ : ∃ g, f = g + 1 := ⟨f - 1, by omega⟩
  rw [scanG, if_pos h, if_neg (fun e => e hc), if_neg (by rw [hn]; decide), if_pos hn, Nat.add_sub_cancel]
theorem scan_bad {s : List UInt8} {f p : Nat} {acc : List UInt8} (hc : s.getD p 0 = 0) (hn : s.getD (p + 1) 0 ≠ 0) (hn2 : s.getD (p + 1) 0 ≠ 255) : scanG s f p acc = none := by
  cases f with
  | zero => rfl
  | succ f =>
    by_cases h : p + 1 < s.length
    · rw [scanG, if_pos h, if_neg (fun e => e hc), if_neg hn, if_neg hn2]
    · exact scan_end h
def OneQ (len : Nat) (v : Val) (n : Int) : Option (Val × Nat) → Prop
  | some (w, m) => v = w ∧ n = m ∧ 0 < m ∧ m ≤ len
  | none => n = -1
def OneR (s : List UInt8) (R : AV) (O : List Ob) : Prop := O = [] ∧ ∃ v n, R = .tup [.d (valD v), .d (.i .i64 n)] ∧ OneQ s.length v n (oneM s)
theorem up_small {k n : Nat} (h : k < n) (hn : n ≤ 1000000) : IntKind.i64.wrap ((k : Int) + 1) = ((k + 1 : Nat) : Int) := step_up h (Nat.le_trans hn (Nat.le_of_ble_eq_true rfl))
set_option maxHeartbeats 4000000 in
theorem keyOne (s : List UInt8) (hl : s.length ≤ 20000) (h0 : 0 < s.length) : EntQ Tryz.prog 266 [.d (.s s)] [] (OneR s) := by
  refine ent_of tok mixed (f := 266) Tryz.func266 (by kernel_rfl) (keep := false) ?_
  repeat' ((conv => whnf) <;> (first
    | ((with_reducible refine isCall ?_) <;> (first
        | (refine ⟨⟨Int.natCast_nonneg _, (by have := of_decide_eq_true (by assumption : decide ((k : Int) < 9) = true); omega)⟩, ?_⟩)
        | (refine ⟨⟨Int.natCast_nonneg _, (by have := of_decide_eq_true (by assumption : decide (IntKind.i64.wrap ((p : Int) + 1) < (s.length : Int)) = true); rw [hw] at this; omega)⟩, ?_⟩)
        | (refine ⟨⟨(by rw [hw]; omega), (by have := of_decide_eq_true (by assumption : decide (IntKind.i64.wrap ((p : Int) + 1) < (s.length : Int)) = true); omega)⟩, ?_⟩)
        | (refine ⟨⟨by decide, (by have := of_decide_eq_false h; omega)⟩, ?_⟩)
        | refine ⟨_, rfl, ?_⟩
        | (refine ⟨⟨by decide, rfl, rfl, room_add (by unfold u8s; rw [List.length_map]; omega) (by decide)⟩, ?_⟩)
        | (refine ⟨⟨by decide, by omega⟩, ?_⟩)
        | fail))
    | ((with_reducible refine isLoop ?_) <;> (first
        | (refine ⟨[6, 0, 2, 4, 5], [10002, 10004], fun st => ∃ (k : Nat) (i u : Int), i = k ∧ 1 ≤ k ∧ k ≤ 9 ∧ 9 ≤ s.length ∧ kd s 0 = 2 ∧ u = accU s (k - 1) ∧ st = ⟨[(6, .d (.i .i64 i)), (0, .d (.s s)), (2, .ptr 10002 0), (4, .ptr 10004 0), (5, .d (.i .u64 u))], [(10002, .var [.d (.i .i64 (Int.ofNat 0)), .d (.i .i64 (Int.ofNat 0)), .d (.s [])]), (10004, .var [.d (.i .i64 (kd s 0)), .d (.i .i64 (Int.ofNat 0)), .d (.s [])])]⟩, fun st => match look 6 st.env with | some (.d (.i _ i)) => 9 - i.toNat | _ => 0, rfl, ⟨1, _, _, rfl, Nat.le_refl _, (by decide), ?_, ?_, rfl, rfl⟩, ?_⟩; rotate_right; rintro st ⟨k, i, u, rfl, hk1, hk9, h9, hk, hu, rfl⟩)
        | (refine ⟨[8, 0, 2, 4, 7], [10002, 10004, 10053], fun st => ∃ (p f : Nat) (i : Int) (acc : List UInt8) (xs : List D), i = p ∧ 1 ≤ p ∧ p ≤ s.length ∧ acc.length + 1 ≤ p ∧ s.length ≤ p + f ∧ kd s 0 = 3 ∧ oneM s = (scanG s f p acc).map (fun p => (⟨kd s 0, 0, p.1⟩, p.2)) ∧ xs = u8s acc ∧ st = ⟨[(8, .d (.i .i64 i)), (0, .d (.s s)), (2, .ptr 10002 0), (4, .ptr 10004 0), (7, .own 10053)], [(10002, .var [.d (.i .i64 (Int.ofNat 0)), .d (.i .i64 (Int.ofNat 0)), .d (.s [])]), (10004, .var [.d (.i .i64 (kd s 0)), .d (.i .i64 (Int.ofNat 0)), .d (.s [])]), (10053, .arr 1 false xs)]⟩, fun st => match look 8 st.env with | some (.d (.i _ i)) => s.length - i.toNat | _ => 0, rfl, ⟨1, s.length, _, [], [], rfl, Nat.le_refl _, h0, (by simp), (by omega), ?_, ?_, rfl, rfl⟩, ?_⟩; rotate_right; rintro st ⟨p, f, i, acc, xs, rfl, hp1, hpl, hacc, hpf, hk3, ho, rfl, rfl⟩; have hw := up_small (k := p) (n := 20001) (by omega) (by decide))
        | (refine ⟨⟨Int.natCast_nonneg _, (by have := of_decide_eq_true (by assumption : decide ((k : Int) < 9) = true); omega)⟩, ?_⟩)
        | (refine ⟨⟨Int.natCast_nonneg _, (by have := of_decide_eq_true (by assumption : decide (IntKind.i64.wrap ((p : Int) + 1) < (s.length : Int)) = true); rw [hw] at this; omega)⟩, ?_⟩)
        | (refine ⟨⟨(by rw [hw]; omega), (by have := of_decide_eq_true (by assumption : decide (IntKind.i64.wrap ((p : Int) + 1) < (s.length : Int)) = true); omega)⟩, ?_⟩)
        | (refine ⟨⟨by decide, (by have := of_decide_eq_false h; omega)⟩, ?_⟩)
        | refine ⟨_, rfl, ?_⟩
        | (refine ⟨⟨by decide, rfl, rfl, room_add (by unfold u8s; rw [List.length_map]; omega) (by decide)⟩, ?_⟩)
        | (refine ⟨⟨by decide, by omega⟩, ?_⟩)
        | fail))
    | ((with_reducible refine isCut ?_) <;> (first
        | refine ⟨⟨none⟩, ?_⟩))
    | ((first | with_reducible refine isEx ?_ | with_reducible refine isAnd ?_ | with_reducible refine isOr ?_) <;> (first
        | (refine ⟨⟨Int.natCast_nonneg _, (by have := of_decide_eq_true (by assumption : decide ((k : Int) < 9) = true); omega)⟩, ?_⟩)
        | (refine ⟨⟨Int.natCast_nonneg _, (by have := of_decide_eq_true (by assumption : decide (IntKind.i64.wrap ((p : Int) + 1) < (s.length : Int)) = true); rw [hw] at this; omega)⟩, ?_⟩)
        | (refine ⟨⟨(by rw [hw]; omega), (by have := of_decide_eq_true (by assumption : decide (IntKind.i64.wrap ((p : Int) + 1) < (s.length : Int)) = true); omega)⟩, ?_⟩)
        | (refine ⟨⟨by decide, (by have := of_decide_eq_false h; omega)⟩, ?_⟩)
        | refine ⟨_, rfl, ?_⟩
        | (refine ⟨⟨by decide, rfl, rfl, room_add (by unfold u8s; rw [List.length_map]; omega) (by decide)⟩, ?_⟩)
        | (refine ⟨⟨by decide, by omega⟩, ?_⟩)
        | ((with_reducible refine isSmall ?_) <;> (refine ⟨?_, ?_⟩; kernel_rfl))
        | refine ⟨rfl, ?_⟩
        | refine ⟨Int.natCast_nonneg _, ?_⟩))
    | with_reducible refine Both.mk ?_ ?_
    | rintro _ rfl
    | exact rfl
    | (split <;> (rename_i h; first | (simp only [beq_self_eq_true, eq_self, decide_true, Bool.not_true, Bool.false_eq_true] at h; done) | (try rw [h])))))
  all_goals (conv => whnf)
  all_goals first
    | (refine ⟨⟨kd s 0, 0, []⟩, 1, rfl, ?_⟩
       rw [one0 (of_decide_eq_true h)]; exact ⟨rfl, rfl, by decide, h0⟩)
    | (refine ⟨⟨kd s 0, 0, []⟩, -1, rfl, ?_⟩
       rw [one1n (of_decide_eq_true (by assumption)) (by have := of_decide_eq_true h; omega)]; rfl)
    | (refine ⟨⟨kd s 0, kd s 1, []⟩, 2, rfl, ?_⟩
       have hq := of_decide_eq_false h
       rw [one1 (of_decide_eq_true (by assumption)) (by omega)]; exact ⟨rfl, rfl, by decide, by omega⟩)
    | (refine ⟨⟨kd s 0, 0, []⟩, -1, rfl, ?_⟩
       rw [one2n (of_decide_eq_true (by assumption)) (by have := of_decide_eq_true h; omega)]; rfl)
    | (have hkk : k < 9 := lt_of_dec' h
       refine ⟨⟨k + 1, _, _, up_small (n := 9) hkk (by decide), by omega, hkk, h9, hk, ?_, rfl⟩, mu_up (n := 9) hkk (Nat.le_of_ble_eq_true rfl)⟩
       obtain ⟨m, rfl⟩ : ∃ m, k = m + 1 := ⟨k - 1, by omega⟩
       rw [hu]; rfl)
    | (have e : k = 9 := by have := of_decide_eq_false h; omega
       refine ⟨⟨kd s 0, numU u, []⟩, 9, rfl, ?_⟩
       rw [one2 hk h9, hu, e]; exact ⟨rfl, rfl, by decide, h9⟩)
    | (have := of_decide_eq_false h; show 9 ≤ s.length; omega)
    | exact of_decide_eq_true h
    | exact of_decide_eq_true (by assumption)
    | exact one3 (of_decide_eq_true h)
    | (refine ⟨⟨kd s 0, 0, []⟩, -1, rfl, ?_⟩
       rw [one4 (of_decide_eq_false (by assumption)) (of_decide_eq_false (by assumption)) (of_decide_eq_false (by assumption)) (of_decide_eq_false h)]; rfl)
    | (refine ⟨⟨kd s 0, 0, []⟩, -1, rfl, ?_⟩
       have hq := of_decide_eq_false h
       rw [hw] at hq
       rw [ho, scan_end (by omega)]; rfl)
    | (have hq := of_decide_eq_true (by assumption : decide (IntKind.i64.wrap ((p : Int) + 1) < (s.length : Int)) = true)
       rw [hw] at hq
       have hc : s.getD p 0 ≠ 0 := b_nz (of_decide_eq_false (not_ok' h))
       exact ⟨⟨p + 1, f - 1, _, acc ++ [s.getD p 0], _, hw, by omega, by omega, by simp only [List.length_append, List.length_cons, List.length_nil]; omega, by omega, hk3, (by rw [ho, scan_push (by omega) (by omega) hc]), (by unfold u8s; rw [List.map_append]; rfl), rfl⟩, (by have := mu_up (k := p) (n := s.length) (by omega) (Nat.le_trans hl (Nat.le_of_ble_eq_true rfl)); exact this)⟩)
    | (have hq := of_decide_eq_true (by assumption : decide (IntKind.i64.wrap ((p : Int) + 1) < (s.length : Int)) = true)
       have hc : s.getD p 0 = 0 := b_zero (of_decide_eq_true (not_ok (by assumption : (!decide (((s.getD ((p : Int)).toNat 0).toNat : Int) = 0)) = false)))
       rw [hw] at h hq
       have hn : s.getD (p + 1) 0 = 0 := b_zero (of_decide_eq_true h)
       refine ⟨⟨kd s 0, 0, acc⟩, IntKind.i64.wrap ((p : Int) + 2), rfl, ?_⟩
       rw [ho, scan_done (by omega) (by omega) hc hn]
       exact ⟨rfl, (by rw [wrap_i64_id _ (by omega) (by omega)]; rfl), by omega, by omega⟩)
    | (have hq := of_decide_eq_true (by assumption : decide (IntKind.i64.wrap ((p : Int) + 1) < (s.length : Int)) = true)
       have hc : s.getD p 0 = 0 := b_zero (of_decide_eq_true (not_ok (by assumption : (!decide (((s.getD ((p : Int)).toNat 0).toNat : Int) = 0)) = false)))
       have hw2 := up_small (k := p + 1) (n := 20002) (by omega) (by decide)
       have hm : s.length - (IntKind.i64.wrap (IntKind.i64.wrap ((p : Int) + 1) + 1)).toNat < s.length - ((p : Int)).toNat := by rw [hw, hw2]; rw [hw] at hq; omega
       have hi2 : IntKind.i64.wrap (IntKind.i64.wrap ((p : Int) + 1) + 1) = ((p + 1 + 1 : Nat) : Int) := by rw [hw, hw2]
       rw [hw] at h hq
       have hn : s.getD (p + 1) 0 = 255 := b_255 (of_decide_eq_true h)
       exact ⟨⟨p + 1 + 1, f - 1, _, acc ++ [0], _, hi2, by omega, by omega, by simp only [List.length_append, List.length_cons, List.length_nil]; omega, by omega, hk3, (by rw [ho, scan_zero (by omega) (by omega) hc hn]), (by unfold u8s; rw [List.map_append]; rfl), rfl⟩, hm⟩)
    | (have hc : s.getD p 0 = 0 := b_zero (of_decide_eq_true (not_ok (by assumption : (!decide (((s.getD ((p : Int)).toNat 0).toNat : Int) = 0)) = false)))
       have hb := (by assumption : decide (((s.getD (IntKind.i64.wrap ((p : Int) + 1)).toNat 0).toNat : Int) = 0) = false)
       rw [hw] at h hb
       refine ⟨⟨kd s 0, 0, []⟩, -1, rfl, ?_⟩
       rw [ho, scan_bad hc (b_nz (of_decide_eq_false hb)) (b_n255 (of_decide_eq_false h))]; rfl)
    | trace_state
end Go.Pm.Tryz
