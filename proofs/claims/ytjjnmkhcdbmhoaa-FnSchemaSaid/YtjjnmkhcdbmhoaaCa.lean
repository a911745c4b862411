/-
Plain laws that the walks of all functions use.
-/
import Derived.Test.YtjjnmkhcdbmhoaaPmT
import Derived.Test.YtjjnmkhcdbmhoaaPmQ
import Derived.Test.YtjjnmkhcdbmhoaaPmLb
import Derived.Test.YtjjnmkhcdbmhoaaChecked
import Derived.Test.YtjjnmkhcdbmhoaaRows
import Derived.ProofKit
import Derived.OpenShut
import Derived.SizedLaws
namespace Go.Pm.Try
open Go Go.Proofs
set_option linter.unusedVariables false
set_option linter.unusedSimpArgs false
set_option maxRecDepth 100000
def inside (x lo hi : Int) : Bool := decide (lo ≤ x) && decide (x ≤ hi)
theorem inside_iff (x lo hi : Int) : inside x lo hi = true ↔ lo ≤ x ∧ x ≤ hi := by simp [inside]
theorem wrap_i64_id (x : Int) (h1 : -9223372036854775808 ≤ x) (h2 : x ≤ 9223372036854775807) : IntKind.i64.wrap x = x := by rw [IntKind.wrap_i64]; omega
theorem wrap_u64_id (x : Int) (h1 : 0 ≤ x) (h2 : x ≤ 9223372036854775807) : IntKind.u64.wrap x = x := by
  simp only [IntKind.wrap, IntKind.signed, IntKind.bits, Bool.false_and, Bool.false_eq_true, if_false]
  omega
theorem get_map {α : Type} {f : α → D} {ss : List α} {k : Nat} (h : k < ss.length) : (ss.map f)[k]? = some (f (ss[k]'h)) := by simp [h]
theorem step_up {k n : Nat} (h : k < n) (hn : n ≤ maxLen) : IntKind.i64.wrap ((k : Int) + 1) = ((k + 1 : Nat) : Int) := by
  have : maxLen = 9223372036854775807 := rfl
  rw [wrap_i64_id _ (by omega) (by omega)]; rfl
theorem lt_of_dec {α : Type} {f : α → D} {ss : List α} {k : Nat} (h : decide ((k : Int) < ((ss.map f).length : Int)) = true) : k < ss.length := by
  have := of_decide_eq_true h
  rw [List.length_map] at this
  omega
theorem mu_up {k n : Nat} (h : k < n) (hn : n ≤ maxLen) : n - (IntKind.i64.wrap ((k : Int) + 1)).toNat < n - ((k : Int)).toNat := by
  rw [step_up h hn]; omega
theorem lt_of_dec' {n k : Nat} (h : decide ((k : Int) < (n : Int)) = true) : k < n := by
  have := of_decide_eq_true h; omega
theorem any_up {α : Type} {p : α → Bool} {ss : List α} {k : Nat} (h : k < ss.length) (h1 : (ss.take k).any p = false) (h2 : p (ss[k]'h) = false) : (ss.take (k + 1)).any p = false := by
  rw [List.take_succ_eq_append_getElem h, List.any_append, h1]
  simp [h2]
theorem get_ex {α : Type} {ss : List α} {k : Nat} (h : k < ss.length) : ∃ t, ss[k]? = some t := ⟨_, List.getElem?_eq_getElem h⟩
theorem get_map' {α : Type} {f : α → D} {ss : List α} {k : Nat} {t : α} (h : ss[k]? = some t) : (ss.map f)[k]? = some (f t) := by simp [h]
theorem get_lt {α : Type} {ss : List α} {k : Nat} {t : α} (h : ss[k]? = some t) : k < ss.length := (List.getElem?_eq_some_iff.1 h).1
theorem get_mem {α : Type} {ss : List α} {k : Nat} {t : α} (h : ss[k]? = some t) : t ∈ ss := List.mem_of_getElem? h
theorem any_up' {α : Type} {p : α → Bool} {ss : List α} {k : Nat} {t : α} (h : ss[k]? = some t) (h1 : (ss.take k).any p = false) (h2 : p t = false) : (ss.take (k + 1)).any p = false := by
  obtain ⟨hk, rfl⟩ := List.getElem?_eq_some_iff.1 h
  exact any_up hk h1 h2
theorem not_ok {b : Bool} (h : (!b) = false) : b = true := by simpa using h
theorem not_ok' {b : Bool} (h : (!b) = true) : b = false := by simpa using h
theorem ex_map {α : Type} {f : α → D} {q : α → Prop} : ∀ {xs : List D}, (∀ y, y ∈ xs → ∃ s, y = f s ∧ q s) → ∃ ss : List α, xs = ss.map f ∧ ∀ s, s ∈ ss → q s
  | [], _ => ⟨[], rfl, fun s h => by cases h⟩
  | x :: xs, h => by
    obtain ⟨s, rfl, hs⟩ := h x (List.mem_cons_self ..)
    obtain ⟨ss, rfl, hss⟩ := ex_map (xs := xs) fun y hy => h y (List.mem_cons_of_mem _ hy)
    refine ⟨s :: ss, rfl, fun t ht => ?_⟩
    rcases List.mem_cons.1 ht with rfl | ht
    · exact hs
    · exact hss t ht
def sel {α : Type} (u : Bool) (a b : α) : α := match u with | true => a | false => b
def byteOf (x : Int) : UInt8 := UInt8.ofNat (IntKind.u8.wrap x).toNat
theorem wrap_u8 (x : Int) : 0 ≤ IntKind.u8.wrap x ∧ IntKind.u8.wrap x < 256 := by
  simp only [IntKind.wrap, IntKind.signed, IntKind.bits, Bool.false_and, Bool.false_eq_true, if_false]
  omega
theorem u8s_byte (x : Int) : [D.i .u8 (IntKind.u8.wrap x)] = u8s [byteOf x] := by
  have h := wrap_u8 x
  simp only [u8s, List.map_cons, List.map_nil, byteOf]
  congr 2
  rw [UInt8.toNat_ofNat']
  omega
theorem lt_of_dec0 {xs : List D} {k : Nat} (h : decide ((k : Int) < (xs.length : Int)) = true) : k < xs.length := by
  have := of_decide_eq_true h; omega
theorem set_get {xs : List D} {k n : Nat} {y : D} (hl : xs.length = n) (hk : k < n) : (xs.set k y)[k]? = some y := List.getElem?_set_self (by omega)
def up (m : Int) : Int := IntKind.i64.wrap (m + 1)
end Go.Pm.Try
namespace Go.Pm.Try
open Go Go.Proofs
set_option linter.unusedVariables false
set_option linter.unusedSimpArgs false
set_option maxRecDepth 100000
theorem within (x lo hi : Int) : Ent Try.prog 30 [.d (.i .i64 x), .d (.i .i64 lo), .d (.i .i64 hi)] [] (.d (.b (inside x lo hi))) [] := by
  refine ent_of tok mixed (f := 30) Try.func30 (by kernel_rfl) (keep := false) ?_
  repeat' ((conv => whnf) <;> (first
    | refine ⟨⟨none⟩, ?_⟩
    | refine Both.mk ?_ ?_
    | refine ⟨rfl, ?_⟩
    | (split <;> (rename_i h; try rw [h]))))
  all_goals (conv => whnf)
  all_goals (refine ⟨congrArg (fun b => AV.d (D.b b)) ?_, rfl⟩; simp [inside, *])
def chOk (i : Nat) (c : Int) : Bool := (decide (97 ≤ c) && decide (c ≤ 122)) || (decide (0 < i) && ((decide (48 ≤ c) && decide (c ≤ 57)) || decide (c = 95)))
def chAt (l : List UInt8) (k : Nat) : Int := ((l.getD k 0).toNat : Int)
def upToOk (l : List UInt8) : Nat → Bool
  | 0 => true
  | k + 1 => upToOk l k && chOk k (chAt l k)
def nameOk (l : List UInt8) : Bool := (decide (1 ≤ l.length) && decide (l.length ≤ 20)) && upToOk l l.length
theorem upToOk_false {l : List UInt8} {k : Nat} (h : chOk k (chAt l k) = false) : ∀ {n : Nat}, k < n → upToOk l n = false
  | 0, hk => by omega
  | n + 1, hk => by
    simp only [upToOk]
    by_cases e : k = n
    · subst e; rw [h, Bool.and_false]
    · rw [upToOk_false h (by omega), Bool.false_and]
set_option maxHeartbeats 4000000 in
theorem specNameRight (l : List UInt8) (hs : l.length ≤ maxLen) : Ent Try.prog 53 [.d (.s l)] [] (.d (.b (nameOk l))) [] := by
  refine ent_of tok mixed (f := 53) Try.func53 (by kernel_rfl) (keep := false) ?_
  repeat' ((conv => whnf) <;> (first
    | (refine ⟨[3, 0], [], fun s => ∃ (k : Nat) (n : Int), n = k ∧ k ≤ l.length ∧ upToOk l k = true ∧ s = ⟨[(3, .d (.i .i64 n)), (0, .d (.s l))], []⟩,
        fun s => match look 3 s.env with | some (.d (.i _ n)) => l.length - n.toNat | _ => 0, rfl, ⟨0, _, rfl, Nat.zero_le _, rfl, rfl⟩, ?_⟩; rintro s ⟨k, n, rfl, hk, hu, rfl⟩)
    | refine ⟨⟨none⟩, ?_⟩
    | refine Both.mk ?_ ?_
    | refine ⟨rfl, ?_⟩
    | refine ⟨⟨Int.natCast_nonneg _, of_decide_eq_true (by assumption)⟩, ?_⟩
    | (split <;> (rename_i h; try rw [h]))))
  all_goals (conv => whnf)
  all_goals first
    | (refine ⟨congrArg (fun b => AV.d (D.b b)) ?_, rfl⟩
       first
       | (have hf : chOk k (chAt l k) = false := by
            simp only [chOk, chAt, Int.toNat_natCast] at *
            simp_all
            try omega
          simp only [nameOk, upToOk_false hf (lt_of_dec' (by assumption)), Bool.and_false]; done)
       | (simp only [nameOk]; simp_all; done)
       | (simp only [nameOk]; simp_all; omega)
       | (simp only [nameOk]; simp_all
          have e : k = l.length := by omega
          subst e
          exact ⟨⟨by omega, by omega⟩, hu⟩))
    | (exact ⟨⟨k + 1, _, step_up (lt_of_dec' (by assumption)) hs, lt_of_dec' (by assumption), by
          have hf : chOk k (chAt l k) = true := by
            simp only [chOk, chAt, Int.toNat_natCast] at *
            simp_all
            try omega
          simp only [upToOk, hu, hf, Bool.and_true], rfl⟩, mu_up (lt_of_dec' (by assumption)) hs⟩)
set_option maxHeartbeats 4000000 in
theorem implNameRight (l : List UInt8) (hs : l.length ≤ maxLen) : Ent Try.prog 29 [.d (.s l)] [] (.d (.b (nameOk l))) [] := by
  refine ent_of tok mixed (f := 29) Try.func29 (by kernel_rfl) (keep := false) ?_
  repeat' ((conv => whnf) <;> (first
    | (refine ⟨[7, 6, 0], [], fun s => ∃ (k : Nat) (n : Int), n = k ∧ k ≤ l.length ∧ upToOk l k = true ∧ s = ⟨[(7, .d (.i .i64 n)), (6, .d (.i .i64 l.length)), (0, .d (.s l))], []⟩,
        fun s => match look 7 s.env with | some (.d (.i _ n)) => l.length - n.toNat | _ => 0, rfl, ⟨0, _, rfl, Nat.zero_le _, rfl, rfl⟩, ?_⟩; rintro s ⟨k, n, rfl, hk, hu, rfl⟩)
    | refine ⟨⟨none⟩, ?_⟩
    | refine Both.mk ?_ ?_
    | refine ⟨rfl, ?_⟩
    | refine ⟨⟨Int.natCast_nonneg _, of_decide_eq_true (by assumption)⟩, ?_⟩
    | (refine ⟨_, within _ _ _, ?_⟩; rintro _ _ ⟨rfl, rfl⟩)
    | (split <;> (rename_i h; try rw [h]))))
  all_goals (conv => whnf)
  all_goals first
    | (refine ⟨congrArg (fun b => AV.d (D.b b)) ?_, rfl⟩
       first
       | (have hf : chOk k (chAt l k) = false := by
            simp only [chOk, chAt, Int.toNat_natCast] at *
            simp_all
            try omega
          simp only [nameOk, upToOk_false hf (lt_of_dec' (by assumption)), Bool.and_false]; done)
       | (have e : k = l.length := by simp at *; omega
          subst e
          simp only [nameOk, hu, Bool.and_true, inside]
          rw [Bool.eq_iff_iff]; simp; omega))
    | (exact ⟨⟨k + 1, _, step_up (lt_of_dec' (by assumption)) hs, lt_of_dec' (by assumption), by
          have hf : chOk k (chAt l k) = true := by
            simp only [chOk, chAt, Int.toNat_natCast] at *
            simp_all
            try omega
          simp only [upToOk, hu, hf, Bool.and_true], rfl⟩, mu_up (lt_of_dec' (by assumption)) hs⟩)
  all_goals trace_state
def strD (l : List UInt8) : D := .s l
def longs (ls : List (List UInt8)) : Bool := ls.any fun l => decide ((l.length : Int) > 20000)
theorem isLong (ls : List (List UInt8)) (hs : ls.length ≤ maxLen) : Ent Try.prog 35 [.d (.sl false (ls.map strD))] [] (.d (.b (longs ls))) [] := by
  obtain ⟨u, hu⟩ : ∃ u, u = longs ls := ⟨_, rfl⟩
  rw [← hu]
  refine ent_of tok mixed (f := 35) Try.func35 (by kernel_rfl) (keep := false) ?_
  repeat' ((conv => whnf) <;> (first | ((with_reducible refine isCall ?_) <;> (first | (obtain ⟨t, ht⟩ := get_ex (ss := ls) (k := k) (lt_of_dec (by assumption)); refine ⟨_, get_map' ht, ?_⟩) | exact ⟨rfl, ⟨k + 1, _, step_up (get_lt ht) hs, get_lt ht, any_up' ht hv (by assumption), rfl⟩, mu_up (get_lt ht) hs⟩ | fail)) | ((with_reducible refine isLoop ?_) <;> (first | (refine ⟨[7, 6, 5], [], fun s => ∃ (k : Nat) (n : Int), n = k ∧ k ≤ ls.length ∧ (ls.take k).any (fun l => decide ((l.length : Int) > 20000)) = false ∧ s = ⟨[(7, .d (.i .i64 n)), (6, .d (.i .i64 ((ls.map strD).length : Int))), (5, .d (.sl false (ls.map strD)))], []⟩, fun s => match look 7 s.env with | some (.d (.i _ n)) => ls.length - n.toNat | _ => 0, rfl, ⟨0, _, rfl, Nat.zero_le _, rfl, rfl⟩, ?_⟩; rintro s ⟨k, n, rfl, hk, hv, rfl⟩) | (obtain ⟨t, ht⟩ := get_ex (ss := ls) (k := k) (lt_of_dec (by assumption)); refine ⟨_, get_map' ht, ?_⟩) | exact ⟨rfl, ⟨k + 1, _, step_up (get_lt ht) hs, get_lt ht, any_up' ht hv (by assumption), rfl⟩, mu_up (get_lt ht) hs⟩ | fail)) | ((with_reducible refine isCut ?_) <;> (first | refine ⟨⟨none⟩, ?_⟩)) | ((first | with_reducible refine isEx ?_ | with_reducible refine isAnd ?_ | with_reducible refine isOr ?_) <;> (first | (obtain ⟨t, ht⟩ := get_ex (ss := ls) (k := k) (lt_of_dec (by assumption)); refine ⟨_, get_map' ht, ?_⟩) | exact ⟨rfl, ⟨k + 1, _, step_up (get_lt ht) hs, get_lt ht, any_up' ht hv (by assumption), rfl⟩, mu_up (get_lt ht) hs⟩ | ((with_reducible refine isSmall ?_) <;> (refine ⟨?_, ?_⟩; kernel_rfl)) | refine ⟨rfl, ?_⟩ | refine ⟨Int.natCast_nonneg _, ?_⟩)) | with_reducible refine Both.mk ?_ ?_ | rintro _ rfl | exact rfl | (split <;> (rename_i h; first | (simp only [beq_self_eq_true, eq_self, decide_true, Bool.not_true, Bool.false_eq_true] at h; done) | (try rw [h])))))
  all_goals (conv => whnf)
  · refine ⟨congrArg (fun b => AV.d (D.b b)) ?_, rfl⟩
    rw [hu, longs]; symm
    rw [List.any_eq_true]
    exact ⟨t, get_mem ht, h⟩
  · refine ⟨congrArg (fun b => AV.d (D.b b)) ?_, rfl⟩
    have e : k = ls.length := by have := of_decide_eq_false h; rw [List.length_map] at this; omega
    rw [e, List.take_length] at hv
    rw [hu, longs, hv]
theorem take_up {α : Type} {xs : List α} {k : Nat} {x : α} (h : xs[k]? = some x) : xs.take (k + 1) = xs.take k ++ [x] := by
  obtain ⟨hk, rfl⟩ := List.getElem?_eq_some_iff.1 h
  exact List.take_succ_eq_append_getElem hk
theorem le_max {n : Nat} (h : n ≤ 1000000) : n ≤ maxLen := Nat.le_trans h (Nat.le_of_ble_eq_true rfl)
end Go.Pm.Try
