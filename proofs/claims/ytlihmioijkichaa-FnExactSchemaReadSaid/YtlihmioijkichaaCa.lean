/-
Plain laws that the walks of all functions use.
-/
import Derived.Test.YtlihmioijkichaaPmT
import Derived.Test.YtlihmioijkichaaPmQ
import Derived.Test.YtlihmioijkichaaPmLb
import Derived.Test.YtlihmioijkichaaChecked
import Derived.Test.YtlihmioijkichaaRows
import Derived.ProofKit
import Derived.OpenShut
import Derived.SizedLaws
namespace Go.Pm.Try
open Go Go.Proofs
set_option linter.unusedVariables false
set_option linter.unusedSimpArgs false
set_option maxRecDepth 100000
def inside (x lo hi : Int) : Bool := decide (lo ≤ x) && decide (x ≤ hi)
theorem inside_iff (x lo hi : Int) : inside x lo hi = true ↔ lo ≤ x ∧ x ≤ hi := by simp [inside]
theorem wrap_i64_id (x : Int) (h1 : -9223372036854775808 ≤ x) (h2 : x ≤ 9223372036854775807) : IntKind.i64.wrap x = x := by rw [IntKind.wrap_i64]; omega
theorem wrap_u64_id (x : Int) (h1 : 0 ≤ x) (h2 : x ≤ 9223372036854775807) : IntKind.u64.wrap x = x := by
  simp only [IntKind.wrap, IntKind.signed, IntKind.bits, Bool.false_and, Bool.false_eq_true, if_false]
  omega
theorem get_map {α : Type} {f : α → D} {ss : List α} {k : Nat} (h : k < ss.length) : (ss.map f)[k]? = some (f (ss[k]'h)) := by simp [h]
theorem step_up {k n : Nat} (h : k < n) (hn : n ≤ maxLen) : IntKind.i64.wrap ((k : Int) + 1) = ((k + 1 : Nat) : Int) := by
  have : maxLen = 9223372036854775807 := rfl
  rw [wrap_i64_id _ (by omega) (by omega)]; rfl
theorem lt_of_dec {α : Type} {f : α → D} {ss : List α} {k : Nat} (h : decide ((k : Int) < ((ss.map f).length : Int)) = true) : k < ss.length := by
  have := of_decide_eq_true h
  rw [List.length_map] at this
  omega
theorem mu_up {k n : Nat} (h : k < n) (hn : n ≤ maxLen) : n - (IntKind.i64.wrap ((k : Int) + 1)).toNat < n - ((k : Int)).toNat := by
  rw [step_up h hn]; omega
theorem lt_of_dec' {n k : Nat} (h : decide ((k : Int) < (n : Int)) = true) : k < n := by
  have := of_decide_eq_true h; omega
theorem any_up {α : Type} {p : α → Bool} {ss : List α} {k : Nat} (h : k < ss.length) (h1 : (ss.take k).any p = false) (h2 : p (ss[k]'h) = false) : (ss.take (k + 1)).any p = false := by
  rw [List.take_succ_eq_append_getElem h, List.any_append, h1]
  simp [h2]
theorem get_ex {α : Type} {ss : List α} {k : Nat} (h : k < ss.length) : ∃ t, ss[k]? = some t := ⟨_, List.getElem?_eq_getElem h⟩
theorem get_map' {α : Type} {f : α → D} {ss : List α} {k : Nat} {t : α} (h : ss[k]? = some t) : (ss.map f)[k]? = some (f t) := by simp [h]
theorem get_lt {α : Type} {ss : List α} {k : Nat} {t : α} (h : ss[k]? = some t) : k < ss.length := (List.getElem?_eq_some_iff.1 h).1
theorem get_mem {α : Type} {ss : List α} {k : Nat} {t : α} (h : ss[k]? = some t) : t ∈ ss := List.mem_of_getElem? h
theorem any_up' {α : Type} {p : α → Bool} {ss : List α} {k : Nat} {t : α} (h : ss[k]? = some t) (h1 : (ss.take k).any p = false) (h2 : p t = false) : (ss.take (k + 1)).any p = false := by
  obtain ⟨hk, rfl⟩ := List.getElem?_eq_some_iff.1 h
  exact any_up hk h1 h2
theorem not_ok {b : Bool} (h : (!b) = false) : b = true := by simpa using h
theorem not_ok' {b : Bool} (h : (!b) = true) : b = false := by simpa using h
theorem ex_map {α : Type} {f : α → D} {q : α → Prop} : ∀ {xs : List D}, (∀ y, y ∈ xs → ∃ s, y = f s ∧ q s) → ∃ ss : List α, xs = ss.map f ∧ ∀ s, s ∈ ss → q s
  | [], _ => ⟨[], rfl, fun s h => by cases h⟩
  | x :: xs, h => by
    obtain ⟨s, rfl, hs⟩ := h x (List.mem_cons_self ..)
    obtain ⟨ss, rfl, hss⟩ := ex_map (xs := xs) fun y hy => h y (List.mem_cons_of_mem _ hy)
    refine ⟨s :: ss, rfl, fun t ht => ?_⟩
    rcases List.mem_cons.1 ht with rfl | ht
    · exact hs
    · exact hss t ht
def sel {α : Type} (u : Bool) (a b : α) : α := match u with | true => a | false => b
def byteOf (x : Int) : UInt8 := UInt8.ofNat (IntKind.u8.wrap x).toNat
theorem wrap_u8 (x : Int) : 0 ≤ IntKind.u8.wrap x ∧ IntKind.u8.wrap x < 256 := by
  simp only [IntKind.wrap, IntKind.signed, IntKind.bits, Bool.false_and, Bool.false_eq_true, if_false]
  omega
theorem u8s_byte (x : Int) : [D.i .u8 (IntKind.u8.wrap x)] = u8s [byteOf x] := by
  have h := wrap_u8 x
  simp only [u8s, List.map_cons, List.map_nil, byteOf]
  congr 2
  rw [UInt8.toNat_ofNat']
  omega
theorem lt_of_dec0 {xs : List D} {k : Nat} (h : decide ((k : Int) < (xs.length : Int)) = true) : k < xs.length := by
  have := of_decide_eq_true h; omega
theorem set_get {xs : List D} {k n : Nat} {y : D} (hl : xs.length = n) (hk : k < n) : (xs.set k y)[k]? = some y := List.getElem?_set_self (by omega)
def up (m : Int) : Int := IntKind.i64.wrap (m + 1)
end Go.Pm.Try
