/-
A walk of Go's code over values: contracts from elsewhere; the order of strings.
-/
import Derived.Test.YtjjnmkhcdbmhoaaPmO
import Derived.Lib.Bytealg
namespace Go.Pm
open Go
set_option linter.unusedVariables false
variable {P : Program}

/-- A contract of a function that leaves the world as it was. -/
theorem entQ_of_calls {f : FuncId} {args : List AV} {Q : AV → List Ob → Prop} (hE : Enters P f)
    (h : ∀ (X : Nat → Prop) (J : Nat → Option Place) (w : World) (vs : Array Value), AV.repL w X J args vs.toList → Calls P f vs w fun e w' => w' = w ∧ ∃ R v, Q R [] ∧ e = .returned v ∧ R.rep w X J v) : EntQ P f args [] Q :=
  ⟨hE, fun X0 J w vs hr hm => (h _ J w vs hr).mono fun e w' ⟨hw, R, v, hq, he, hv⟩ => by
    subst hw
    exact ⟨R, [], v, J, hq, he, hv, hm, Kept.refl _ _, fun k p b hp hb => .inl ⟨k, p, hp, hb⟩, fun k p hp => ⟨p, hp, p.like_refl⟩⟩⟩
theorem ent_of_calls {f : FuncId} {args : List AV} {R : AV} (hE : Enters P f)
    (h : ∀ (X : Nat → Prop) (J : Nat → Option Place) (w : World) (vs : Array Value), AV.repL w X J args vs.toList → Calls P f vs w fun e w' => w' = w ∧ ∃ v, e = .returned v ∧ R.rep w X J v) : Ent P f args [] R [] :=
  entQ_of_calls hE fun X J w vs hr => (h X J w vs hr).mono fun e w' ⟨hw, v, he, hv⟩ => ⟨hw, R, v, ⟨rfl, rfl⟩, he, hv⟩

theorem compare_less : ∀ (a b : List UInt8), Lib.compareBytes a b = if Op.bytesLess a b then -1 else if a = b then 0 else 1
  | [], [] => by simp [Lib.compareBytes, Op.bytesLess]
  | [], _ :: _ => by simp [Lib.compareBytes, Op.bytesLess]
  | _ :: _, [] => by simp [Lib.compareBytes, Op.bytesLess]
  | x :: a, y :: b => by
    simp only [Lib.compareBytes, Op.bytesLess, compare_less a b]
    by_cases h1 : x < y
    · simp [h1]
    · by_cases h2 : y < x
      · have hne : ¬ x = y := fun e => by subst e; exact h1 h2
        simp [h1, h2, hne]
      · have e : x = y := UInt8.le_antisymm (UInt8.not_lt.1 h2) (UInt8.not_lt.1 h1)
        subst e
        simp [h1]
theorem less_irrefl : ∀ (a : List UInt8), Op.bytesLess a a = false
  | [] => by simp [Op.bytesLess]
  | x :: a => by simp [Op.bytesLess, less_irrefl a]
end Go.Pm
