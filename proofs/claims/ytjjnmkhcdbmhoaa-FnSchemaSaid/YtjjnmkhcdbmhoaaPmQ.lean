/-
A walk of Go's code over values: a law's row.
-/
import Derived.Test.YtjjnmkhcdbmhoaaPmP
import Derived.ReadAgain
import Derived.ChangeOld
import Derived.ChangeReads
namespace Go.Pm
open Go Go.ChangeShapes Go.WideShapes Go.RowKit
set_option linter.unusedVariables false

section
variable {P : Program} {H : Type} {enc : TypeId × Value → H}

/-- The arguments read as they did. -/
theorem args_again {T : TypeId → Prop} (K : Kids P T) (hz : ∀ t e, T t → P.underlying t = some (.slice e) → 0 < P.cellsOf e) {W W' : World} (bel : Below W.heap.size W W') :
    ∀ {ts : List TypeId} {vs : List Value} {ds : List (DataW H)} {ps : List MemPlace}, (∀ t ∈ ts, T t) → DataW.TrodAll enc P W 0 (fun _ => true) true ts vs ds ps →
      DataW.TrodAll enc P W' 0 (fun b => decide (b < W.heap.size)) true ts vs ds ps
  | [], [], [], _, _, h => h
  | t :: ts, v :: vs, d :: ds, ps, hT, ⟨p, q, ⟨n, h1⟩, h2, e⟩ => by
    refine ⟨p, q, ⟨n, ?_⟩, args_again K hz bel (fun t ht => hT t (List.mem_cons_of_mem _ ht)) h2, e⟩
    have hlt := DataW.trod_lt n _ _ _ h1
    have h3 := DataW.trod_respare (spare' := fun b => decide (b < W.heap.size)) K hz n _ _ _ (hT t (List.mem_cons_self ..)) h1 (fun p hp => decide_eq_true (hlt p hp))
    exact DataW.trod_carry n _ _ _ h3 (fun p hp => bel.same (hlt p hp))

theorem args_same (K : Kids P (· < P.types.size)) (hz : ∀ t e, t < P.types.size → P.underlying t = some (.slice e) → 0 < P.cellsOf e) {W W' : World} (bel : Below W.heap.size W W')
    {ts : List TypeId} {vs : List Value} {ds : List (DataW H)} {ps : List MemPlace} (hA : DataW.TrodAll enc P W 0 (fun _ => true) true ts vs ds ps) (hT : (ts.all fun t => Nat.blt t P.types.size) = true) :
    DataW.TrodAll enc P W' 0 (fun b => decide (b < W.heap.size)) true ts vs ds ps :=
  args_again K hz bel (fun t ht => Nat.le_of_ble_eq_true (List.all_eq_true.1 hT t ht)) hA

def noX (b : Nat) : Prop := False
theorem xof_none : Xof noX (fun _ => none) = noX := by
  funext b
  refine propext ⟨?_, fun h => h.elim⟩
  rintro (h | ⟨k, p, hp, _⟩)
  · exact h
  · cases hp
theorem mem_none {w : World} : Mem noX (fun _ => none) (fun i => ([] : List Ob)[i]?) w := by
  refine ⟨?_, ?_, ?_, ?_, ?_⟩
  · intro k o h; simp at h
  · intro k p h; cases h
  · intro k k' p p' h; cases h
  · intro k p h; cases h
  · intro b h; exact h.elim

/-- A law that says true, of what it reads. -/
theorem law_calls {f : FuncId} {xs : List AV} (h : Ent P f xs [] (.d (.b true)) []) {W : World} {args : Array Value} (hr : AV.repL W noX (fun _ => none) xs args.toList) :
    Calls P f args W fun e W' => e = .returned (.bool true) ∧ Below W.heap.size W W' := by
  refine Calls.mono (h.2 noX (fun _ => none) W args (by rw [xof_none]; exact hr) mem_none) ?_
  rintro e W' ⟨R, O, v, J', ⟨rfl, rfl⟩, rfl, hv, _, hk, _, _⟩
  simp only [AV.rep, D.rep] at hv
  refine ⟨by rw [hv.1], hk.os, hk.tape, hk.output, hk.size, fun k hlt => hk.block k hlt ?_⟩
  rintro ⟨k, p, hp, _⟩
  cases hp
end
end Go.Pm
