/-
Schemas, read: how great, what is the program's own.
-/
import Derived.Test.YtjjnmkhcdbmhoaaCp
namespace Go.Pm.Try
open Go Go.Proofs
set_option linter.unusedVariables false
set_option linter.unusedSimpArgs false
set_option maxRecDepth 100000
def noSch : Schema := ⟨[], [], [], []⟩
theorem sch_same (l : List UInt8) : overR (schR specRs (begR l)).2 = overR (schR implRs (begR l)).2 ∧ (overR (schR implRs (begR l)).2 = true → (schR specRs (begR l)).1 = (schR implRs (begR l)).1) := by
  have h := same_sch.like (like_beg l)
  have e := over_like h.rd
  exact ⟨e, fun ho => h.val (over_good (e.trans ho))⟩
theorem longs1 (l : List UInt8) : longs [l] = !decide (l.length ≤ 20000) := by
  simp only [longs, List.any_cons, List.any_nil, Bool.or_false]
  by_cases h : l.length ≤ 20000
  · rw [decide_eq_true h]; exact decide_eq_false (by omega)
  · rw [decide_eq_false h]; exact decide_eq_true (by omega)
structure Schema.small (s : Schema) : Prop where
  name : s.name.length ≤ maxLen
  cols : s.cols.length ≤ 10
  keys : s.keys.length ≤ 10
  idxs : s.idxs.length ≤ 4
  lists : ∀ i, i ∈ s.idxs → i.cols.length ≤ 10
theorem schI_small {r : Rd} (hl : r.text.length ≤ 20000) : (schR implRs r).1.small := by
  have hm := fun (r' : Rd) => manyI_range r' (most := 10) (by decide)
  have hm4 := fun (r' : Rd) => manyI_range r' (most := 4) (by decide)
  have hlist : ∀ r' : Rd, (implListR 10 r').1.length ≤ 10 := fun r' => by rw [listI_len]; have := hm r'; omega
  refine ⟨(schI_fits hl).name, ?_, hlist _, ?_, ?_⟩
  · show (timesR (implManyR · 10) (colR implRs) (implWordR r).2).1.length ≤ 10
    rw [timesR, list_len]; have := hm (implWordR r).2; show (implManyR (implWordR r).2 10).1.toNat ≤ 10; omega
  · show (timesR (implManyR · 4) (idxR implRs) _).1.length ≤ 4
    rw [timesR, list_len]; have := hm4 (implListR 10 (timesR (implManyR · 10) (colR implRs) (implWordR r).2).2).2; show (implManyR (implListR 10 (timesR (implManyR · 10) (colR implRs) (implWordR r).2).2).2 4).1.toNat ≤ 4; omega
  · intro i hi
    obtain ⟨r', h1, rfl⟩ := list_mem same_idx.textI hi
    exact hlist r'
theorem noSch_small : noSch.small := ⟨Nat.zero_le _, Nat.zero_le _, Nat.zero_le _, Nat.zero_le _, fun i hi => by cases hi⟩
end Go.Pm.Try
