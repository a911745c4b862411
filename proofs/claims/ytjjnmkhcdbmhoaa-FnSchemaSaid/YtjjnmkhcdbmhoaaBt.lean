/-
What is put is read, what is read was put: readers and their bytes, joined.
-/
import Derived.Test.YtjjnmkhcdbmhoaaBg
namespace Go.Pm.Try
open Go Go.Proofs
set_option linter.unusedVariables false
set_option linter.unusedSimpArgs false
/-- A reader reads just what is put. -/
structure Bi {α : Type} (f : Rd → α × Rd) (g : α → List UInt8) (P : α → Prop) : Prop where
  put : ∀ {r : Rd} {x : α} {q : List UInt8}, P x → At r (g x ++ q) → (f r).1 = x ∧ At (f r).2 q
  get : ∀ {r : Rd} {rest : List UInt8}, At r rest → (f r).2.bad = false → ∃ x q, P x ∧ rest = g x ++ q
  good : ∀ {r : Rd}, (f r).2.bad = false → r.bad = false
theorem bi_num : Bi specNumR putNum I64 := ⟨fun h1 h2 => at_num h1 h2, fun h1 h2 => get_num h1 h2, fun h => same_num.stickS h⟩
theorem bi_word : Bi specTextR putText (fun t => t.length ≤ 20000) := ⟨fun h1 h2 => at_word h1 h2, fun h1 h2 => get_word h1 h2, fun h => same_word.stickS h⟩
theorem bi_many (most : Int) : Bi (specManyR · most) putNum (fun n => I64 n ∧ 0 ≤ n ∧ n ≤ most) :=
  ⟨fun h1 h2 => at_many h1.1 h1.2.1 h1.2.2 h2, fun h1 h2 => by obtain ⟨n, q, a, b, c, d⟩ := get_many h1 h2; exact ⟨n, q, ⟨a, b, c⟩, d⟩, fun h => (same_many most).stickS h⟩
def bitB (b : Bool) : List UInt8 := match b with | true => putNum 1 | false => putNum 0
theorem bi_truth : Bi specTruthR bitB (fun _ => True) where
  put {r x q} _ h := by
    have h1 : At r (putNum (if x then 1 else 0) ++ q) := by cases x <;> exact h
    obtain ⟨e, h2⟩ := (bi_many 1).put (x := if x then 1 else 0) (by cases x <;> exact ⟨⟨by decide, by decide⟩, by decide, by decide⟩) h1
    refine ⟨?_, h2⟩
    show decide ((specManyR r 1).1 = 1) = x
    rw [e]; cases x <;> rfl
  get {r rest} h hb := by
    obtain ⟨n, q, ⟨_, h0, h1⟩, e⟩ := (bi_many 1).get h hb
    obtain rfl | rfl : n = 0 ∨ n = 1 := by omega
    · exact ⟨false, q, trivial, e⟩
    · exact ⟨true, q, trivial, e⟩
  good h := (same_many 1).stickS h
section
variable {α β : Type} {f : Rd → α × Rd} {g : α → List UInt8} {P : α → Prop} {f' : Rd → β × Rd} {g' : β → List UInt8} {P' : β → Prop}
theorem Bi.seq (h : Bi f g P) (h' : Bi f' g' P') : Bi (seqR f f') (fun p => g p.1 ++ g' p.2) (fun p => P p.1 ∧ P' p.2) where
  put {r x q} hp ha := by
    rw [List.append_assoc] at ha
    obtain ⟨e1, ha⟩ := h.put hp.1 ha
    obtain ⟨e2, ha⟩ := h'.put hp.2 ha
    exact ⟨Prod.ext e1 e2, ha⟩
  get {r rest} ha hb := by
    obtain ⟨x, q, hx, rfl⟩ := h.get ha (h'.good hb)
    obtain ⟨_, ha⟩ := h.put hx ha
    obtain ⟨y, q2, hy, rfl⟩ := h'.get ha hb
    exact ⟨(x, y), q2, ⟨hx, hy⟩, (List.append_assoc ..).symm⟩
  good hb := h.good (h'.good hb)
theorem Bi.map (h : Bi f g P) (i : α → β) (k : β → α) (h1 : ∀ x, k (i x) = x) (h2 : ∀ y, i (k y) = y) : Bi (mapR i f) (fun y => g (k y)) (fun y => P (k y)) where
  put {r x q} hp ha := by
    obtain ⟨e, ha⟩ := h.put hp ha
    exact ⟨by show i (f r).1 = x; rw [e, h2], ha⟩
  get {r rest} ha hb := by
    obtain ⟨x, q, hx, e⟩ := h.get ha hb
    exact ⟨i x, q, by rw [h1]; exact hx, by rw [h1]; exact e⟩
  good hb := h.good hb
theorem Bi.change (h : Bi f g P) {g2 : α → List UInt8} {P2 : α → Prop} (hg : ∀ x, g x = g2 x) (hp : ∀ x, P x ↔ P2 x) : Bi f g2 P2 where
  put {r x q} hx ha := h.put ((hp x).2 hx) (by rw [hg]; exact ha)
  get {r rest} ha hb := by
    obtain ⟨x, q, hx, e⟩ := h.get ha hb
    exact ⟨x, q, (hp x).1 hx, by rw [← hg]; exact e⟩
  good hb := h.good hb
theorem list_good (h : Bi f g P) : ∀ {k : Nat} {r : Rd}, (listR f k r).2.bad = false → r.bad = false
  | 0, _, hb => hb
  | k + 1, r, hb => h.good (list_good h (k := k) hb)
theorem list_put (h : Bi f g P) : ∀ (xs : List α) {r : Rd} {q : List UInt8}, (∀ x, x ∈ xs → P x) → At r (xs.flatMap g ++ q) → (listR f xs.length r).1 = xs ∧ At (listR f xs.length r).2 q
  | [], r, q, _, ha => ⟨rfl, ha⟩
  | x :: xs, r, q, hx, ha => by
    rw [List.flatMap_cons, List.append_assoc] at ha
    obtain ⟨e1, ha⟩ := h.put (hx x (List.mem_cons_self ..)) ha
    obtain ⟨e2, ha⟩ := list_put h xs (fun y hy => hx y (List.mem_cons_of_mem _ hy)) ha
    refine ⟨?_, ha⟩
    show (f r).1 :: (listR f xs.length (f r).2).1 = x :: xs
    rw [e1, e2]
theorem list_get (h : Bi f g P) : ∀ (k : Nat) {r : Rd} {rest : List UInt8}, At r rest → (listR f k r).2.bad = false → ∃ (xs : List α) (q : List UInt8), xs.length = k ∧ (∀ x, x ∈ xs → P x) ∧ rest = xs.flatMap g ++ q
  | 0, r, rest, _, _ => ⟨[], rest, rfl, (fun x hx => by cases hx), rfl⟩
  | k + 1, r, rest, ha, hb => by
    obtain ⟨x, q, hx, rfl⟩ := h.get ha (list_good h (k := k) hb)
    obtain ⟨_, ha⟩ := h.put hx ha
    obtain ⟨xs, q2, hl, hxs, rfl⟩ := list_get h k ha hb
    refine ⟨x :: xs, q2, by rw [List.length_cons, hl], fun y hy => ?_, by rw [List.flatMap_cons, List.append_assoc]⟩
    rcases List.mem_cons.1 hy with rfl | hy
    · exact hx
    · exact hxs y hy
theorem Bi.times (h : Bi f g P) (most : Nat) (hm : most ≤ 1000000) : Bi (timesR (specManyR · (most : Int)) f) (fun xs : List α => putNum (xs.length : Int) ++ xs.flatMap g) (fun xs : List α => xs.length ≤ most ∧ ∀ x, x ∈ xs → P x) where
  put {r x q} hp ha := by
    rw [List.append_assoc] at ha
    have hl := hp.1
    obtain ⟨e, ha⟩ := (bi_many most).put (x := (x.length : Int)) ⟨⟨by omega, by omega⟩, by omega, by omega⟩ ha
    obtain ⟨e2, ha⟩ := list_put h x hp.2 ha
    have e3 : (specManyR r (most : Int)).1.toNat = x.length := by rw [e]; omega
    refine ⟨?_, ?_⟩
    · show (listR f (specManyR r (most : Int)).1.toNat (specManyR r (most : Int)).2).1 = x
      rw [e3]; exact e2
    · show At (listR f (specManyR r (most : Int)).1.toNat (specManyR r (most : Int)).2).2 q
      rw [e3]; exact ha
  get {r rest} ha hb := by
    obtain ⟨n, q, hn, rfl⟩ := (bi_many most).get ha (list_good h hb)
    obtain ⟨e, ha⟩ := (bi_many most).put hn ha
    have e3 : (specManyR r (most : Int)).1 = n := e
    have hb : (listR f (specManyR r (most : Int)).1.toNat (specManyR r (most : Int)).2).2.bad = false := hb
    rw [e3] at hb
    obtain ⟨xs, q2, hl, hxs, rfl⟩ := list_get h _ ha hb
    obtain ⟨_, h0, h1⟩ := hn
    refine ⟨xs, q2, ⟨by omega, hxs⟩, ?_⟩
    rw [show n = (xs.length : Int) by omega, List.append_assoc]
  good hb := (bi_many most).good (list_good h hb)
theorem at_beg (l : List UInt8) : At (begR l) l := ⟨rfl, 0, rfl, Nat.zero_le _, rfl⟩
theorem Bi.read_put (h : Bi f g P) {x : α} (hp : P x) {l : List UInt8} (hl : l = g x) : (f (begR l)).1 = x ∧ overR (f (begR l)).2 = true := by
  have ha := at_beg l
  rw (occs := .pos [2]) [hl] at ha
  rw [← List.append_nil (g x)] at ha
  obtain ⟨e, ha⟩ := h.put hp ha
  exact ⟨e, at_over ha⟩
theorem Bi.read_get (h : Bi f g P) {l : List UInt8} (ho : overR (f (begR l)).2 = true) : P (f (begR l)).1 ∧ l = g (f (begR l)).1 := by
  obtain ⟨x, q, hx, e⟩ := h.get (at_beg l) (over_good ho)
  have ha := at_beg l
  rw (occs := .pos [2]) [e] at ha
  obtain ⟨e2, ha⟩ := h.put hx ha
  have e3 := get_over ha ho
  rw [e2]
  rw [e3, List.append_nil] at e
  exact ⟨hx, e⟩
end
end Go.Pm.Try
