/-
Schemas, read: how great, what is the program's own.
-/
import Derived.Test.YtlihmioijkichaaGreatCp
namespace Go.Pm.Tryz
open Go Go.Proofs
set_option linter.unusedVariables false
set_option linter.unusedSimpArgs false
set_option maxRecDepth 100000
def noSch : Schema := ⟨[], [], [], []⟩
theorem sch_same (l : List UInt8) : overR (schR specRs (begR l)).2 = overR (schR implRs (begR l)).2 ∧ (overR (schR implRs (begR l)).2 = true → (schR specRs (begR l)).1 = (schR implRs (begR l)).1) := by
  have h := same_sch.like (like_beg l)
  have e := over_like h.rd
  exact ⟨e, fun ho => h.val (over_good (e.trans ho))⟩
theorem longs1 (l : List UInt8) : longs [l] = !decide (l.length ≤ 20000) := by
  simp only [longs, List.any_cons, List.any_nil, Bool.or_false]
  by_cases h : l.length ≤ 20000
  · rw [decide_eq_true h]; exact decide_eq_false (by omega)
  · rw [decide_eq_false h]; exact decide_eq_true (by omega)
structure Schema.small (s : Schema) : Prop where
  name : s.name.length ≤ maxLen
  cols : s.cols.length ≤ 10
  keys : s.keys.length ≤ 10
  idxs : s.idxs.length ≤ 4
  lists : ∀ i, i ∈ s.idxs → i.cols.length ≤ 10
theorem schI_small {r : Rd} (hl : r.text.length ≤ 20000) : (schR implRs r).1.small := by
  have hm := fun (r' : Rd) => manyI_range r' (most := 10) (by decide)
  have hm4 := fun (r' : Rd) => manyI_range r' (most := 4) (by decide)
  have hlist : ∀ r' : Rd, (implListR 10 r').1.length ≤ 10 := fun r' => by rw [listI_len]; have := hm r'; omega
  refine ⟨(schI_fits hl).name, ?_, hlist _, ?_, ?_⟩
  · show (timesR (implManyR · 10) (colR implRs) (implWordR r).2).1.length ≤ 10
    rw [timesR, list_len]; have := hm (implWordR r).2; show (implManyR (implWordR r).2 10).1.toNat ≤ 10; omega
  · show (timesR (implManyR · 4) (idxR implRs) _).1.length ≤ 4
    rw [timesR, list_len]; have := hm4 (implListR 10 (timesR (implManyR · 10) (colR implRs) (implWordR r).2).2).2; show (implManyR (implListR 10 (timesR (implManyR · 10) (colR implRs) (implWordR r).2).2).2 4).1.toNat ≤ 4; omega
  · intro i hi
    obtain ⟨r', h1, rfl⟩ := list_mem same_idx.textI hi
    exact hlist r'
theorem noSch_small : noSch.small := ⟨Nat.zero_le _, Nat.zero_le _, Nat.zero_le _, Nat.zero_le _, fun i hi => by cases hi⟩
theorem cnt_cols : ∀ cs : List Col, cntL (cs.map colD) = 3 * cs.length
  | [] => rfl
  | c :: cs => by simp only [List.map_cons, cntL, colD, cntD, cnt_cols cs, List.length_cons]; omega
theorem cnt_ints : ∀ cs : List Int, cntL (cs.map i64D) = cs.length
  | [] => rfl
  | c :: cs => by simp only [List.map_cons, cntL, i64D, cntD]; rw [cnt_ints cs, List.length_cons]; omega
theorem cnt_idx : ∀ is : List Idx, (∀ i, i ∈ is → i.cols.length ≤ 10) → cntL (is.map idxO) ≤ 11 * is.length
  | [], _ => Nat.le_refl _
  | i :: is, h => by
    have h1 := h i (List.mem_cons_self ..)
    have h2 := cnt_idx is fun j hj => h j (List.mem_cons_of_mem _ hj)
    simp only [List.map_cons, cntL, idxO, cntD, cnt_ints, List.length_cons] at *
    omega
theorem le_max {n : Nat} (h : n ≤ 1000000) : n ≤ maxLen := Nat.le_trans h (Nat.le_of_ble_eq_true rfl)
theorem own_cols {cs : List Col} (h : cs.length ≤ 1000000) : AllOf ownColumn (cs.map colD) := ⟨by rw [List.length_map]; exact le_max h, fun x hx => by obtain ⟨c, _, rfl⟩ := List.mem_map.1 hx; exact ⟨_, _, _, rfl⟩⟩
theorem own_ints {cs : List Int} (h : cs.length ≤ 1000000) : AllOf ownInt64 (cs.map i64D) := ⟨by rw [List.length_map]; exact le_max h, fun x hx => by obtain ⟨c, _, rfl⟩ := List.mem_map.1 hx; exact ⟨_, rfl⟩⟩
theorem own_idx {is : List Idx} (h : is.length ≤ 1000000) (h2 : ∀ i, i ∈ is → i.cols.length ≤ 1000000) : AllOf ownIndex (is.map idxO) := ⟨by rw [List.length_map]; exact le_max h, fun x hx => by obtain ⟨c, hc, rfl⟩ := List.mem_map.1 hx; exact ⟨_, _, rfl, own_ints (h2 c hc)⟩⟩
theorem loose_cols : ∀ cs : List Col, looseL (cs.map colD) = true
  | [] => rfl
  | c :: cs => loose_cols cs
theorem loose_ints : ∀ cs : List Int, looseL (cs.map i64D) = true
  | [] => rfl
  | c :: cs => loose_ints cs
theorem loose_idx : ∀ cs : List Idx, looseL (cs.map idxO) = true
  | [] => rfl
  | c :: cs => by
    show looseL (idxO c :: cs.map idxO) = true
    simp only [looseL, idxO, D.loose, loose_ints]
    exact loose_idx cs
theorem fine_next {xs : List D} {n : Int} (h : Fine xs n) {ys : List D} (hs : n + cntL xs + cntL ys ≤ 1000000000000000) : Fine ys (ctL xs n) := by
  have := h.lo
  rw [ctL_eq xs h.lo h.hi]
  exact ⟨by omega, by omega⟩
end Go.Pm.Tryz
