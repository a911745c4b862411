/-
Schemas as bytes: what is put is read, what is read was put.
-/
import Derived.Test.YtjjnmkhcdbmhoaaBt
import Derived.Test.YtjjnmkhcdbmhoaaCr
import Derived.Test.YtjjnmkhcdbmhoaaTp
namespace Go.Pm.Try
open Go Go.Proofs
set_option linter.unusedVariables false
set_option linter.unusedSimpArgs false
def listB (l : List Int) : List UInt8 := putNum (l.length : Int) ++ l.flatMap putNum
def colB (c : Col) : List UInt8 := (putText c.name ++ putNum c.kind) ++ bitB c.uniq
def idxB (i : Idx) : List UInt8 := listB i.cols ++ bitB i.uniq
def schH (s : Schema) : List UInt8 := putText s.name ++ putNum (s.cols.length : Int)
def schM (s : Schema) : List UInt8 := listB s.keys ++ putNum (s.idxs.length : Int)
def schB (s : Schema) : List UInt8 := ((schH s ++ s.cols.flatMap colB) ++ schM s) ++ s.idxs.flatMap idxB
noncomputable def schBytes (s : Schema) : List UInt8 := match dec (schemaP s) with | true => schB s | false => []
theorem schBytes_ok {s : Schema} (h : dec (schemaP s) = true) : schBytes s = schB s := by simp only [schBytes, h]
theorem schBytes_bad {s : Schema} (h : dec (schemaP s) = false) : schBytes s = [] := by simp only [schBytes, h]
def IntsPut (l : List Int) : Prop := l.length ≤ 10 ∧ ∀ x, x ∈ l → I64 x
structure ColPut (c : Col) : Prop where
  l : c.name.length ≤ 20000
  k : I64 c.kind
structure SchPut (s : Schema) : Prop where
  l : s.name.length ≤ 20000
  cols : s.cols.length ≤ 10 ∧ ∀ c, c ∈ s.cols → ColPut c
  keys : IntsPut s.keys
  idxs : s.idxs.length ≤ 4 ∧ ∀ i, i ∈ s.idxs → IntsPut i.cols
theorem bi_list : Bi specNumsR listB IntsPut := bi_num.times 10 (by decide)
theorem bi_col : Bi (colR specRs) colB ColPut :=
  (((bi_word.seq bi_num).seq bi_truth).map (fun p => (⟨p.1.1, p.1.2, p.2⟩ : Col)) (fun c => ((c.name, c.kind), c.uniq)) (fun _ => rfl) (fun _ => rfl)).change (fun _ => rfl) (fun c => ⟨fun h => ⟨h.1.1, h.1.2⟩, fun h => ⟨⟨h.l, h.k⟩, trivial⟩⟩)
theorem bi_idx : Bi (idxR specRs) idxB (fun i => IntsPut i.cols) :=
  ((bi_list.seq bi_truth).map (fun p => (⟨p.1, p.2⟩ : Idx)) (fun c => (c.cols, c.uniq)) (fun _ => rfl) (fun _ => rfl)).change (fun _ => rfl) (fun c => ⟨fun h => h.1, fun h => ⟨h, trivial⟩⟩)
theorem bi_sch : Bi (schR specRs) schB SchPut :=
  ((((bi_word.seq (bi_col.times 10 (by decide))).seq bi_list).seq (bi_idx.times 4 (by decide))).map (fun p => (⟨p.1.1.1, p.1.1.2, p.1.2, p.2⟩ : Schema)) (fun s => (((s.name, s.cols), s.keys), s.idxs)) (fun _ => rfl) (fun _ => rfl)).change
    (fun s => by simp only [schB, schH, schM, List.append_assoc]) (fun s => ⟨fun h => ⟨h.1.1.1, h.1.1.2, h.1.2, h.2⟩, fun h => ⟨⟨⟨h.l, h.cols⟩, h.keys⟩, h.idxs⟩⟩)
theorem name_len {l : List UInt8} (h : nameOk l = true) : l.length ≤ 20 := by
  simp only [nameOk, Bool.and_eq_true, decide_eq_true_eq] at h
  exact h.1.2
theorem ints_put {l : List Int} {n : Nat} (h : colsP l n) (hn : n ≤ 10) : IntsPut l :=
  ⟨by have := colsP_len h; omega, fun x hx => by have := colsP_in h hx; exact ⟨by omega, by omega⟩⟩
theorem sch_put {s : Schema} (h : schemaP s) : SchPut s where
  l := by have := name_len h.name; omega
  cols := ⟨h.hi, fun c hc => by
    obtain ⟨k, hk, e⟩ := List.mem_iff_getElem.1 hc
    obtain ⟨h1, h2, _⟩ := h.cols k c (by rw [List.getElem?_eq_getElem hk, e])
    have := name_len h1
    exact ⟨by omega, by omega, by omega⟩⟩
  keys := ints_put h.keys h.hi
  idxs := ⟨h.idx, fun i hi => ints_put (h.idxs i hi) h.hi⟩
theorem flat_len {α : Type} {f : α → List UInt8} {b : Nat} : ∀ {xs : List α}, (∀ x, x ∈ xs → (f x).length ≤ b) → (xs.flatMap f).length ≤ b * xs.length
  | [], _ => by simp
  | x :: xs, h => by
    have h1 := h x (List.mem_cons_self ..)
    have h2 := flat_len (xs := xs) fun y hy => h y (List.mem_cons_of_mem _ hy)
    rw [List.flatMap_cons, List.length_append, List.length_cons, Nat.mul_succ]; omega
theorem flat_next {α : Type} {f : α → List UInt8} {xs : List α} {k : Nat} {x : α} (h : xs[k]? = some x) : (xs.take (k + 1)).flatMap f = (xs.take k).flatMap f ++ f x := by
  rw [take_up h, List.flatMap_append, List.flatMap_cons, List.flatMap_nil, List.append_nil]
theorem flatT_len {α : Type} {f : α → List UInt8} {b : Nat} {xs : List α} (h : ∀ x, x ∈ xs → (f x).length ≤ b) (k : Nat) : ((xs.take k).flatMap f).length ≤ b * xs.length := by
  have h1 := flat_len (xs := xs.take k) fun x hx => h x (List.mem_of_mem_take hx)
  have h2 : (xs.take k).length ≤ xs.length := by rw [List.length_take]; omega
  exact Nat.le_trans h1 (Nat.mul_le_mul_left _ h2)
theorem bitB_len (b : Bool) : (bitB b).length ≤ 10 := by cases b <;> exact putNum_len _
theorem ints_len (l : List Int) : (l.flatMap putNum).length ≤ 10 * l.length := flat_len fun x _ => putNum_len x
theorem listB_len (l : List Int) : (listB l).length ≤ 10 + 10 * l.length := by
  have := ints_len l; have := putNum_len (l.length : Int)
  rw [listB, List.length_append]; omega
theorem text_len (t : List UInt8) : (putText t).length ≤ 10 + t.length := by
  unfold putText
  split
  · exact Nat.zero_le _
  · rw [List.length_append]; have := putNum_len (t.length : Int); omega
theorem schB_len {s : Schema} (h : schemaP s) : (schB s).length ≤ 20000 := by
  have hp := sch_put h
  have h1 : ∀ c, c ∈ s.cols → (colB c).length ≤ 50 := fun c hc => by
    obtain ⟨k, hk, e⟩ := List.mem_iff_getElem.1 hc
    have := name_len (h.cols k c (by rw [List.getElem?_eq_getElem hk, e])).1
    have := text_len c.name; have := putNum_len c.kind; have := bitB_len c.uniq
    simp only [colB, List.length_append]; omega
  have h2 : ∀ i, i ∈ s.idxs → (idxB i).length ≤ 120 := fun i hi => by
    have := (hp.idxs.2 i hi).1; have := listB_len i.cols; have := bitB_len i.uniq
    simp only [idxB, List.length_append]; omega
  have h3 := flat_len h1; have h4 := flat_len h2
  have := hp.cols.1; have := hp.idxs.1; have := hp.keys.1
  have := listB_len s.keys; have := name_len h.name; have := text_len s.name
  have := putNum_len (s.cols.length : Int); have := putNum_len (s.idxs.length : Int)
  simp only [schB, schH, schM, List.length_append]; omega
theorem schB_ne (s : Schema) : schB s ≠ [] := by
  intro e
  have := congrArg List.length e
  simp only [schB, schM, List.length_append, List.length_nil] at this
  exact putNum_ne (s.idxs.length : Int) (List.eq_nil_of_length_eq_zero (by omega))
theorem sch_iff (s : Schema) : dec (schemaP s) = !decide (schBytes s = []) := by
  cases h : dec (schemaP s) with
  | false => rw [schBytes_bad h]; rfl
  | true => rw [schBytes_ok h, decide_eq_false (schB_ne s)]; rfl
theorem schBytes_len (s : Schema) : (schBytes s).length ≤ 20000 := by
  cases h : dec (schemaP s) with
  | false => rw [schBytes_bad h]; decide
  | true => rw [schBytes_ok h]; exact schB_len (of_dec h)
/-- The schema that was put is read back. -/
theorem schOk_put {s : Schema} (h : schemaP s) : schOkI (schB s) = true ∧ (schR implRs (begR (schB s))).1 = s := by
  obtain ⟨e, ho⟩ := bi_sch.read_put (sch_put h) (l := schB s) rfl
  obtain ⟨h1, h2⟩ := sch_same (schB s)
  rw [ho] at h1
  have h3 := h2 h1.symm
  rw [e] at h3
  refine ⟨?_, h3.symm⟩
  rw [schOkI, ← h1, ← h3, dec_true h]; rfl
theorem schOut_put {s : Schema} (h : schemaP s) : schOutM (schB s) = ⟨s, 0⟩ := by
  obtain ⟨h1, h2⟩ := schOk_put h
  rw [schOutM, decide_eq_true (schB_len h), h1, h2]; rfl
/-- What is read was put. -/
theorem schOk_get {l : List UInt8} (h : schOkI l = true) : schemaP (schR implRs (begR l)).1 ∧ schB (schR implRs (begR l)).1 = l := by
  rw [schOkI, Bool.and_eq_true] at h
  obtain ⟨h1, h2⟩ := sch_same l
  have h3 := h2 h.1
  obtain ⟨_, e⟩ := bi_sch.read_get (h1.trans h.1)
  rw [h3] at e
  exact ⟨of_dec h.2, e.symm⟩
theorem schOut_get {l : List UInt8} (h : (schOutM l).code = 0) : schBytes (schOutM l).s = l := by
  unfold schOutM at h ⊢
  cases e : decide (l.length ≤ 20000) with
  | false => rw [e] at h; cases h
  | true =>
    rw [e] at h
    cases e2 : schOkI l with
    | false => rw [e2] at h; cases h
    | true =>
      obtain ⟨h1, h2⟩ := schOk_get e2
      show schBytes (schR implRs (begR l)).1 = l
      rw [schBytes_ok (dec_true h1), h2]
end Go.Pm.Try
