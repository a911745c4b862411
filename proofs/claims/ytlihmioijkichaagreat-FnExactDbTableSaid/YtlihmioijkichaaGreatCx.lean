/-
Ops, read: the plain laws.
-/
import Derived.Test.YtlihmioijkichaaGreatCu
namespace Go.Pm.Tryz
open Go Go.Proofs
set_option linter.unusedVariables false
set_option linter.unusedSimpArgs false
set_option maxRecDepth 100000
/-- What the reference reads of a key: the values up to the first thing that is wrong, and whether there is none. -/
noncomputable def readP : Nat → List UInt8 → List Val → List Val × Bool
  | 0, _, acc => (acc, false)
  | f + 1, s, acc => if s = [] then (acc, true) else match oneM s with
    | none => (acc, false)
    | some (v, n) => match dec (valueP v) && decide (acc.length < 12) with | true => readP f (s.drop n) (acc ++ [v]) | false => (acc, false)
noncomputable def keyP (l : List UInt8) : List Val × Bool := readP (l.length + 1) l []
def okOf (p : List Val × Bool) : Option (List Val) := match p.2 with | true => some p.1 | false => none
theorem readP_V : ∀ (f : Nat) (s : List UInt8) (acc : List Val), readV f s acc = okOf (readP f s acc)
  | 0, _, _ => rfl
  | f + 1, s, acc => by
    rw [readV, readP]
    by_cases hs : s = []
    · rw [if_pos hs, if_pos hs]; rfl
    · rw [if_neg hs, if_neg hs]
      cases h : oneM s with
      | none => rfl
      | some p =>
        obtain ⟨v, n⟩ := p
        cases hb : (dec (valueP v) && decide (acc.length < 12)) with
        | true => simp only [hb]; exact readP_V f _ _
        | false => simp only [hb]; rfl
theorem keyP_V (l : List UInt8) : keyM l = okOf (keyP l) := readP_V _ _ _
theorem readP_end {f : Nat} {acc : List Val} (hf : 0 < f) : readP f [] acc = (acc, true) := by
  obtain ⟨g, rfl⟩ : ∃ g, f = g + 1 := ⟨f - 1, by omega⟩
  rw [readP, if_pos rfl]
theorem readP_bad {f : Nat} {s : List UInt8} {acc : List Val} (hs : ¬ s = []) (h : oneM s = none) : readP f s acc = (acc, false) := by
  cases f with
  | zero => rfl
  | succ f => rw [readP, if_neg hs, h]
theorem readP_no {f : Nat} {s : List UInt8} {acc : List Val} {v : Val} {n : Nat} (hs : ¬ s = []) (h : oneM s = some (v, n)) (hb : (dec (valueP v) && decide (acc.length < 12)) = false) : readP f s acc = (acc, false) := by
  cases f with
  | zero => rfl
  | succ f => rw [readP, if_neg hs, h]; simp only [hb]
theorem readP_yes {f : Nat} {s : List UInt8} {acc : List Val} {v : Val} {n : Nat} (hf : 0 < f) (hs : ¬ s = []) (h : oneM s = some (v, n)) (hb : (dec (valueP v) && decide (acc.length < 12)) = true) : readP f s acc = readP (f - 1) (s.drop n) (acc ++ [v]) := by
  obtain ⟨g, rfl⟩ : ∃ g, f = g + 1 := ⟨f - 1, by omega⟩
  rw [readP, if_neg hs, h]; simp only [hb, Nat.add_sub_cancel]
theorem readP_len : ∀ (f : Nat) (s : List UInt8) (acc : List Val), acc.length ≤ 12 → (readP f s acc).1.length ≤ 12
  | 0, _, _, h => h
  | f + 1, s, acc, h => by
    rw [readP]
    by_cases hs : s = []
    · rw [if_pos hs]; exact h
    · rw [if_neg hs]
      cases ho : oneM s with
      | none => exact h
      | some p =>
        obtain ⟨v, n⟩ := p
        cases hb : (dec (valueP v) && decide (acc.length < 12)) with
        | true =>
          simp only [hb]
          refine readP_len f _ _ ?_
          have := of_decide_eq_true (Bool.and_eq_true_iff.1 hb).2
          simp only [List.length_append, List.length_cons, List.length_nil]; omega
        | false => simp only [hb]; exact h
theorem keyP_len (l : List UInt8) : (keyP l).1.length ≤ 12 := readP_len _ _ _ (by decide)
theorem valsOf_len (l : List UInt8) : (valsOf (keyM l)).length ≤ 12 := by
  rw [keyP_V, okOf]
  have := keyP_len l
  cases (keyP l).2 with
  | true => exact this
  | false => exact Nat.zero_le _
theorem scan_le {s : List UInt8} : ∀ (f p : Nat) (acc w : List UInt8) (q : Nat), scanG s f p acc = some (w, q) → p < q ∧ q ≤ s.length
  | 0, p, acc, w, q, h => by cases h
  | f + 1, p, acc, w, q, h => by
    rw [scanG] at h
    by_cases h1 : p + 1 < s.length
    · rw [if_pos h1] at h
      by_cases h2 : s.getD p 0 ≠ 0
      · rw [if_pos h2] at h
        have := scan_le f _ _ _ _ h; omega
      · rw [if_neg h2] at h
        by_cases h3 : s.getD (p + 1) 0 = 0
        · rw [if_pos h3] at h; cases h; omega
        · rw [if_neg h3] at h
          by_cases h4 : s.getD (p + 1) 0 = 255
          · rw [if_pos h4] at h
            have := scan_le f _ _ _ _ h; omega
          · rw [if_neg h4] at h; cases h
    · rw [if_neg h1] at h; cases h
theorem oneM_le {s : List UInt8} {v : Val} {m : Nat} (h0 : 0 < s.length) (h : oneM s = some (v, m)) : 0 < m ∧ m ≤ s.length := by
  by_cases k0 : kd s 0 = 0
  · rw [one0 k0] at h; cases h; omega
  by_cases k1 : kd s 0 = 1
  · by_cases hl : s.length < 2
    · rw [one1n k1 hl] at h; cases h
    · rw [one1 k1 hl] at h; cases h; omega
  by_cases k2 : kd s 0 = 2
  · by_cases hl : s.length < 9
    · rw [one2n k2 hl] at h; cases h
    · rw [one2 k2 (by omega)] at h; cases h; omega
  by_cases k3 : kd s 0 = 3
  · rw [one3 k3] at h
    cases hs : scanG s s.length 1 [] with
    | none => rw [hs] at h; cases h
    | some p =>
      obtain ⟨w, q⟩ := p
      rw [hs] at h
      have := scan_le _ _ _ _ _ hs
      cases h; omega
  · rw [one4 k0 k1 k2 k3] at h; cases h
/-! Readers of what stands as a text. -/
def thenR {α β : Type} (w : Rd → α × Rd) (h : α → β × Bool) (r : Rd) : β × Rd := ((h (w r).1).1, { (w r).2 with bad := (w r).2.bad || !(h (w r).1).2 })
def bindR {α β : Type} (f : Rd → α × Rd) (g : α → Rd → β × Rd) (r : Rd) : β × Rd := g (f r).1 (f r).2
section
variable {α β : Type} {f g : Rd → α × Rd}
theorem Same.thens (hw : Same f g) {h k : α → β × Bool} (he : ∀ t, (h t).2 = (k t).2 ∧ ((h t).2 = true → (h t).1 = (k t).1)) : Same (thenR f h) (thenR g k) where
  like {s i} hl := by
    have a := hw.like hl
    obtain ⟨⟨a1, a2, a3⟩, a4⟩ := a
    unfold thenR
    generalize f s = x at *
    generalize g i = y at *
    rcases x with ⟨x, t, p, b⟩
    rcases y with ⟨y, t', p', b'⟩
    simp only at a1 a2 a3 a4 ⊢
    subst a1 a2
    cases b with
    | true => exact ⟨⟨rfl, by simp only [Bool.true_or], fun hh => by cases hh⟩, fun hh => by cases hh⟩
    | false =>
      have a3 := a3 rfl
      have a4 := a4 rfl
      subst a3 a4
      obtain ⟨h1, h2⟩ := he x
      refine ⟨⟨rfl, by simp only [h1], fun _ => rfl⟩, fun hh => h2 ?_⟩
      have hh : (!(h x).2) = false := hh
      simpa using hh
  stickS {r} hb := by
    have hb : ((f r).2.bad || !(h (f r).1).2) = false := hb
    exact hw.stickS (Bool.or_eq_false_iff.1 hb).1
  stickI {r} hb := by
    have hb : ((g r).2.bad || !(k (g r).1).2) = false := hb
    exact hw.stickI (Bool.or_eq_false_iff.1 hb).1
  textS r := hw.textS r
  textI r := hw.textI r
theorem Same.bind (h : Same f g) {f' g' : α → Rd → β × Rd} (h' : ∀ a, Same (f' a) (g' a)) : Same (bindR f f') (bindR g g') where
  like {s i} hl := by
    have a := h.like hl
    unfold bindR
    cases hb : (f s).2.bad with
    | false => rw [a.val hb]; exact (h' _).like a.rd
    | true =>
      have hb2 : (g i).2.bad = true := by rw [← a.rd.bad]; exact hb
      have e1 : (f' (f s).1 (f s).2).2.bad = true := by
        cases e : (f' (f s).1 (f s).2).2.bad with
        | true => rfl
        | false => rw [(h' _).stickS e] at hb; cases hb
      have e2 : (g' (g i).1 (g i).2).2.bad = true := by
        cases e : (g' (g i).1 (g i).2).2.bad with
        | true => rfl
        | false => rw [(h' _).stickI e] at hb2; cases hb2
      exact ⟨⟨by rw [(h' _).textS, (h' _).textI]; exact a.rd.text, by rw [e1, e2], fun hh => by rw [e1] at hh; cases hh⟩, fun hh => by rw [e1] at hh; cases hh⟩
  stickS hb := h.stickS ((h' _).stickS hb)
  stickI hb := h.stickI ((h' _).stickI hb)
  textS r := ((h' _).textS _).trans (h.textS r)
  textI r := ((h' _).textI _).trans (h.textI r)
end
/-- A list that a stricter reader reads: as the other, or bad. -/
theorem list_strict {α : Type} {f g : Rd → α × Rd} {Q : α → Bool} (he : ∀ r, g r = ((f r).1, { (f r).2 with bad := (f r).2.bad || !Q (f r).1 })) (st : ∀ {r : Rd}, (g r).2.bad = false → r.bad = false) :
    ∀ (k : Nat) (r : Rd), (listR g k r = listR f k r ∧ ∀ x, x ∈ (listR f k r).1 → Q x = true) ∨ ((∃ x, x ∈ (listR f k r).1 ∧ Q x = false) ∧ (listR g k r).2.bad = true)
  | 0, r => Or.inl ⟨rfl, fun x hx => by cases hx⟩
  | k + 1, r => by
    cases hq : Q (f r).1 with
    | true =>
      have e : g r = f r := by
        rw [he r, hq]
        generalize f r = q
        rcases q with ⟨a, t, p, b⟩
        simp only [Bool.not_true, Bool.or_false]
      rcases list_strict he st k (f r).2 with ⟨h1, h2⟩ | ⟨⟨x, hx, h1⟩, h2⟩
      · left
        refine ⟨by simp only [listR, e, h1], fun x hx => ?_⟩
        rcases List.mem_cons.1 hx with rfl | hx
        · exact hq
        · exact h2 x hx
      · right
        refine ⟨⟨x, List.mem_cons_of_mem _ hx, h1⟩, ?_⟩
        show (listR g k (g r).2).2.bad = true
        rw [e]; exact h2
    | false =>
      right
      refine ⟨⟨_, List.mem_cons_self .., hq⟩, ?_⟩
      show (listR g k (g r).2).2.bad = true
      have hb : (g r).2.bad = true := by rw [he r, hq]; simp only [Bool.not_false, Bool.or_true]
      have hs : ∀ (k : Nat) (r : Rd), (listR g k r).2.bad = false → r.bad = false := fun k => by
        induction k with
        | zero => exact fun r h => h
        | succ k ih => exact fun r h => st (ih _ h)
      cases e : (listR g k (g r).2).2.bad with
      | true => rfl
      | false => rw [hs k _ e] at hb; cases hb
/-! Ops. -/
structure Op where
  kind : Int
  table : List UInt8
  sch : Schema
  row : List Val
def valuesP (vs : List Val) : Prop := vs.length ≤ 12 ∧ ∀ v, v ∈ vs → valueP v
def noSchP (s : Schema) : Prop := s.name = [] ∧ s.cols.length = 0 ∧ s.keys.length = 0 ∧ s.idxs.length = 0
def opP (o : Op) : Prop := (o.kind = 1 ∧ schemaP o.sch ∧ o.table = [] ∧ o.row.length = 0) ∨ ((o.kind = 2 ∨ o.kind = 3 ∨ o.kind = 4) ∧ nameOk o.table = true ∧ noSchP o.sch ∧ valuesP o.row)
def opsP (os : List Op) : Prop := (1 ≤ os.length ∧ os.length ≤ 20) ∧ ∀ o, o ∈ os → opP o
noncomputable def opQ (o : Op) : Bool := !decide (o.kind = 1) || dec (schemaP o.sch)
theorem opQ_of {o : Op} (h : opP o) : opQ o = true := by
  rcases h with ⟨h1, h2, _⟩ | ⟨h1, _⟩
  · rw [opQ, dec_true h2, Bool.or_true]
  · rw [opQ, decide_eq_false (by omega)]; rfl
noncomputable def valsS : Rd → List Val × Rd := thenR specTextR keyP
noncomputable def valsI : Rd → List Val × Rd := thenR implWordR fun t => (valsOf (keyM t), decide (codeOf (keyM t) = 0))
noncomputable def schS : Rd → Schema × Rd := thenR specTextR fun t => ((schR specRs (begR t)).1, overR (schR specRs (begR t)).2)
noncomputable def schT : Rd → Schema × Rd := thenR specTextR fun t => ((schR specRs (begR t)).1, overR (schR specRs (begR t)).2 && dec (schemaP (schR specRs (begR t)).1))
noncomputable def schI : Rd → Schema × Rd := thenR implWordR fun t => ((schR implRs (begR t)).1, schOkI t)
theorem same_vals : Same valsS valsI := same_word.thens fun t => by
  simp only [keyP_V, okOf]
  cases h : (keyP t).2 with
  | true => exact ⟨rfl, fun _ => rfl⟩
  | false => exact ⟨rfl, fun hh => by cases hh⟩
theorem same_schT : Same schT schI := same_word.thens fun t => by
  obtain ⟨h1, h2⟩ := sch_same t
  simp only [schOkI]
  rw [h1]
  cases ho : overR (schR implRs (begR t)).2 with
  | true => rw [h2 ho]; exact ⟨rfl, fun _ => rfl⟩
  | false => exact ⟨rfl, fun hh => by cases hh⟩
def opG (w : Rd → List UInt8 × Rd) (sc : Rd → Schema × Rd) (vs : Rd → List Val × Rd) (k : Int) (r : Rd) : Op × Rd := match decide (k = 1) with
  | true => mapR (fun s => (⟨k, [], s, []⟩ : Op)) sc r
  | false => mapR (fun p => (⟨k, p.1, noSch, p.2⟩ : Op)) (seqR w vs) r
noncomputable def opS : Rd → Op × Rd := bindR specNumR (opG specTextR schS valsS)
noncomputable def opT : Rd → Op × Rd := bindR specNumR (opG specTextR schT valsS)
noncomputable def opI : Rd → Op × Rd := bindR implNumR (opG implWordR schI valsI)
theorem same_opG {w w' : Rd → List UInt8 × Rd} {sc sc' : Rd → Schema × Rd} {vs vs' : Rd → List Val × Rd} (hw : Same w w') (hs : Same sc sc') (hv : Same vs vs') (k : Int) : Same (opG w sc vs k) (opG w' sc' vs' k) := by
  unfold opG
  cases decide (k = 1) with
  | true => exact hs.map _
  | false => exact (hw.seq hv).map _
theorem same_opT : Same opT opI := same_num.bind (same_opG same_word same_schT same_vals)
theorem opT_eq (r : Rd) : opT r = ((opS r).1, { (opS r).2 with bad := (opS r).2.bad || !opQ (opS r).1 }) := by
  unfold opT opS bindR opG
  cases h : decide ((specNumR r).1 = 1) with
  | true =>
    have hq : ∀ s : Schema, opQ ⟨(specNumR r).1, [], s, []⟩ = dec (schemaP s) := fun s => by
      show (!decide ((specNumR r).1 = 1) || dec (schemaP s)) = _
      rw [h]; rfl
    simp only [mapR, schT, schS, thenR, hq, Bool.not_and, Bool.or_assoc]
  | false =>
    have hq : ∀ (t : List UInt8) (v : List Val), opQ ⟨(specNumR r).1, t, noSch, v⟩ = true := fun t v => by
      show (!decide ((specNumR r).1 = 1) || dec (schemaP noSch)) = _
      rw [h]; rfl
    simp only [mapR, hq, Bool.not_true, Bool.or_false]
noncomputable def opsS : Rd → List Op × Rd := timesR (specManyR · 20) opS
noncomputable def opsT : Rd → List Op × Rd := timesR (specManyR · 20) opT
noncomputable def opsI : Rd → List Op × Rd := timesR (implManyR · 20) opI
theorem same_opsT : Same opsT opsI := (same_many 20).times same_opT
noncomputable def opsOk (l : List UInt8) : Bool := overR (opsI (begR l)).2 && dec (opsP (opsI (begR l)).1)
theorem ops_same (l : List UInt8) : (overR (opsS (begR l)).2 && dec (opsP (opsS (begR l)).1)) = opsOk l ∧ (opsOk l = true → (opsS (begR l)).1 = (opsI (begR l)).1) := by
  have h := same_opsT.like (like_beg l)
  have e := over_like h.rd
  have e2 : overR (opsT (begR l)).2 = true → (opsT (begR l)).1 = (opsI (begR l)).1 := fun ho => h.val (over_good ho)
  rcases list_strict (Q := opQ) opT_eq same_opT.stickS (specManyR (begR l) 20).1.toNat (specManyR (begR l) 20).2 with ⟨h1, h2⟩ | ⟨⟨x, hx, h1⟩, h2⟩
  · have h1 : opsT (begR l) = opsS (begR l) := h1
    rw [h1] at e e2
    unfold opsOk
    rw [← e]
    cases ho : overR (opsS (begR l)).2 with
    | true => rw [e2 ho]; exact ⟨rfl, fun _ => rfl⟩
    | false => exact ⟨rfl, fun hh => by cases hh⟩
  · have hx : x ∈ (opsS (begR l)).1 := hx
    have h2 : (opsT (begR l)).2.bad = true := h2
    have o1 : overR (opsI (begR l)).2 = false := by rw [← e, overR, h2]; rfl
    have o2 : dec (opsP (opsS (begR l)).1) = false := dec_false fun hP => by
      have := opQ_of (hP.2 x hx)
      rw [h1] at this; cases this
    unfold opsOk
    rw [o1, o2, Bool.and_false]
    exact ⟨rfl, fun hh => by cases hh⟩
/-! How great. -/
structure Op.small (o : Op) : Prop where
  table : o.table.length ≤ 20000
  sch : o.sch.small
  row : o.row.length ≤ 12
theorem schS_small {r : Rd} (hl : r.text.length ≤ 20000) : (schR specRs r).1.small := by
  have hm := fun (r' : Rd) => manyS_range r' (most := 10) (by decide)
  have hm4 := fun (r' : Rd) => manyS_range r' (most := 4) (by decide)
  have hlist : ∀ r' : Rd, (specNumsR r').1.length ≤ 10 := fun r' => by
    have e : (specNumsR r').1.length = (specManyR r' 10).1.toNat := list_len _ _
    rw [e]; have := hm r'; omega
  refine ⟨small_max (Nat.le_trans (wordS_len r) hl), ?_, hlist _, ?_, ?_⟩
  · show (timesR (specManyR · 10) (colR specRs) (specTextR r).2).1.length ≤ 10
    rw [timesR, list_len]; have := hm (specTextR r).2; show (specManyR (specTextR r).2 10).1.toNat ≤ 10; omega
  · show (timesR (specManyR · 4) (idxR specRs) _).1.length ≤ 4
    rw [timesR, list_len]; have := hm4 (specNumsR (timesR (specManyR · 10) (colR specRs) (specTextR r).2).2).2; show (specManyR (specNumsR (timesR (specManyR · 10) (colR specRs) (specTextR r).2).2).2 4).1.toNat ≤ 4; omega
  · intro i hi
    obtain ⟨r', h1, rfl⟩ := list_mem same_idx.textS hi
    exact hlist r'
theorem schS_fits {r : Rd} (hl : r.text.length ≤ 20000) : (schR specRs r).1.fits := by
  have h := schS_small hl
  refine ⟨h.name, Nat.le_trans h.cols (Nat.le_of_ble_eq_true rfl), ?_, Nat.le_trans h.keys (Nat.le_of_ble_eq_true rfl), Nat.le_trans h.idxs (Nat.le_of_ble_eq_true rfl), fun i hi => Nat.le_trans (h.lists i hi) (Nat.le_of_ble_eq_true rfl)⟩
  intro c hc
  obtain ⟨r', h1, rfl⟩ := list_mem same_col.textS hc
  exact small_max (Nat.le_trans (wordS_len r') (by rw [h1]; show (specManyR (specTextR r).2 10).2.text.length ≤ 20000; rw [(same_many 10).textS, same_word.textS]; exact hl))
theorem noSch_fits : noSch.fits := ⟨Nat.zero_le _, Nat.zero_le _, fun c hc => (by cases hc), Nat.zero_le _, Nat.zero_le _, fun i hi => by cases hi⟩
theorem opI_small {r : Rd} (hl : r.text.length ≤ 20000) : (opI r).1.small ∧ (opI r).1.sch.fits := by
  unfold opI bindR opG
  have t1 : (implNumR r).2.text = r.text := rfl
  cases h : decide ((implNumR r).1 = 1) with
  | true =>
    have hw : (implWordR (implNumR r).2).1.length ≤ 20000 := Nat.le_trans (wordI_len _) (by rw [t1]; exact hl)
    exact ⟨⟨Nat.zero_le _, schI_small hw, Nat.zero_le _⟩, schI_fits hw⟩
  | false => exact ⟨⟨Nat.le_trans (wordI_len _) (by rw [t1]; exact hl), noSch_small, valsOf_len _⟩, noSch_fits⟩
theorem opS_small {r : Rd} (hl : r.text.length ≤ 20000) : (opS r).1.small ∧ (opS r).1.sch.fits := by
  unfold opS bindR opG
  have t1 : (specNumR r).2.text = r.text := specNumR_text r
  cases h : decide ((specNumR r).1 = 1) with
  | true =>
    have hw : (specTextR (specNumR r).2).1.length ≤ 20000 := Nat.le_trans (wordS_len _) (by rw [t1]; exact hl)
    exact ⟨⟨Nat.zero_le _, schS_small hw, Nat.zero_le _⟩, schS_fits hw⟩
  | false => exact ⟨⟨Nat.le_trans (wordS_len _) (by rw [t1]; exact hl), noSch_small, keyP_len _⟩, noSch_fits⟩
theorem schS_text (r : Rd) : (schS r).2.text = r.text := same_word.textS r
theorem valsS_text (r : Rd) : (valsS r).2.text = r.text := same_word.textS r
theorem schI_text (r : Rd) : (schI r).2.text = r.text := rfl
theorem valsI_text (r : Rd) : (valsI r).2.text = r.text := rfl
theorem opS_text (r : Rd) : (opS r).2.text = r.text := by
  unfold opS bindR opG
  cases h : decide ((specNumR r).1 = 1) with
  | true => exact (schS_text _).trans (specNumR_text r)
  | false => exact (valsS_text _).trans ((specTextR_text _).trans (specNumR_text r))
theorem opI_text (r : Rd) : (opI r).2.text = r.text := same_opT.textI r
theorem opsI_small {r : Rd} (hl : r.text.length ≤ 20000) : (opsI r).1.length ≤ 20 ∧ ∀ o, o ∈ (opsI r).1 → o.small ∧ o.sch.fits := by
  constructor
  · show (listR opI (implManyR r 20).1.toNat _).1.length ≤ 20
    rw [list_len]; have := manyI_range r (most := 20) (by decide); omega
  · intro o ho
    obtain ⟨r', h1, rfl⟩ := list_mem opI_text ho
    exact opI_small (by rw [h1]; exact hl)
theorem opsS_small {r : Rd} (hl : r.text.length ≤ 20000) : (opsS r).1.length ≤ 20 ∧ ∀ o, o ∈ (opsS r).1 → o.small ∧ o.sch.fits := by
  constructor
  · show (listR opS (specManyR r 20).1.toNat _).1.length ≤ 20
    rw [list_len]; have := manyS_range r (most := 20) (by decide); omega
  · intro o ho
    obtain ⟨r', h1, rfl⟩ := list_mem opS_text ho
    exact opS_small (by rw [h1, (same_many 20).textS]; exact hl)
end Go.Pm.Tryz
/-
Keys and schemas within a text: the reference's readers.
-/
namespace Go.Pm.Tryz
open Go Go.Proofs
set_option linter.unusedVariables false
set_option linter.unusedSimpArgs false
set_option maxRecDepth 100000
theorem drop_ne {l : List UInt8} {a : Nat} (h : a < l.length) : ¬ l.drop a = [] := fun e => by
  have := congrArg List.length e
  rw [List.length_drop] at this
  simp only [List.length_nil] at this; omega
theorem two_bad {a : Nat} {v : Val} {n : Int} {o : Option (Val × Nat)} {ok : Bool} (h : TwoQ a v n ok o) (e : ok = false) : o = none := by
  subst e
  cases o with
  | none => rfl
  | some p => obtain ⟨w, m⟩ := p; obtain ⟨_, _, h3⟩ := h; cases h3
theorem two_good {a : Nat} {v : Val} {n : Int} {o : Option (Val × Nat)} {ok : Bool} (h : TwoQ a v n ok o) (e : ok = true) : ∃ m : Nat, o = some (v, m) ∧ n = ((a + m : Nat) : Int) := by
  subst e
  cases o with
  | none => cases h
  | some p => obtain ⟨w, m⟩ := p; obtain ⟨rfl, h2, h3⟩ := h; exact ⟨m, rfl, h2⟩
set_option maxHeartbeats 4000000 in
theorem specRead (l : List UInt8) (hl : l.length ≤ 20000) : Ent Tryz.prog 198 [.d (.s l)] [] (.tup [.d (.sl false ((keyP l).1.map valD)), .d (.b (keyP l).2)]) [] := by
  obtain ⟨o, ho⟩ : ∃ o, o = keyP l := ⟨_, rfl⟩
  rw [← ho]
  refine ent_of tok mixed (f := 198) Tryz.func198 (by kernel_rfl) (keep := false) ?_
  repeat' ((conv => whnf) <;> (first
    | ((with_reducible refine isCall ?_) <;> (first
        | (refine ⟨_, l02Value l hl a (lt_of_dec' (by assumption)), ?_⟩; rintro _ _ ⟨rfl, v, n, ok, rfl, hq⟩)
        | (refine ⟨_, specValueRight _, ?_⟩; rintro _ _ ⟨rfl, rfl⟩)
        | (refine ⟨⟨by decide, rfl, rfl, room_add (by rw [List.length_map]; omega) (by decide)⟩, ?_⟩)
        | fail))
    | ((with_reducible refine isLoop ?_) <;> (first
        | (refine ⟨[0, 4, 5], [10009], fun st => ∃ (f a : Nat) (i : Int) (acc : List Val) (xs : List D), i = a ∧ a ≤ l.length ∧ l.length < a + f ∧ acc.length ≤ 12 ∧ o = readP f (l.drop a) acc ∧ xs = acc.map valD ∧ st = ⟨[(0, .d (.s l)), (4, .own 10009), (5, .d (.i .i64 i))], [(10009, .arr 3 false xs)]⟩, fun st => match look 5 st.env with | some (.d (.i _ i)) => l.length - i.toNat | _ => 0, rfl, ⟨l.length + 1, 0, _, [], _, rfl, Nat.zero_le _, by omega, by decide, ho, rfl, rfl⟩, ?_⟩; rintro st ⟨f, a, i, acc, xs, rfl, hal, haf, hacc, hr, rfl, rfl⟩)
        | (refine ⟨⟨by decide, rfl, rfl, room_add (by rw [List.length_map]; omega) (by decide)⟩, ?_⟩)
        | fail))
    | ((with_reducible refine isCut ?_) <;> (first
        | refine ⟨⟨none⟩, ?_⟩))
    | ((first | with_reducible refine isEx ?_ | with_reducible refine isAnd ?_ | with_reducible refine isOr ?_) <;> (first
        | (refine ⟨⟨by decide, rfl, rfl, room_add (by rw [List.length_map]; omega) (by decide)⟩, ?_⟩)
        | ((with_reducible refine isSmall ?_) <;> (refine ⟨?_, ?_⟩; kernel_rfl))
        | refine ⟨rfl, ?_⟩
        | refine ⟨Int.natCast_nonneg _, ?_⟩))
    | with_reducible refine Both.mk ?_ ?_
    | rintro _ rfl
    | exact rfl
    | (split <;> (rename_i h; first | (simp only [beq_self_eq_true, eq_self, decide_true, Bool.not_true, Bool.false_eq_true] at h; done) | (try rw [h])))))
  all_goals (conv => whnf)
  all_goals first
    | (have ha : a < l.length := lt_of_dec' (by assumption)
       have e : ok = false := not_ok' h
       rw [hr, readP_bad (drop_ne ha) (two_bad hq e)]; exact ⟨rfl, rfl⟩)
    | (have ha : a < l.length := lt_of_dec' (by assumption)
       have e : ok = true := not_ok (by assumption)
       obtain ⟨m, h1, h2⟩ := two_good hq e
       rw [hr, readP_no (drop_ne ha) h1 (by rw [not_ok' h, Bool.false_and])]; exact ⟨rfl, rfl⟩)
    | (have ha : a < l.length := lt_of_dec' (by assumption)
       have e : ok = true := not_ok (by assumption)
       obtain ⟨m, h1, h2⟩ := two_good hq e
       have hq12 := of_decide_eq_true h
       rw [List.length_map] at hq12
       rw [hr, readP_no (drop_ne ha) h1 (by rw [decide_eq_false (by omega : ¬ acc.length < 12), Bool.and_false])]; exact ⟨rfl, rfl⟩)
    | (have ha : a = l.length := by have := of_decide_eq_false h; omega
       rw [hr, ha, List.drop_length, readP_end (by omega)]; exact ⟨rfl, rfl⟩)
    | (have ha : a < l.length := lt_of_dec' (by assumption)
       have e : ok = true := not_ok (by assumption)
       obtain ⟨m, h1, h2⟩ := two_good hq e
       have hm := oneM_le (by rw [List.length_drop]; omega) h1
       rw [List.length_drop] at hm
       have hq12 := of_decide_eq_false h
       rw [List.length_map] at hq12
       have hy := readP_yes (f := f) (acc := acc) (by omega) (drop_ne ha) h1 (by rw [not_ok (by assumption : (!dec (valueP v)) = false), decide_eq_true (by omega : acc.length < 12)]; rfl)
       rw [List.drop_drop] at hy
       have hd : l.length - n.toNat < l.length - (a : Int).toNat := by rw [h2]; omega
       exact ⟨⟨f - 1, a + m, _, acc ++ [v], _, h2, by omega, by omega, by simp only [List.length_append, List.length_cons, List.length_nil]; omega, by rw [hr, hy], by rw [List.map_append]; rfl, rfl⟩, hd⟩)
    | trace_state
set_option maxHeartbeats 1000000 in
theorem specValues (r : Rd) (hl : r.text.length ≤ 20000) : Ent Tryz.prog 117 [.ptr 0 0] [.var (rdC r)] (.d (.sl false ((valsS r).1.map valD))) [.var (rdC (valsS r).2)] := by
  have c1 := specText r hl
  have c2 := specRead (specTextR r).1 (Nat.le_trans (wordS_len r) hl)
  have e1 : (valsS r).1 = (keyP (specTextR r).1).1 := rfl
  have e2 : (valsS r).2 = { (specTextR r).2 with bad := (specTextR r).2.bad || !(keyP (specTextR r).1).2 } := rfl
  rw [e1, e2]
  generalize keyP (specTextR r).1 = k at *
  generalize specTextR r = w at *
  rcases w with ⟨w, t, p, b⟩
  rcases k with ⟨vs, ok⟩
  cases ok <;> cases b
  all_goals
    refine ent_of tok mixed (f := 117) Tryz.func117 (by kernel_rfl) (keep := false) ?_
    repeat' ((conv => whnf) <;> (first
      | ((with_reducible refine isCall ?_) <;> (first
          | (refine ⟨_, c1, ?_⟩; rintro _ _ ⟨rfl, rfl⟩)
          | (refine ⟨_, c2, ?_⟩; rintro _ _ ⟨rfl, rfl⟩)
          | fail))
      | ((with_reducible refine isLoop ?_) <;> (first
          | fail))
      | ((with_reducible refine isCut ?_) <;> (first
          | refine ⟨⟨none⟩, ?_⟩))
      | ((first | with_reducible refine isEx ?_ | with_reducible refine isAnd ?_ | with_reducible refine isOr ?_) <;> (first
          | ((with_reducible refine isSmall ?_) <;> (refine ⟨?_, ?_⟩; kernel_rfl))
          | refine ⟨rfl, ?_⟩
          | refine ⟨Int.natCast_nonneg _, ?_⟩))
      | with_reducible refine Both.mk ?_ ?_
      | rintro _ rfl
      | exact rfl
      | (split <;> (rename_i h; first | (simp only [beq_self_eq_true, eq_self, decide_true, Bool.not_true, Bool.false_eq_true] at h; done) | (try rw [h])))))
set_option maxHeartbeats 1000000 in
theorem specSchemaIn (r : Rd) (hl : r.text.length ≤ 20000) : Ent Tryz.prog 116 [.ptr 0 0] [.var (rdC r)] (.d (schemaD (schS r).1)) [.var (rdC (schS r).2)] := by
  have c1 := specText r hl
  have c2 := specSchema (begR (specTextR r).1) (Nat.le_trans (wordS_len r) hl)
  have c3 := specDone (schR specRs (begR (specTextR r).1)).2
  have e1 : (schS r).1 = (schR specRs (begR (specTextR r).1)).1 := rfl
  have e2 : (schS r).2 = { (specTextR r).2 with bad := (specTextR r).2.bad || !overR (schR specRs (begR (specTextR r).1)).2 } := rfl
  rw [e1, e2]
  generalize overR (schR specRs (begR (specTextR r).1)).2 = ok at *
  generalize schR specRs (begR (specTextR r).1) = k at *
  generalize specTextR r = w at *
  rcases w with ⟨w, t, p, b⟩
  cases ok <;> cases b
  all_goals
    refine ent_of tok mixed (f := 116) Tryz.func116 (by kernel_rfl) (keep := false) ?_
    repeat' ((conv => whnf) <;> (first
      | ((with_reducible refine isCall ?_) <;> (first
          | (refine ⟨_, c1, ?_⟩; rintro _ _ ⟨rfl, rfl⟩)
          | (refine ⟨_, c2, ?_⟩; rintro _ _ ⟨rfl, rfl⟩)
          | (refine ⟨_, c3, ?_⟩; rintro _ _ ⟨rfl, rfl⟩)
          | fail))
      | ((with_reducible refine isLoop ?_) <;> (first
          | fail))
      | ((with_reducible refine isCut ?_) <;> (first
          | refine ⟨⟨none⟩, ?_⟩))
      | ((first | with_reducible refine isEx ?_ | with_reducible refine isAnd ?_ | with_reducible refine isOr ?_) <;> (first
          | ((with_reducible refine isSmall ?_) <;> (refine ⟨?_, ?_⟩; kernel_rfl))
          | refine ⟨rfl, ?_⟩
          | refine ⟨Int.natCast_nonneg _, ?_⟩))
      | with_reducible refine Both.mk ?_ ?_
      | rintro _ rfl
      | exact rfl
      | (split <;> (rename_i h; first | (simp only [beq_self_eq_true, eq_self, decide_true, Bool.not_true, Bool.false_eq_true] at h; done) | (try rw [h])))))
theorem erase_cols : ∀ l : List Col, eraseL (l.map colD) = l.map colD
  | [] => rfl
  | x :: l => by simp only [List.map_cons, eraseL, erase_cols l]; rfl
theorem erase_vals : ∀ l : List Val, eraseL (l.map valD) = l.map valD
  | [] => rfl
  | x :: l => by simp only [List.map_cons, eraseL, erase_vals l]; rfl
set_option maxHeartbeats 1000000 in
theorem implValues (r : Rd) (hl : r.text.length ≤ 20000) : Ent Tryz.prog 121 [.ptr 0 0] [.var (rdC r)] (.own 1) [.var (rdC (valsI r).2), .arr 3 false ((valsI r).1.map valD)] := by
  have c1 := implWordRd r hl
  have c2 := implKeyRead (implWordR r).1 (Nat.le_trans (wordI_len r) hl)
  have e1 : (valsI r).1 = valsOf (keyM (implWordR r).1) := rfl
  have e2 : (valsI r).2 = { (implWordR r).2 with bad := (implWordR r).2.bad || !decide (codeOf (keyM (implWordR r).1) = 0) } := rfl
  rw [e1, e2]
  generalize codeOf (keyM (implWordR r).1) = c at *
  generalize valsOf (keyM (implWordR r).1) = k at *
  generalize implWordR r = w at *
  rcases w with ⟨w, t, p, b⟩
  cases b
  all_goals
    refine ent_of (cx := ⟨tab, [], []⟩) tok mixed (f := 121) Tryz.func121 (by kernel_rfl) (keep := true) ?_
    repeat' ((conv => whnf) <;> (first
      | ((with_reducible refine isCall ?_) <;> (first
          | (refine ⟨_, c1, ?_⟩; rintro _ _ ⟨rfl, rfl⟩)
          | (refine ⟨_, c2, ?_⟩; rintro _ _ ⟨rfl, rfl⟩)
          | fail))
      | ((with_reducible refine isLoop ?_) <;> (first
          | fail))
      | ((with_reducible refine isCut ?_) <;> (first
          | refine ⟨⟨none⟩, ?_⟩))
      | ((first | with_reducible refine isEx ?_ | with_reducible refine isAnd ?_ | with_reducible refine isOr ?_) <;> (first
          | ((with_reducible refine isSmall ?_) <;> (refine ⟨?_, ?_⟩; kernel_rfl))
          | refine ⟨rfl, ?_⟩
          | refine ⟨Int.natCast_nonneg _, ?_⟩))
      | with_reducible refine Both.mk ?_ ?_
      | rintro _ rfl
      | exact rfl
      | (split <;> (rename_i h; first | (simp only [beq_self_eq_true, eq_self, decide_true, Bool.not_true, Bool.false_eq_true] at h; done) | (try rw [h])))))
set_option maxHeartbeats 1000000 in
theorem implSchemaIn (r : Rd) (hl : r.text.length ≤ 20000) : Ent Tryz.prog 120 [.ptr 0 0] [.var (rdC r)] (.agg [.d (.s (schI r).1.name), .own 1, .own 2, .own 3]) [.var (rdC (schI r).2), .arr 3 false ((schI r).1.cols.map colD), .arr 1 false ((schI r).1.keys.map i64D), .arr 2 true ((schI r).1.idxs.map idxO)] := by
  have c1 := implWordRd r hl
  have c2 := implSchemaRead (implWordR r).1 (Nat.le_trans (wordI_len r) hl)
  have e1 : (schI r).1 = (schR implRs (begR (implWordR r).1)).1 := rfl
  have e2 : (schI r).2 = { (implWordR r).2 with bad := (implWordR r).2.bad || !schOkI (implWordR r).1 } := rfl
  rw [e1, e2]
  generalize schOkI (implWordR r).1 = ok at *
  generalize (schR implRs (begR (implWordR r).1)).1 = k at *
  generalize implWordR r = w at *
  rcases w with ⟨w, t, p, b⟩
  cases b <;> cases ok
  all_goals
    refine ent_of (cx := ⟨tab, [], []⟩) tok mixed (f := 120) Tryz.func120 (by kernel_rfl) (keep := true) ?_
    repeat' ((conv => whnf) <;> (first
      | ((with_reducible refine isCall ?_) <;> (first
          | (refine ⟨_, c1, ?_⟩; rintro _ _ ⟨rfl, rfl⟩)
          | (refine ⟨_, c2, ?_⟩; rintro _ _ ⟨rfl, rfl⟩)
          | fail))
      | ((with_reducible refine isLoop ?_) <;> (first
          | fail))
      | ((with_reducible refine isCut ?_) <;> (first
          | refine ⟨⟨none⟩, ?_⟩))
      | ((first | with_reducible refine isEx ?_ | with_reducible refine isAnd ?_ | with_reducible refine isOr ?_) <;> (first
          | ((with_reducible refine isSmall ?_) <;> (refine ⟨?_, ?_⟩; kernel_rfl))
          | refine ⟨rfl, ?_⟩
          | refine ⟨Int.natCast_nonneg _, ?_⟩))
      | with_reducible refine Both.mk ?_ ?_
      | rintro _ rfl
      | exact rfl
      | (split <;> (rename_i h; first | (simp only [beq_self_eq_true, eq_self, decide_true, Bool.not_true, Bool.false_eq_true] at h; done) | (try rw [h])))))
theorem twelve {n : Nat} (h : n ≤ 12) : n ≤ maxLen := Nat.le_trans h (Nat.le_of_ble_eq_true rfl)
end Go.Pm.Tryz
