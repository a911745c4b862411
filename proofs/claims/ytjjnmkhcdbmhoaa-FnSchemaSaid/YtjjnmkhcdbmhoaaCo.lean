/-
Schemas, read.
-/
import Derived.Test.YtjjnmkhcdbmhoaaCm
namespace Go.Pm.Try
open Go Go.Proofs
set_option linter.unusedVariables false
set_option linter.unusedSimpArgs false
set_option maxRecDepth 100000
structure Readers where
  word : Rd → List UInt8 × Rd
  num : Rd → Int × Rd
  many : Rd → Int → Int × Rd
  yes : Rd → Bool × Rd
  list : Rd → List Int × Rd
def specRs : Readers := ⟨specTextR, specNumR, specManyR, specTruthR, specNumsR⟩
def implRs : Readers := ⟨implWordR, implNumR, implManyR, implYesR, implListR 10⟩
def colR (R : Readers) : Rd → Col × Rd := mapR (fun p => (⟨p.1.1, p.1.2, p.2⟩ : Col)) (seqR (seqR R.word R.num) R.yes)
def idxR (R : Readers) : Rd → Idx × Rd := mapR (fun p => (⟨p.1, p.2⟩ : Idx)) (seqR R.list R.yes)
def schR (R : Readers) : Rd → Schema × Rd := mapR (fun p => (⟨p.1.1.1, p.1.1.2, p.1.2, p.2⟩ : Schema)) (seqR (seqR (seqR R.word (timesR (R.many · 10) (colR R))) R.list) (timesR (R.many · 4) (idxR R)))
theorem same_col : Same (colR specRs) (colR implRs) := ((same_word.seq same_num).seq same_yes).map _
theorem same_idx : Same (idxR specRs) (idxR implRs) := (same_list.seq same_yes).map _
theorem same_sch : Same (schR specRs) (schR implRs) := (((same_word.seq ((same_many 10).times same_col)).seq same_list).seq ((same_many 4).times same_idx)).map _
theorem ten_room {α : Type} {f : α → D} {ss : List α} {j n : Nat} (h : ss.length + j ≤ n) (hn : n ≤ 1000000) (x : D) {b : Nat} (hb : b ≤ 10000) : room ((ss.map f).length + [x].length) b := room_add (by rw [List.length_map]; omega) hb
set_option maxHeartbeats 4000000 in
theorem specSchema (r : Rd) (hl : r.text.length ≤ 20000) : Ent Try.prog 39 [.ptr 0 0] [.var (rdC r)] (.d (schemaD (schR specRs r).1)) [.var (rdC (schR specRs r).2)] := by
  have c1 := specText r hl
  have t1 : (specTextR r).2.text.length ≤ 20000 := by rw [same_word.textS]; exact hl
  have c2 := specMany (specTextR r).2 t1 10
  have hr := manyS_range (specTextR r).2 (most := 10) (by decide)
  have t2 : (specManyR (specTextR r).2 10).2.text.length ≤ 20000 := by rw [(same_many 10).textS]; exact t1
  have e0 : timesR (specManyR · 10) (colR specRs) (specTextR r).2 = ([] ++ (listR (colR specRs) (specManyR (specTextR r).2 10).1.toNat (specManyR (specTextR r).2 10).2).1, (listR (colR specRs) (specManyR (specTextR r).2 10).1.toNat (specManyR (specTextR r).2 10).2).2) := rfl
  have ee : schR specRs r = (⟨(specTextR r).1, (timesR (specManyR · 10) (colR specRs) (specTextR r).2).1, (specNumsR (timesR (specManyR · 10) (colR specRs) (specTextR r).2).2).1, (timesR (specManyR · 4) (idxR specRs) (specNumsR (timesR (specManyR · 10) (colR specRs) (specTextR r).2).2).2).1⟩, (timesR (specManyR · 4) (idxR specRs) (specNumsR (timesR (specManyR · 10) (colR specRs) (specTextR r).2).2).2).2) := rfl
  generalize schR specRs r = o at *
  generalize timesR (specManyR · 10) (colR specRs) (specTextR r).2 = W at *
  generalize specManyR (specTextR r).2 10 = q at *
  generalize specTextR r = w at *
  refine ent_of tok mixed (f := 39) Try.func39 (by kernel_rfl) (keep := false) ?_
  repeat' ((conv => whnf) <;> (first | ((with_reducible refine isCall ?_) <;> (first | (refine ⟨_, c1, ?_⟩; rintro _ _ ⟨rfl, rfl⟩) | (refine ⟨_, c2, ?_⟩; rintro _ _ ⟨rfl, rfl⟩) | (refine ⟨_, specText rd ht, ?_⟩; rintro _ _ ⟨rfl, rfl⟩) | (refine ⟨_, specNum (specTextR rd).2 (by rw [same_word.textS]; exact ht), ?_⟩; rintro _ _ ⟨rfl, rfl⟩) | (refine ⟨_, specTruth_ (specNumR (specTextR rd).2).2 (by rw [same_num.textS, same_word.textS]; exact ht), ?_⟩; rintro _ _ ⟨rfl, rfl⟩) | (refine ⟨_, specNums_ rd ht, ?_⟩; rintro _ _ ⟨rfl, rfl⟩) | (refine ⟨_, specMany (specNumsR rd).2 (by rw [same_list.textS]; exact ht) 4, ?_⟩; rintro _ _ ⟨rfl, rfl⟩) | (refine ⟨_, specNums_ rd2 ht2, ?_⟩; rintro _ _ ⟨rfl, rfl⟩) | (refine ⟨_, specTruth_ (specNumsR rd2).2 (by rw [same_list.textS]; exact ht2), ?_⟩; rintro _ _ ⟨rfl, rfl⟩) | (refine ⟨⟨by decide, rfl, rfl, ten_room hss (by decide) _ (by decide)⟩, ?_⟩) | (refine ⟨⟨by decide, rfl, rfl, ten_room his (by decide) _ (by decide)⟩, ?_⟩) | fail)) | ((with_reducible refine isLoop ?_) <;> (first | (refine ⟨[4, 0, 2, 3], [0, 10002, 10003, .cell 10031 3 false 10003 1], fun st => ∃ (j : Nat) (n : Int) (ss : List Col) (rd : Rd) (xs : List D), n = j ∧ rd.text.length ≤ 20000 ∧ ss.length + j ≤ 10 ∧ W = (ss ++ (listR (colR specRs) j rd).1, (listR (colR specRs) j rd).2) ∧ xs = ss.map colD ∧ st = ⟨[(4, .d (.i .i64 n)), (0, .ptr 0 0), (2, .ptr 10002 0), (3, .ptr 10003 0)], [(0, .var (rdC rd)), (10002, .var [.d (.s []), .snil, .snil, .snil]), (10003, .var [.d (.s w.1), .own 10031, .snil, .snil]), (10031, .arr 3 false xs)]⟩, fun st => match look 4 st.env with | some (.d (.i _ n)) => n.toNat | _ => 0, rfl, ⟨_, _, [], _, [], (Int.toNat_of_nonneg hr.1).symm, t2, (by show 0 + _ ≤ 10; omega), e0, rfl, rfl⟩, ?_⟩; rintro st ⟨j, n, ss, rd, xs, rfl, ht, hss, ho, rfl, rfl⟩) | (refine ⟨[6, 0, 2, 3], [0, 10002, 10003, 10031, .cell 10053 2 false 10003 3], fun st => ∃ (j : Nat) (n : Int) (is : List Idx) (rd2 : Rd) (xs : List D), n = j ∧ rd2.text.length ≤ 20000 ∧ is.length + j ≤ 4 ∧ timesR (specManyR · 4) (idxR specRs) (specNumsR rd).2 = (is ++ (listR (idxR specRs) j rd2).1, (listR (idxR specRs) j rd2).2) ∧ xs = is.map idxD ∧ st = ⟨[(6, .d (.i .i64 n)), (0, .ptr 0 0), (2, .ptr 10002 0), (3, .ptr 10003 0)], [(0, .var (rdC rd2)), (10002, .var [.d (.s []), .snil, .snil, .snil]), (10003, .var [.d (.s w.1), .own 10031, .d (.sl false ((specNumsR rd).1.map i64D)), .own 10053]), (10031, .arr 3 false (ss.map colD)), (10053, .arr 2 false xs)]⟩, fun st => match look 6 st.env with | some (.d (.i _ n)) => n.toNat | _ => 0, rfl, ⟨(specManyR (specNumsR rd).2 4).1.toNat, _, [], (specManyR (specNumsR rd).2 4).2, [], (Int.toNat_of_nonneg (manyS_range (specNumsR rd).2 (most := 4) (by decide)).1).symm, (by rw [(same_many 4).textS, same_list.textS]; exact ht), (by have := (manyS_range (specNumsR rd).2 (most := 4) (by decide)).2; show 0 + _ ≤ 4; omega), rfl, rfl, rfl⟩, ?_⟩; rintro st ⟨j2, n, is, rd2, xs, rfl, ht2, his, hi, rfl, rfl⟩) | (refine ⟨⟨by decide, rfl, rfl, ten_room hss (by decide) _ (by decide)⟩, ?_⟩) | (refine ⟨⟨by decide, rfl, rfl, ten_room his (by decide) _ (by decide)⟩, ?_⟩) | fail)) | ((with_reducible refine isCut ?_) <;> (first | refine ⟨⟨none⟩, ?_⟩)) | ((first | with_reducible refine isEx ?_ | with_reducible refine isAnd ?_ | with_reducible refine isOr ?_) <;> (first | (refine ⟨⟨by decide, rfl, rfl, ten_room hss (by decide) _ (by decide)⟩, ?_⟩) | (refine ⟨⟨by decide, rfl, rfl, ten_room his (by decide) _ (by decide)⟩, ?_⟩) | ((with_reducible refine isSmall ?_) <;> (refine ⟨?_, ?_⟩; kernel_rfl)) | refine ⟨rfl, ?_⟩ | refine ⟨Int.natCast_nonneg _, ?_⟩)) | with_reducible refine Both.mk ?_ ?_ | rintro _ rfl | exact rfl | (split <;> (rename_i h; first | (simp only [beq_self_eq_true, eq_self, decide_true, Bool.not_true, Bool.false_eq_true] at h; done) | (try rw [h])))))
  all_goals (conv => whnf)
  all_goals first
    | (have hj := pos_of (by assumption : decide ((j2 : Int) > 0) = true)
       refine ⟨⟨j2 - 1, _, is ++ [(idxR specRs rd2).1], (idxR specRs rd2).2, _, down1 hj (by omega), (by rw [same_idx.textS]; exact ht2), ?_, list_step hi hj, ?_, rfl⟩, mu_down hj (by omega)⟩
       · simp only [List.length_append, List.length_cons, List.length_nil]; omega
       · rw [List.map_append]; rfl)
    | (rw [ee, list_end ho (none_of (by assumption)), list_end hi (none_of (by assumption))]; exact ⟨rfl, rfl⟩)
    | (have hj := pos_of (by assumption : decide ((j : Int) > 0) = true)
       refine ⟨⟨j - 1, _, ss ++ [(colR specRs rd).1], (colR specRs rd).2, _, down1 hj (by omega), (by rw [same_col.textS]; exact ht), ?_, list_step ho hj, ?_, rfl⟩, mu_down hj (by omega)⟩
       · simp only [List.length_append, List.length_cons, List.length_nil]; omega
       · rw [List.map_append]; rfl)
    | trace_state
end Go.Pm.Try
