/-
Numbers and texts as bytes: PutText.
-/
import Derived.Test.YtbenanocioeglaaBc
namespace Go.Pm.Try
open Go Go.Proofs
set_option linter.unusedVariables false
set_option linter.unusedSimpArgs false
set_option maxRecDepth 100000
theorem putU_len : ∀ (f u : Nat), (putU f u).length ≤ f + 1
  | 0, u => by simp [putU]
  | f + 1, u => by
    rw [putU]; split
    · simp
    · have := putU_len f (u / 128); simp only [List.length_cons]; omega
theorem putNum_len (n : Int) : (putNum n).length ≤ 10 := putU_len 9 _
theorem putU_ne (f u : Nat) : putU f u ≠ [] := by
  cases f with
  | zero => simp [putU]
  | succ f => rw [putU]; split <;> simp
theorem putNum_ne (n : Int) : putNum n ≠ [] := putU_ne 9 _
def putText (t : List UInt8) : List UInt8 := match decide ((t.length : Int) > 20000) with | true => [] | false => putNum t.length ++ t
theorem putText_len (t : List UInt8) : (putText t).length ≤ 20010 := by
  unfold putText
  split
  · simp
  · rename_i h
    have h := of_decide_eq_false h
    have := putNum_len t.length
    rw [List.length_append]; omega
theorem putText_long {t : List UInt8} (h : decide ((t.length : Int) > 20000) = true) : putText t = [] := by simp only [putText, h]
theorem putText_short {t : List UInt8} (h : decide ((t.length : Int) > 20000) = false) : putText t = putNum t.length ++ t := by simp only [putText, h]
theorem text_sum {x y : List UInt8} {a b : Nat} (h1 : x.length ≤ a) (h2 : y.length ≤ b) (h : a + b ≤ 9223372036854775807) : ((x.length + y.length : Nat) : Int) ≤ 9223372036854775807 := by omega
def strB (l : List UInt8) : D := .s l
theorem isLongs (ls : List (List UInt8)) (hs : ls.length ≤ maxLen) : Ent Try.prog 88 [.d (.sl false (ls.map strB))] [] (.d (.b (ls.any fun l => decide ((l.length : Int) > 20000)))) [] := by
  obtain ⟨u, hu⟩ : ∃ u, u = ls.any fun l => decide ((l.length : Int) > 20000) := ⟨_, rfl⟩
  rw [← hu]
  refine ent_of tok mixed (f := 88) Try.func88 (by kernel_rfl) (keep := false) ?_
  repeat' ((conv => whnf) <;> (first | ((with_reducible refine isCall ?_) <;> (first | (obtain ⟨t, ht⟩ := get_ex (ss := ls) (k := k) (lt_of_dec (by assumption)); refine ⟨_, get_map' ht, ?_⟩) | exact ⟨rfl, ⟨k + 1, _, step_up (get_lt ht) hs, get_lt ht, any_up' ht hv (by assumption), rfl⟩, mu_up (get_lt ht) hs⟩ | fail)) | ((with_reducible refine isLoop ?_) <;> (first | (refine ⟨[7, 6, 5], [], fun s => ∃ (k : Nat) (n : Int), n = k ∧ k ≤ ls.length ∧ (ls.take k).any (fun l => decide ((l.length : Int) > 20000)) = false ∧ s = ⟨[(7, .d (.i .i64 n)), (6, .d (.i .i64 ((ls.map strB).length : Int))), (5, .d (.sl false (ls.map strB)))], []⟩, fun s => match look 7 s.env with | some (.d (.i _ n)) => ls.length - n.toNat | _ => 0, rfl, ⟨0, _, rfl, Nat.zero_le _, rfl, rfl⟩, ?_⟩; rintro s ⟨k, n, rfl, hk, hv, rfl⟩) | (obtain ⟨t, ht⟩ := get_ex (ss := ls) (k := k) (lt_of_dec (by assumption)); refine ⟨_, get_map' ht, ?_⟩) | exact ⟨rfl, ⟨k + 1, _, step_up (get_lt ht) hs, get_lt ht, any_up' ht hv (by assumption), rfl⟩, mu_up (get_lt ht) hs⟩ | fail)) | ((with_reducible refine isCut ?_) <;> (first | refine ⟨⟨none⟩, ?_⟩)) | ((first | with_reducible refine isEx ?_ | with_reducible refine isAnd ?_ | with_reducible refine isOr ?_) <;> (first | (obtain ⟨t, ht⟩ := get_ex (ss := ls) (k := k) (lt_of_dec (by assumption)); refine ⟨_, get_map' ht, ?_⟩) | exact ⟨rfl, ⟨k + 1, _, step_up (get_lt ht) hs, get_lt ht, any_up' ht hv (by assumption), rfl⟩, mu_up (get_lt ht) hs⟩ | ((with_reducible refine isSmall ?_) <;> (refine ⟨?_, ?_⟩; kernel_rfl)) | refine ⟨rfl, ?_⟩ | refine ⟨Int.natCast_nonneg _, ?_⟩)) | with_reducible refine Both.mk ?_ ?_ | rintro _ rfl | exact rfl | (split <;> (rename_i h; first | (simp only [beq_self_eq_true, eq_self, decide_true, Bool.not_true, Bool.false_eq_true] at h; done) | (try rw [h])))))
  all_goals (conv => whnf)
  · refine ⟨congrArg (fun b => AV.d (D.b b)) ?_, rfl⟩
    rw [hu]; symm
    rw [List.any_eq_true]
    exact ⟨t, get_mem ht, h⟩
  · refine ⟨congrArg (fun b => AV.d (D.b b)) ?_, rfl⟩
    have e : k = ls.length := by have := of_decide_eq_false h; rw [List.length_map] at this; omega
    rw [e, List.take_length] at hv
    rw [hu, hv]
theorem isLong1 (l : List UInt8) : Ent Try.prog 88 [.d (.sl false [.s l])] [] (.d (.b (decide ((l.length : Int) > 20000)))) [] := by
  have h := isLongs [l] (Nat.le_of_ble_eq_true rfl)
  simp only [List.any_cons, List.any_nil, Bool.or_false] at h
  exact h
theorem specPutText (l : List UInt8) (hl : l.length ≤ 9223372036854775807) : Ent Try.prog 63 [.d (.s l)] [] (.d (.s (putText l))) [] := by
  obtain ⟨o, ho⟩ : ∃ o, o = putText l := ⟨_, rfl⟩
  rw [← ho]
  have c1 := specPutNum (l.length : Int) (by omega) (by omega)
  have h10 := putNum_len (l.length : Int)
  refine ent_of tok mixed (f := 63) Try.func63 (by kernel_rfl) (keep := false) ?_
  repeat' ((conv => whnf) <;> (first | ((with_reducible refine isCall ?_) <;> (first | (refine ⟨_, c1, ?_⟩; rintro _ _ ⟨rfl, rfl⟩) | (refine ⟨text_sum (a := 10) (b := 20000) h10 (by have := of_decide_eq_false h; omega) (by decide), ?_⟩) | fail)) | ((with_reducible refine isCut ?_) <;> (first | refine ⟨⟨none⟩, ?_⟩)) | ((first | with_reducible refine isEx ?_ | with_reducible refine isAnd ?_ | with_reducible refine isOr ?_) <;> (first | (refine ⟨text_sum (a := 10) (b := 20000) h10 (by have := of_decide_eq_false h; omega) (by decide), ?_⟩) | ((with_reducible refine isSmall ?_) <;> (refine ⟨?_, ?_⟩; kernel_rfl)) | refine ⟨rfl, ?_⟩ | refine ⟨Int.natCast_nonneg _, ?_⟩)) | with_reducible refine Both.mk ?_ ?_ | rintro _ rfl | exact rfl | (split <;> (rename_i h; first | (simp only [beq_self_eq_true, eq_self, decide_true, Bool.not_true, Bool.false_eq_true] at h; done) | (try rw [h])))))
  all_goals (conv => whnf)
  · exact ⟨congrArg (fun t => AV.d (D.s t)) (by rw [ho, putText_long h]), rfl⟩
  · exact ⟨congrArg (fun t => AV.d (D.s t)) (by rw [ho, putText_short h]), rfl⟩
theorem implPutText (l : List UInt8) (hl : l.length ≤ 9223372036854775807) : Ent Try.prog 66 [.d (.s l)] [] (.d (.s (putText l))) [] := by
  obtain ⟨o, ho⟩ : ∃ o, o = putText l := ⟨_, rfl⟩
  rw [← ho]
  have c0 := isLong1 l
  have c1 := implPutNum (l.length : Int) (by omega) (by omega)
  have h10 := putNum_len (l.length : Int)
  refine ent_of tok mixed (f := 66) Try.func66 (by kernel_rfl) (keep := false) ?_
  repeat' ((conv => whnf) <;> (first | ((with_reducible refine isCall ?_) <;> (first | (refine ⟨_, c0, ?_⟩; rintro _ _ ⟨rfl, rfl⟩) | (refine ⟨_, c1, ?_⟩; rintro _ _ ⟨rfl, rfl⟩) | (refine ⟨text_sum (a := 10) (b := 20000) h10 (by have := of_decide_eq_false h; omega) (by decide), ?_⟩) | fail)) | ((with_reducible refine isCut ?_) <;> (first | refine ⟨⟨none⟩, ?_⟩)) | ((first | with_reducible refine isEx ?_ | with_reducible refine isAnd ?_ | with_reducible refine isOr ?_) <;> (first | (refine ⟨text_sum (a := 10) (b := 20000) h10 (by have := of_decide_eq_false h; omega) (by decide), ?_⟩) | ((with_reducible refine isSmall ?_) <;> (refine ⟨?_, ?_⟩; kernel_rfl)) | refine ⟨rfl, ?_⟩ | refine ⟨Int.natCast_nonneg _, ?_⟩)) | with_reducible refine Both.mk ?_ ?_ | rintro _ rfl | exact rfl | (split <;> (rename_i h; first | (simp only [beq_self_eq_true, eq_self, decide_true, Bool.not_true, Bool.false_eq_true] at h; done) | (try rw [h])))))
  all_goals (conv => whnf)
  · exact ⟨congrArg (fun t => AV.d (D.s t)) (by rw [ho, putText_long h]), rfl⟩
  · exact ⟨congrArg (fun t => AV.d (D.s t)) (by rw [ho, putText_short h]), rfl⟩
end Go.Pm.Try
