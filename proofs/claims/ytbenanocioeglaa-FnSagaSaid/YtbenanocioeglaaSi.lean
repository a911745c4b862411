import Derived.Test.YtbenanocioeglaaSf
namespace Go.Pm.Try
open Go Go.Proofs
set_option linter.unusedVariables false
set_option linter.unusedSimpArgs false
set_option maxRecDepth 100000
/-! Defs that are the caller's own; marks. -/
theorem toStepSK (ss : List Step) (hs : ss.length ≤ 1048576) : Ent Try.prog 57 [.d (.sl false (ss.map stepD))] [] (.own 0) [.arr 6 false (ss.map stepD)] := by
  have hm : ss.length ≤ maxLen := Nat.le_trans hs (Nat.le_of_ble_eq_true rfl)
  refine ent_of (cx := ⟨tab, [], []⟩) tok mixed (f := 57) Try.func57 (by kernel_rfl) (keep := true) ?_
  repeat' ((conv => whnf) <;> (first | ((with_reducible refine isCall ?_) <;> (first | (refine ⟨_, toStep _ _ _ _ _ _, ?_⟩; rintro _ _ ⟨rfl, rfl⟩) | (refine ⟨_, get_map (k := k) (lt_of_dec (by assumption)), ?_⟩) | exact ⟨rfl, ⟨k + 1, _, _, step_up (lt_of_dec (by assumption)) hm, lt_of_dec (by assumption), (by rw [hz]; exact filled_up ss (lt_of_dec (by assumption))), rfl⟩, mu_up (lt_of_dec (by assumption)) hm⟩ | refine ⟨⟨(by rw [hz]; show k < _; rw [filled_len ss hk]; exact lt_of_dec (by assumption)), rfl⟩, ?_⟩ | refine ⟨⟨rfl, Int.natCast_nonneg _, (by rw [List.length_map]; show (ss.length : Int) * ((72 : Nat) : Int) ≤ 281474976710656; omega), (by rw [List.length_map]; have : ((maxLen : Nat) : Int) = 9223372036854775807 := rfl; omega)⟩, ?_⟩ | refine ⟨⟨Int.natCast_nonneg _, (by rw [hz, filled_len ss hk]; have := lt_of_dec (by assumption); omega)⟩, ?_⟩ | fail)) | ((with_reducible refine isLoop ?_) <;> (first | (refine ⟨[4, 3, 0], [10007], fun s => ∃ (k : Nat) (n : Int) (zs : List D), n = k ∧ k ≤ ss.length ∧ zs = filled ss k ∧ s = ⟨[(4, .d (.i .i64 n)), (3, .own 10007), (0, .d (.sl false (ss.map stepD)))], [(10007, .arr 6 false zs)]⟩, fun s => match look 4 s.env with | some (.d (.i _ n)) => ss.length - n.toNat | _ => 0, rfl, ⟨0, _, _, rfl, Nat.zero_le _, ?_, rfl⟩, ?_⟩; rotate_left; rintro s ⟨k, n, zs, rfl, hk, hz, rfl⟩) | (refine ⟨_, get_map (k := k) (lt_of_dec (by assumption)), ?_⟩) | exact ⟨rfl, ⟨k + 1, _, _, step_up (lt_of_dec (by assumption)) hm, lt_of_dec (by assumption), (by rw [hz]; exact filled_up ss (lt_of_dec (by assumption))), rfl⟩, mu_up (lt_of_dec (by assumption)) hm⟩ | refine ⟨⟨(by rw [hz]; show k < _; rw [filled_len ss hk]; exact lt_of_dec (by assumption)), rfl⟩, ?_⟩ | refine ⟨⟨rfl, Int.natCast_nonneg _, (by rw [List.length_map]; show (ss.length : Int) * ((72 : Nat) : Int) ≤ 281474976710656; omega), (by rw [List.length_map]; have : ((maxLen : Nat) : Int) = 9223372036854775807 := rfl; omega)⟩, ?_⟩ | refine ⟨⟨Int.natCast_nonneg _, (by rw [hz, filled_len ss hk]; have := lt_of_dec (by assumption); omega)⟩, ?_⟩ | fail)) | ((with_reducible refine isCut ?_) <;> (first | refine ⟨⟨none⟩, ?_⟩)) | ((first | with_reducible refine isEx ?_ | with_reducible refine isAnd ?_ | with_reducible refine isOr ?_) <;> (first | (refine ⟨_, get_map (k := k) (lt_of_dec (by assumption)), ?_⟩) | exact ⟨rfl, ⟨k + 1, _, _, step_up (lt_of_dec (by assumption)) hm, lt_of_dec (by assumption), (by rw [hz]; exact filled_up ss (lt_of_dec (by assumption))), rfl⟩, mu_up (lt_of_dec (by assumption)) hm⟩ | refine ⟨⟨(by rw [hz]; show k < _; rw [filled_len ss hk]; exact lt_of_dec (by assumption)), rfl⟩, ?_⟩ | refine ⟨⟨rfl, Int.natCast_nonneg _, (by rw [List.length_map]; show (ss.length : Int) * ((72 : Nat) : Int) ≤ 281474976710656; omega), (by rw [List.length_map]; have : ((maxLen : Nat) : Int) = 9223372036854775807 := rfl; omega)⟩, ?_⟩ | refine ⟨⟨Int.natCast_nonneg _, (by rw [hz, filled_len ss hk]; have := lt_of_dec (by assumption); omega)⟩, ?_⟩ | ((with_reducible refine isSmall ?_) <;> (refine ⟨?_, ?_⟩; kernel_rfl)) | refine ⟨rfl, ?_⟩ | refine ⟨Int.natCast_nonneg _, ?_⟩)) | with_reducible refine Both.mk ?_ ?_ | rintro _ rfl | exact rfl | (split <;> (rename_i h; first | (simp only [beq_self_eq_true, eq_self, decide_true, Bool.not_true, Bool.false_eq_true] at h; done) | (try rw [h])))))
  · conv => whnf
    refine congrArg (fun x => [Ob.arr 6 false x]) ?_
    have e : k = ss.length := by
      rename_i h
      have := of_decide_eq_false h
      rw [List.length_map] at this
      omega
    rw [hz, e, filled_all]
  · rw [List.length_map]; exact filled_zero ss
theorem toDefK (d : Def) (hd : d.steps.length ≤ 1048576) : Ent Try.prog 15 [.d (defD d)] [] (.agg [.d (.s d.name), .own 0, .d (.i .i64 d.pivot)]) [.arr 6 false (d.steps.map stepD)] := by
  refine ent_of (cx := ⟨tab, [], []⟩) tok mixed (f := 15) Try.func15 (by kernel_rfl) (keep := true) ?_
  repeat' ((conv => whnf) <;> (first | ((with_reducible refine isCall ?_) <;> (first | (refine ⟨_, toStepSK d.steps hd, ?_⟩; rintro _ _ ⟨rfl, rfl⟩) | fail)) | ((with_reducible refine isCut ?_) <;> (first | refine ⟨⟨none⟩, ?_⟩)) | ((first | with_reducible refine isEx ?_ | with_reducible refine isAnd ?_ | with_reducible refine isOr ?_) <;> (first | ((with_reducible refine isSmall ?_) <;> (refine ⟨?_, ?_⟩; kernel_rfl)) | refine ⟨rfl, ?_⟩ | refine ⟨Int.natCast_nonneg _, ?_⟩)) | with_reducible refine Both.mk ?_ ?_ | rintro _ rfl | exact rfl | (split <;> (rename_i h; first | (simp only [beq_self_eq_true, eq_self, decide_true, Bool.not_true, Bool.false_eq_true] at h; done) | (try rw [h])))))
/-- The steps below k, above low, that have an Undo: the last one first. -/
def downs (d : Def) (low : Int) : Nat → List Int
  | 0 => []
  | k + 1 => sel (decide ((k : Int) > low)) (sel (undoAt d k) ((k : Int) :: downs d low k) (downs d low k)) []
def undid (d : Def) (s : Saga) : List Int :=
  sel (sagaOk d s) (sel (decide (s.ph = 1) || decide (s.ph = 3)) [] (downs d (sel (decide (s.ph = 4)) (-1) s.pos) s.done.toNat)) []
theorem downs_low {d : Def} {low : Int} {k : Nat} (h : (k : Int) - 1 ≤ low) : downs d low k = [] := by
  cases k with
  | zero => rfl
  | succ k =>
    have e : decide ((k : Int) > low) = false := decide_eq_false (by omega)
    simp only [downs, e, sel]
theorem downs_yes {d : Def} {low : Int} {k : Nat} (h : (k : Int) > low) (hu : undoAt d k = true) : downs d low (k + 1) = (k : Int) :: downs d low k := by
  have e : decide ((k : Int) > low) = true := decide_eq_true h
  simp only [downs, e, hu, sel]
theorem downs_no {d : Def} {low : Int} {k : Nat} (hu : undoAt d k = false) : downs d low (k + 1) = downs d low k := by
  by_cases h : (k : Int) > low
  · have e : decide ((k : Int) > low) = true := decide_eq_true h
    simp only [downs, e, hu, sel]
  · rw [downs_low (by omega), downs_low (by omega)]
theorem downs_lowest (d : Def) (low : Int) (h0 : -1 ≤ low) : ∀ k : Nat, downs d low k = sel (decide (lowest d k > low)) (lowest d k :: downs d low (lowest d k).toNat) []
  | 0 => by
    rw [lowest, show decide ((-1 : Int) > low) = false from decide_eq_false (by omega)]; rfl
  | k + 1 => by
    cases hu : undoAt d k with
    | true =>
      rw [lowest_yes hu]
      by_cases h : (k : Int) > low
      · rw [downs_yes h hu, show decide ((k : Int) > low) = true from decide_eq_true h, Int.toNat_natCast]; rfl
      · rw [downs_low (by omega), show decide ((k : Int) > low) = false from decide_eq_false h]; rfl
    | false =>
      rw [lowest_no hu, downs_no hu]
      exact downs_lowest d low h0 k
theorem downs_len (d : Def) (low : Int) : ∀ k : Nat, (downs d low k).length ≤ k
  | 0 => Nat.le_refl _
  | k + 1 => by
    have := downs_len d low k
    cases hu : undoAt d k with
    | true =>
      by_cases h : (k : Int) > low
      · rw [downs_yes h hu]; simp only [List.length_cons]; omega
      · rw [downs_low (by omega)]; simp
    | false => rw [downs_no hu]; omega
end Go.Pm.Try
