import Derived.Test.YthkpoggeldnadaaPmR6
import Derived.Test.YthkpoggeldnadaaPmLa
import Derived.Lib.Strings
import Derived.Lib.Slices
import Derived.Lib.Walk
namespace Go.Proofs
set_option linter.unusedVariables false
set_option maxHeartbeats 1000000 in
set_option maxRecDepth 100000 in
theorem Try.bytealg_CompareString (a b : ByteArray) (w : World) :
    Calls Try.prog 64 #[.string a, .string b] w fun e w' => e = .returned (.int .i64 (Lib.compareBytes a.data.toList b.data.toList)) ∧ w' = w := by
  go_enter Try.func64, Try.ntmps64
  go_wp2
  rw [run_callFunc_extern Try.func65 (by kernel_rfl) (by kernel_rfl) (by kernel_rfl) (e := Extern.BytealgCompare.compare) (by kernel_rfl), Lib.run_compareString]
  simp only [Result.andThen]
  rw [Oper.upon_value]
  go_wp2
  go_ret
  exact ⟨rfl, rfl⟩
end Go.Proofs
namespace Go.Pm.Try
open Go Go.Proofs
set_option linter.unusedVariables false
def cmpS (a b : List UInt8) : Int := if Op.bytesLess a b then -1 else if a = b then 0 else 1
theorem compareString (a b : List UInt8) : Ent Try.prog 64 [.d (.s a), .d (.s b)] [] (.d (.i .i64 (cmpS a b))) [] := by
  refine ent_of_calls ⟨_, Try.func64, by kernel_rfl, by kernel_rfl⟩ fun X J w vs hr => ?_
  simp only [AV.repL, AV.rep, D.rep] at hr
  obtain ⟨v, vs1, h1, ⟨rfl, _⟩, v2, vs2, h2, ⟨rfl, _⟩, h3⟩ := hr
  subst h3 h2
  have e : vs = #[.string ⟨a.toArray⟩, .string ⟨b.toArray⟩] := Array.toList_inj.1 h1
  subst e
  refine (Try.bytealg_CompareString _ _ w).mono ?_
  rintro e w' ⟨rfl, rfl⟩
  refine ⟨rfl, _, rfl, ?_⟩
  simp only [AV.rep, D.rep, cmpS, compare_less, and_true]
theorem compareStrings (a b : List UInt8) : Ent Try.prog 55 [.d (.s a), .d (.s b)] [] (.d (.i .i64 (cmpS a b))) [] := by
  refine ent_of tok mixed (f := 55) Try.func55 (by kernel_rfl) (keep := false) ?_
  repeat' ((conv => whnf) <;> (first
    | refine ⟨rfl, ?_⟩
    | exact rfl
    | (refine ⟨_, compareString _ _, ?_⟩; rintro _ _ ⟨rfl, rfl⟩)
    | (split <;> (rename_i h; try rw [h]))))
def cmpI (a b : Int) : Int := if a < b then -1 else if a > b then 1 else 0
theorem isNaN (a : Int) : Ent Try.prog 63 [.d (.i .i64 a)] [] (.d (.b false)) [] := by
  refine ent_of tok mixed (f := 63) Try.func63 (by kernel_rfl) (keep := false) ?_
  repeat' ((conv => whnf) <;> (first
    | refine ⟨rfl, ?_⟩
    | exact rfl
    | (split <;> (rename_i h; try rw [h]))))
  all_goals (conv => whnf)
  all_goals (refine ⟨congrArg (fun b => AV.d (D.b b)) ?_, rfl⟩; simp)
theorem compareInt (a b : Int) : Ent Try.prog 54 [.d (.i .i64 a), .d (.i .i64 b)] [] (.d (.i .i64 (cmpI a b))) [] := by
  refine ent_of tok mixed (f := 54) Try.func54 (by kernel_rfl) (keep := false) ?_
  repeat' ((conv => whnf) <;> (first
    | refine ⟨rfl, ?_⟩
    | exact rfl
    | (refine ⟨_, isNaN _, ?_⟩; rintro _ _ ⟨rfl, rfl⟩)
    | (split <;> (rename_i h; try rw [h]))))
  all_goals (conv => whnf)
  all_goals (refine ⟨congrArg (fun b => AV.d (D.i .i64 b)) ?_, rfl⟩; simp only [decide_eq_true_eq, decide_eq_false_iff_not] at *; simp only [cmpI]; split <;> try split)
  all_goals first | rfl | omega
def orI : List Int → Int
  | [] => 0
  | x :: r => if x = 0 then orI r else x
theorem or_drop {ns : List Int} {k : Nat} {t : Int} (h : ns[k]? = some t) (h1 : (!decide (t = 0)) = false) : orI (ns.drop k) = orI (ns.drop (k + 1)) := by
  obtain ⟨hk, rfl⟩ := List.getElem?_eq_some_iff.1 h
  rw [List.drop_eq_getElem_cons hk]
  simp only [Bool.not_eq_false', decide_eq_true_eq] at h1
  simp only [orI, h1, if_true]
theorem or_hit {ns : List Int} {k : Nat} {t : Int} (h : ns[k]? = some t) (h1 : (!decide (t = 0)) = true) : orI (ns.drop k) = t := by
  obtain ⟨hk, rfl⟩ := List.getElem?_eq_some_iff.1 h
  rw [List.drop_eq_getElem_cons hk]
  simp only [Bool.not_eq_true', decide_eq_false_iff_not] at h1
  simp only [orI, h1, if_false]
def intD (n : Int) : D := .i .i64 n
theorem orInt (ns : List Int) (hs : ns.length ≤ maxLen) : Ent Try.prog 53 [.d (.sl false (ns.map intD))] [] (.d (.i .i64 (orI ns))) [] := by
  refine ent_of tok mixed (f := 53) Try.func53 (by kernel_rfl) (keep := false) ?_
  repeat' ((conv => whnf) <;> (first
    | (refine ⟨[8, 7, 6, 3], [], fun s => ∃ (k : Nat) (n : Int), n = k ∧ k ≤ ns.length ∧ orI ns = orI (ns.drop k) ∧ s = ⟨[(8, .d (.i .i64 n)), (7, .d (.i .i64 ((ns.map intD).length : Int))), (6, .d (.sl false (ns.map intD))), (3, .d (.i .i64 0))], []⟩,
        fun s => match look 8 s.env with | some (.d (.i _ n)) => ns.length - n.toNat | _ => 0, rfl, ⟨0, _, rfl, Nat.zero_le _, rfl, rfl⟩, ?_⟩; rintro s ⟨k, n, rfl, hk, hu, rfl⟩)
    | (obtain ⟨t, ht⟩ := get_ex (k := k) (lt_of_dec (by assumption)); refine ⟨_, get_map' ht, ?_⟩)
    | exact ⟨rfl, ⟨k + 1, _, step_up (get_lt ht) hs, get_lt ht, (by rw [hu]; exact or_drop ht (by assumption)), rfl⟩, mu_up (get_lt ht) hs⟩
    | refine ⟨rfl, ?_⟩
    | refine ⟨Int.natCast_nonneg _, ?_⟩
    | exact rfl
    | (split <;> (rename_i h; try rw [h]))))
  all_goals (conv => whnf)
  all_goals (refine ⟨congrArg (fun b => AV.d (D.i .i64 b)) ?_, rfl⟩; rw [hu])
  · exact (or_hit ht h).symm
  · rw [List.drop_eq_nil_of_le]
    · rfl
    · have := of_decide_eq_false h; rw [List.length_map] at this; omega
end Go.Pm.Try
