import Derived.Test.YtbenanocioeglaaPmT
import Derived.Test.YtbenanocioeglaaPmQ
import Derived.Test.YtbenanocioeglaaPmLa
import Derived.Test.YtbenanocioeglaaChecked
import Derived.Test.YtbenanocioeglaaRows
import Derived.ProofKit
import Derived.OpenShut
import Derived.SizedLaws
import Derived.Laws.BitsLemmas
namespace Go.Pm.Try
open Go Go.Proofs
set_option linter.unusedVariables false
set_option linter.unusedSimpArgs false
set_option maxRecDepth 100000
def inside (x lo hi : Int) : Bool := decide (lo ≤ x) && decide (x ≤ hi)
theorem inside_iff (x lo hi : Int) : inside x lo hi = true ↔ lo ≤ x ∧ x ≤ hi := by simp [inside]
theorem within (x lo hi : Int) : Ent Try.prog 74 [.d (.i .i64 x), .d (.i .i64 lo), .d (.i .i64 hi)] [] (.d (.b (inside x lo hi))) [] := by
  refine ent_of tok mixed (f := 74) Try.func74 (by kernel_rfl) (keep := false) ?_
  repeat' ((conv => whnf) <;> (first
    | refine ⟨⟨none⟩, ?_⟩
    | refine Both.mk ?_ ?_
    | refine ⟨rfl, ?_⟩
    | (split <;> (rename_i h; try rw [h]))))
  all_goals (conv => whnf)
  all_goals (refine ⟨congrArg (fun b => AV.d (D.b b)) ?_, rfl⟩; simp [inside, *])
theorem l12In (x lo hi : Int) : Ent Try.prog 103 [.d (.i .i64 x), .d (.i .i64 lo), .d (.i .i64 hi)] [] (.d (.b (inside x lo hi))) [] := by
  refine ent_of tok mixed (f := 103) Try.func103 (by kernel_rfl) (keep := false) ?_
  repeat' ((conv => whnf) <;> (first
    | refine ⟨⟨none⟩, ?_⟩
    | refine Both.mk ?_ ?_
    | refine ⟨rfl, ?_⟩
    | (split <;> (rename_i h; try rw [h]))))
  all_goals (conv => whnf)
  all_goals (refine ⟨congrArg (fun b => AV.d (D.b b)) ?_, rfl⟩; simp [inside, *])
def nums (x y z : Int) : Bool := inside x 1 10 && (inside y 0 1000 && inside z 1 1000)
def waits (x y z n : Int) : Int := match nums x y z && inside n 1 10 with | true => IntKind.i64.wrap (y * 2 ^ (min (n - 1).toNat 64)) | false => 0
theorem wrap_i64_id (x : Int) (h1 : -9223372036854775808 ≤ x) (h2 : x ≤ 9223372036854775807) : IntKind.i64.wrap x = x := by rw [IntKind.wrap_i64]; omega
theorem wrap_u64_id (x : Int) (h1 : 0 ≤ x) (h2 : x ≤ 9223372036854775807) : IntKind.u64.wrap x = x := by
  simp only [IntKind.wrap, IntKind.signed, IntKind.bits, Bool.false_and, Bool.false_eq_true, if_false]
  omega
theorem szStep (a b c : List UInt8) (x y z : Int) (left : Int) : EntQ Try.prog 109 [.d (.agg [.s a, .s b, .s c, .i .i64 x, .i .i64 y, .i .i64 z]), .d (.i .i64 left)] [] (fun R O => ∃ r, R = .d (.i .i64 r) ∧ O = []) := by
  refine ent_of tok mixed (f := 109) Try.func109 (by kernel_rfl) (keep := false) ?_
  repeat' ((conv => whnf) <;> (first
    | refine ⟨⟨none⟩, ?_⟩
    | refine Both.mk ?_ ?_
    | refine ⟨rfl, ?_⟩
    | (split <;> (rename_i h; try rw [h]))))
  all_goals ((conv => whnf); exact ⟨_, rfl, rfl⟩)
theorem toStep (a b c : List UInt8) (x y z : Int) : Ent Try.prog 111 [.d (.agg [.s a, .s b, .s c, .i .i64 x, .i .i64 y, .i .i64 z])] [] (.d (.agg [.s a, .s b, .s c, .i .i64 x, .i .i64 y, .i .i64 z])) [] := by
  refine ent_of tok mixed (f := 111) Try.func111 (by kernel_rfl) (keep := false) ?_
  repeat' ((conv => whnf) <;> (first
    | refine ⟨⟨none⟩, ?_⟩
    | refine Both.mk ?_ ?_
    | refine ⟨rfl, ?_⟩
    | (split <;> (rename_i h; try rw [h]))))
theorem l12Nums (a b c : List UInt8) (x y z : Int) : Ent Try.prog 102 [.d (.agg [.s a, .s b, .s c, .i .i64 x, .i .i64 y, .i .i64 z])] [] (.d (.b (nums x y z))) [] := by
  refine ent_of tok mixed (f := 102) Try.func102 (by kernel_rfl) (keep := false) ?_
  repeat' ((conv => whnf) <;> (first
    | refine ⟨⟨none⟩, ?_⟩
    | refine Both.mk ?_ ?_
    | refine ⟨rfl, ?_⟩
    | (refine ⟨_, l12In _ _ _, ?_⟩; rintro _ _ ⟨rfl, rfl⟩)
    | (split <;> (rename_i h; try rw [h]))))
  all_goals (conv => whnf)
  all_goals (refine ⟨congrArg (fun b => AV.d (D.b b)) ?_, rfl⟩; simp [nums, *])
theorem numbersRight (a b c : List UInt8) (x y z : Int) : Ent Try.prog 101 [.d (.agg [.s a, .s b, .s c, .i .i64 x, .i .i64 y, .i .i64 z])] [] (.d (.b (nums x y z))) [] := by
  refine ent_of tok mixed (f := 101) Try.func101 (by kernel_rfl) (keep := false) ?_
  repeat' ((conv => whnf) <;> (first
    | refine ⟨⟨none⟩, ?_⟩
    | refine Both.mk ?_ ?_
    | refine ⟨rfl, ?_⟩
    | (refine ⟨_, within _ _ _, ?_⟩; rintro _ _ ⟨rfl, rfl⟩)
    | (split <;> (rename_i h; try rw [h]))))
  all_goals (conv => whnf)
  all_goals (refine ⟨congrArg (fun b => AV.d (D.b b)) ?_, rfl⟩; simp [nums, *])
theorem sh_ok (n : Int) (h : inside n 1 10 = true) : 0 ≤ IntKind.i64.wrap (n - 1) ∧ IntKind.i64.wrap (n - 1) = n - 1 ∧ IntKind.u64.wrap (n - 1) = n - 1 := by
  rw [inside_iff] at h
  have h1 := wrap_i64_id (n - 1) (by omega) (by omega)
  have h2 := wrap_u64_id (n - 1) (by omega) (by omega)
  exact ⟨by omega, h1, h2⟩
theorem l12Wait (a b c : List UInt8) (x y z : Int) (n : Int) (h : inside n 1 10 = true) : Ent Try.prog 104 [.d (.agg [.s a, .s b, .s c, .i .i64 x, .i .i64 y, .i .i64 z]), .d (.i .i64 n)] [] (.d (.i .i64 (IntKind.i64.wrap (y * 2 ^ (min (n - 1).toNat 64))))) [] := by
  refine ent_of tok mixed (f := 104) Try.func104 (by kernel_rfl) (keep := false) ?_
  repeat' ((conv => whnf) <;> (first
    | refine ⟨⟨none⟩, ?_⟩
    | refine Both.mk ?_ ?_
    | refine ⟨rfl, ?_⟩
    | refine ⟨by rw [(sh_ok n h).2.1, (sh_ok n h).2.2, ← (sh_ok n h).2.1]; exact (sh_ok n h).1, ?_⟩
    | (split <;> (rename_i h; try rw [h]))))
  all_goals (conv => whnf)
  refine ⟨congrArg (fun x => AV.d (D.i .i64 x)) ?_, rfl⟩
  show IntKind.i64.wrap (y * 2 ^ min (IntKind.u64.wrap (IntKind.i64.wrap (n - 1))).toNat 64) = _
  rw [(sh_ok n h).2.1, (sh_ok n h).2.2]
theorem specWait (a b c : List UInt8) (x y z : Int) (n : Int) : Ent Try.prog 48 [.d (.agg [.s a, .s b, .s c, .i .i64 x, .i .i64 y, .i .i64 z]), .d (.i .i64 n)] [] (.d (.i .i64 (waits x y z n))) [] := by
  refine ent_of tok mixed (f := 48) Try.func48 (by kernel_rfl) (keep := false) ?_
  repeat' ((conv => whnf) <;> (first
    | refine ⟨⟨none⟩, ?_⟩
    | refine Both.mk ?_ ?_
    | refine ⟨rfl, ?_⟩
    | (refine ⟨_, l12Nums _ _ _ _ _ _, ?_⟩; rintro _ _ ⟨rfl, rfl⟩)
    | (refine ⟨_, l12In _ _ _, ?_⟩; rintro _ _ ⟨rfl, rfl⟩)
    | (refine ⟨_, l12Wait _ _ _ _ _ _ _ (by simp_all), ?_⟩; rintro _ _ ⟨rfl, rfl⟩)
    | (split <;> (rename_i h; try rw [h]))))
  all_goals (conv => whnf)
  all_goals (refine ⟨congrArg (fun x => AV.d (D.i .i64 x)) ?_, rfl⟩; simp_all [waits])
theorem implWait (a b c : List UInt8) (x y z : Int) (n : Int) : Ent Try.prog 47 [.d (.agg [.s a, .s b, .s c, .i .i64 x, .i .i64 y, .i .i64 z]), .d (.i .i64 n)] [] (.d (.i .i64 (waits x y z n))) [] := by
  refine ent_of tok mixed (f := 47) Try.func47 (by kernel_rfl) (keep := false) ?_
  repeat' ((conv => whnf) <;> (first
    | refine ⟨⟨none⟩, ?_⟩
    | refine Both.mk ?_ ?_
    | refine ⟨rfl, ?_⟩
    | (refine ⟨_, numbersRight _ _ _ _ _ _, ?_⟩; rintro _ _ ⟨rfl, rfl⟩)
    | (refine ⟨_, within _ _ _, ?_⟩; rintro _ _ ⟨rfl, rfl⟩)
    | refine ⟨(sh_ok n (by simp_all)).1, ?_⟩
    | (split <;> (rename_i h; try rw [h]))))
  all_goals (conv => whnf)
  · refine ⟨congrArg (fun x => AV.d (D.i .i64 x)) ?_, rfl⟩; simp_all [waits]
  · refine ⟨congrArg (fun x => AV.d (D.i .i64 x)) ?_, rfl⟩; simp_all [waits]
  · refine ⟨congrArg (fun x => AV.d (D.i .i64 x)) ?_, rfl⟩
    show IntKind.i64.wrap (y * 2 ^ min (IntKind.i64.wrap (n - 1)).toNat 64) = _
    rw [(sh_ok n (by simp_all)).2.1]; simp_all [waits]

end Go.Pm.Try
