import Derived.Test.YthkpoggeldnadaaPmR7
namespace Go.Pm.Try
open Go Go.Proofs
set_option linter.unusedVariables false
structure Val where
  k : Int
  n : Int
  s : List UInt8
def valD (v : Val) : D := .agg [.i .i64 v.k, .i .i64 v.n, .s v.s]
def valOk (v : Val) : Bool := if v.k = 0 then decide (v.n = 0) && decide (v.s = []) else if v.k = 1 then inside v.n 0 1 && decide (v.s = []) else if v.k = 2 then decide (v.s = []) else if v.k = 3 then decide (v.n = 0) && decide (v.s.length ≤ 200) else false
theorem specValueRight (v : Val) : Ent Try.prog 38 [.d (valD v)] [] (.d (.b (valOk v))) [] := by
  refine ent_of tok mixed (f := 38) Try.func38 (by kernel_rfl) (keep := false) ?_
  repeat' ((conv => whnf) <;> (first
    | refine ⟨rfl, ?_⟩
    | exact rfl
    | (split <;> (rename_i h; try rw [h]))))
  all_goals (conv => whnf)
  all_goals (refine ⟨congrArg (fun b => AV.d (D.b b)) ?_, rfl⟩)
  all_goals simp_all [valOk, inside]
  all_goals omega
theorem implValueRight (v : Val) : Ent Try.prog 40 [.d (valD v)] [] (.d (.b (valOk v))) [] := by
  refine ent_of tok mixed (f := 40) Try.func40 (by kernel_rfl) (keep := false) ?_
  repeat' ((conv => whnf) <;> (first
    | refine ⟨rfl, ?_⟩
    | exact rfl
    | (refine ⟨_, within _ _ _, ?_⟩; rintro _ _ ⟨rfl, rfl⟩)
    | (split <;> (rename_i h; try rw [h]))))
  all_goals (conv => whnf)
  all_goals (refine ⟨congrArg (fun b => AV.d (D.b b)) ?_, rfl⟩)
  all_goals simp_all [valOk, inside]
  all_goals omega
def cmpV (a b : Val) : Int := orI [cmpI a.k b.k, cmpI a.n b.n, cmpS a.s b.s]
theorem l02One (a b : Val) : Ent Try.prog 52 [.d (valD a), .d (valD b)] [] (.d (.i .i64 (cmpV a b))) [] := by
  refine ent_of tok mixed (f := 52) Try.func52 (by kernel_rfl) (keep := false) ?_
  repeat' ((conv => whnf) <;> (first
    | refine ⟨rfl, ?_⟩
    | exact rfl
    | (split <;> (rename_i h; try rw [h]))))
  all_goals (conv => whnf)
  all_goals (refine ⟨congrArg (fun b => AV.d (D.i .i64 b)) ?_, rfl⟩)
  all_goals simp only [cmpV, orI, cmpI, cmpS]
  all_goals simp_all
  all_goals (repeat' split)
  all_goals first | rfl | omega | (simp_all; done) | (simp_all; omega)
theorem compareValue (a b : Val) : Ent Try.prog 41 [.d (valD a), .d (valD b)] [] (.d (.i .i64 (cmpV a b))) [] := by
  obtain ⟨u1, hu1⟩ : ∃ u, u = cmpI a.k b.k := ⟨_, rfl⟩
  obtain ⟨u2, hu2⟩ : ∃ u, u = cmpI a.n b.n := ⟨_, rfl⟩
  obtain ⟨u3, hu3⟩ : ∃ u, u = cmpS a.s b.s := ⟨_, rfl⟩
  have c1 := compareInt a.k b.k
  have c2 := compareInt a.n b.n
  have c3 := compareStrings a.s b.s
  rw [cmpV]
  rw [← hu1] at c1 ⊢
  rw [← hu2] at c2 ⊢
  rw [← hu3] at c3 ⊢
  refine ent_of tok mixed (f := 41) Try.func41 (by kernel_rfl) (keep := false) ?_
  repeat' ((conv => whnf) <;> (first
    | refine ⟨rfl, ?_⟩
    | exact rfl
    | (refine ⟨_, c1, ?_⟩; rintro _ _ ⟨rfl, rfl⟩)
    | (refine ⟨_, c2, ?_⟩; rintro _ _ ⟨rfl, rfl⟩)
    | (refine ⟨_, c3, ?_⟩; rintro _ _ ⟨rfl, rfl⟩)
    | (refine ⟨_, orInt [u1, u2, u3] (Nat.le_of_ble_eq_true rfl), ?_⟩; rintro _ _ ⟨rfl, rfl⟩)
    | (split <;> (rename_i h; try rw [h]))))
end Go.Pm.Try
