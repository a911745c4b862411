/-
Values in order.
-/
import Derived.Test.YtlihmioijkichaaGreatCx
import Derived.Lib.Strings
import Derived.Lib.Slices
import Derived.Lib.Walk
namespace Go.Proofs
set_option linter.unusedVariables false
set_option linter.unusedSimpArgs false
set_option maxHeartbeats 1000000 in
set_option maxRecDepth 100000 in
theorem Tryz.bytealg_CompareString (a b : ByteArray) (w : World) :
    Calls Tryz.prog 305 #[.string a, .string b] w fun e w' => e = .returned (.int .i64 (Lib.compareBytes a.data.toList b.data.toList)) ∧ w' = w := by
  go_enter Tryz.func305, Tryz.ntmps305
  go_wp2
  rw [run_callFunc_extern Tryz.func325 (by kernel_rfl) (by kernel_rfl) (by kernel_rfl) (e := Extern.BytealgCompare.compare) (by kernel_rfl), Lib.run_compareString]
  simp only [Result.andThen]
  rw [Oper.upon_value]
  go_wp2
  go_ret
  exact ⟨rfl, rfl⟩
end Go.Proofs
namespace Go.Pm.Tryz
open Go Go.Proofs
set_option linter.unusedVariables false
set_option linter.unusedSimpArgs false
set_option maxRecDepth 100000
def cmpS (a b : List UInt8) : Int := if Op.bytesLess a b then -1 else if a = b then 0 else 1
theorem compareString (a b : List UInt8) : Ent Tryz.prog 305 [.d (.s a), .d (.s b)] [] (.d (.i .i64 (cmpS a b))) [] := by
  refine ent_of_calls ⟨_, Tryz.func305, by kernel_rfl, by kernel_rfl⟩ fun X J w vs hr => ?_
  simp only [AV.repL, AV.rep, D.rep] at hr
  obtain ⟨v, vs1, h1, ⟨rfl, _⟩, v2, vs2, h2, ⟨rfl, _⟩, h3⟩ := hr
  subst h3 h2
  have e : vs = #[.string ⟨a.toArray⟩, .string ⟨b.toArray⟩] := Array.toList_inj.1 h1
  subst e
  refine (Tryz.bytealg_CompareString _ _ w).mono ?_
  rintro e w' ⟨rfl, rfl⟩
  refine ⟨rfl, _, rfl, ?_⟩
  simp only [AV.rep, D.rep, cmpS, compare_less, and_true]
theorem compareStrings (a b : List UInt8) : Ent Tryz.prog 288 [.d (.s a), .d (.s b)] [] (.d (.i .i64 (cmpS a b))) [] := by
  refine ent_of tok mixed (f := 288) Tryz.func288 (by kernel_rfl) (keep := false) ?_
  repeat' ((conv => whnf) <;> (first
    | refine ⟨⟨none⟩, ?_⟩
    | refine Both.mk ?_ ?_
    | refine ⟨rfl, ?_⟩
    | exact rfl
    | (refine ⟨_, compareString _ _, ?_⟩; rintro _ _ ⟨rfl, rfl⟩)
    | (split <;> (rename_i h; try rw [h]))))
def cmpI (a b : Int) : Int := if a < b then -1 else if a > b then 1 else 0
theorem isNaN (a : Int) : Ent Tryz.prog 304 [.d (.i .i64 a)] [] (.d (.b false)) [] := by
  refine ent_of tok mixed (f := 304) Tryz.func304 (by kernel_rfl) (keep := false) ?_
  repeat' ((conv => whnf) <;> (first
    | refine ⟨⟨none⟩, ?_⟩
    | refine Both.mk ?_ ?_
    | refine ⟨rfl, ?_⟩
    | exact rfl
    | (split <;> (rename_i h; try rw [h]))))
  all_goals (conv => whnf)
  all_goals (refine ⟨congrArg (fun b => AV.d (D.b b)) ?_, rfl⟩; simp)
theorem compareInt (a b : Int) : Ent Tryz.prog 287 [.d (.i .i64 a), .d (.i .i64 b)] [] (.d (.i .i64 (cmpI a b))) [] := by
  refine ent_of tok mixed (f := 287) Tryz.func287 (by kernel_rfl) (keep := false) ?_
  repeat' ((conv => whnf) <;> (first
    | refine ⟨⟨none⟩, ?_⟩
    | refine Both.mk ?_ ?_
    | refine ⟨rfl, ?_⟩
    | exact rfl
    | (refine ⟨_, isNaN _, ?_⟩; rintro _ _ ⟨rfl, rfl⟩)
    | (split <;> (rename_i h; try rw [h]))))
  all_goals (conv => whnf)
  all_goals (refine ⟨congrArg (fun b => AV.d (D.i .i64 b)) ?_, rfl⟩; simp only [decide_eq_true_eq, decide_eq_false_iff_not] at *; simp only [cmpI]; split <;> try split)
  all_goals first | rfl | omega
def orI : List Int → Int
  | [] => 0
  | x :: r => if x = 0 then orI r else x
theorem or_drop {ns : List Int} {k : Nat} {t : Int} (h : ns[k]? = some t) (h1 : (!decide (t = 0)) = false) : orI (ns.drop k) = orI (ns.drop (k + 1)) := by
  obtain ⟨hk, rfl⟩ := List.getElem?_eq_some_iff.1 h
  rw [List.drop_eq_getElem_cons hk]
  simp only [Bool.not_eq_false', decide_eq_true_eq] at h1
  simp only [orI, h1, if_true]
theorem or_hit {ns : List Int} {k : Nat} {t : Int} (h : ns[k]? = some t) (h1 : (!decide (t = 0)) = true) : orI (ns.drop k) = t := by
  obtain ⟨hk, rfl⟩ := List.getElem?_eq_some_iff.1 h
  rw [List.drop_eq_getElem_cons hk]
  simp only [Bool.not_eq_true', decide_eq_false_iff_not] at h1
  simp only [orI, h1, if_false]
def intD (n : Int) : D := .i .i64 n
theorem orInt (ns : List Int) (hs : ns.length ≤ maxLen) : Ent Tryz.prog 286 [.d (.sl false (ns.map intD))] [] (.d (.i .i64 (orI ns))) [] := by
  refine ent_of tok mixed (f := 286) Tryz.func286 (by kernel_rfl) (keep := false) ?_
  repeat' ((conv => whnf) <;> (first
    | (refine ⟨[8, 7, 6, 3], [], fun s => ∃ (k : Nat) (n : Int), n = k ∧ k ≤ ns.length ∧ orI ns = orI (ns.drop k) ∧ s = ⟨[(8, .d (.i .i64 n)), (7, .d (.i .i64 ((ns.map intD).length : Int))), (6, .d (.sl false (ns.map intD))), (3, .d (.i .i64 0))], []⟩,
        fun s => match look 8 s.env with | some (.d (.i _ n)) => ns.length - n.toNat | _ => 0, rfl, ⟨0, _, rfl, Nat.zero_le _, rfl, rfl⟩, ?_⟩; rintro s ⟨k, n, rfl, hk, hu, rfl⟩)
    | (obtain ⟨t, ht⟩ := get_ex (k := k) (lt_of_dec (by assumption)); refine ⟨_, get_map' ht, ?_⟩)
    | exact ⟨rfl, ⟨k + 1, _, step_up (get_lt ht) hs, get_lt ht, (by rw [hu]; exact or_drop ht (by assumption)), rfl⟩, mu_up (get_lt ht) hs⟩
    | refine ⟨⟨none⟩, ?_⟩
    | refine Both.mk ?_ ?_
    | refine ⟨rfl, ?_⟩
    | refine ⟨Int.natCast_nonneg _, ?_⟩
    | exact rfl
    | (split <;> (rename_i h; try rw [h]))))
  all_goals (conv => whnf)
  all_goals (refine ⟨congrArg (fun b => AV.d (D.i .i64 b)) ?_, rfl⟩; rw [hu])
  · exact (or_hit ht h).symm
  · rw [List.drop_eq_nil_of_le]
    · rfl
    · have := of_decide_eq_false h; rw [List.length_map] at this; omega
def cmpV (a b : Val) : Int := orI [cmpI a.kind b.kind, cmpI a.n b.n, cmpS a.text b.text]
theorem l02One (a b : Val) : Ent Tryz.prog 234 [.d (valD a), .d (valD b)] [] (.d (.i .i64 (cmpV a b))) [] := by
  refine ent_of tok mixed (f := 234) Tryz.func234 (by kernel_rfl) (keep := false) ?_
  repeat' ((conv => whnf) <;> (first
    | refine ⟨⟨none⟩, ?_⟩
    | refine Both.mk ?_ ?_
    | refine ⟨rfl, ?_⟩
    | exact rfl
    | (split <;> (rename_i h; try rw [h]))))
  all_goals (conv => whnf)
  all_goals (refine ⟨congrArg (fun b => AV.d (D.i .i64 b)) ?_, rfl⟩)
  all_goals simp only [cmpV, orI, cmpI, cmpS]
  all_goals simp_all
  all_goals (repeat' split)
  all_goals first | rfl | omega | (simp_all; done) | (simp_all; omega)
set_option maxHeartbeats 4000000 in
theorem compareValue (a b : Val) : Ent Tryz.prog 239 [.d (valD a), .d (valD b)] [] (.d (.i .i64 (cmpV a b))) [] := by
  obtain ⟨u1, hu1⟩ : ∃ u, u = cmpI a.kind b.kind := ⟨_, rfl⟩
  obtain ⟨u2, hu2⟩ : ∃ u, u = cmpI a.n b.n := ⟨_, rfl⟩
  obtain ⟨u3, hu3⟩ : ∃ u, u = cmpS a.text b.text := ⟨_, rfl⟩
  have c1 := compareInt a.kind b.kind
  have c2 := compareInt a.n b.n
  have c3 := compareStrings a.text b.text
  rw [cmpV]
  rw [← hu1] at c1 ⊢
  rw [← hu2] at c2 ⊢
  rw [← hu3] at c3 ⊢
  refine ent_of tok mixed (f := 239) Tryz.func239 (by kernel_rfl) (keep := false) ?_
  repeat' ((conv => whnf) <;> (first
    | refine ⟨⟨none⟩, ?_⟩
    | refine Both.mk ?_ ?_
    | refine ⟨rfl, ?_⟩
    | exact rfl
    | (refine ⟨_, c1, ?_⟩; rintro _ _ ⟨rfl, rfl⟩)
    | (refine ⟨_, c2, ?_⟩; rintro _ _ ⟨rfl, rfl⟩)
    | (refine ⟨_, c3, ?_⟩; rintro _ _ ⟨rfl, rfl⟩)
    | (refine ⟨_, orInt [u1, u2, u3] (Nat.le_of_ble_eq_true rfl), ?_⟩; rintro _ _ ⟨rfl, rfl⟩)
    | (split <;> (rename_i h; try rw [h]))))
theorem cmpI_zero {a b : Int} : cmpI a b = 0 ↔ a = b := by
  unfold cmpI
  by_cases h : a < b
  · rw [if_pos h]; omega
  · rw [if_neg h]
    by_cases h2 : a > b
    · rw [if_pos h2]; omega
    · rw [if_neg h2]; omega
theorem cmpS_zero {a b : List UInt8} : cmpS a b = 0 ↔ a = b := by
  unfold cmpS
  by_cases h : Op.bytesLess a b = true
  · rw [if_pos h]
    refine ⟨fun e => absurd e (by decide), fun e => ?_⟩
    rw [e, less_irrefl] at h; cases h
  · rw [if_neg h]
    by_cases h2 : a = b
    · rw [if_pos h2]; exact ⟨fun _ => h2, fun _ => rfl⟩
    · rw [if_neg h2]; exact ⟨fun e => absurd e (by decide), fun e => absurd e h2⟩
theorem cmpV_zero {a b : Val} : cmpV a b = 0 ↔ a = b := by
  rcases a with ⟨k, n, t⟩
  rcases b with ⟨k', n', t'⟩
  simp only [cmpV, orI]
  constructor
  · intro h
    by_cases h1 : cmpI k k' = 0
    · rw [if_pos h1] at h
      by_cases h2 : cmpI n n' = 0
      · rw [if_pos h2] at h
        by_cases h3 : cmpS t t' = 0
        · rw [cmpI_zero.1 h1, cmpI_zero.1 h2, cmpS_zero.1 h3]
        · rw [if_neg h3] at h; exact absurd h h3
      · rw [if_neg h2] at h; exact absurd h h2
    · rw [if_neg h1] at h; exact absurd h h1
  · intro h
    cases h
    rw [if_pos (cmpI_zero.2 rfl), if_pos (cmpI_zero.2 rfl), if_pos (cmpS_zero.2 rfl)]
/-- Lists of values in order. -/
def cmpL : List Val → List Val → Int
  | [], [] => 0
  | [], _ :: _ => -1
  | _ :: _, [] => 1
  | x :: a, y :: b => if cmpV x y = 0 then cmpL a b else cmpV x y
theorem cmpL_zero : ∀ {a b : List Val}, cmpL a b = 0 ↔ a = b
  | [], [] => by simp [cmpL]
  | [], _ :: _ => by simp [cmpL]
  | _ :: _, [] => by simp [cmpL]
  | x :: a, y :: b => by
    rw [cmpL]
    by_cases h : cmpV x y = 0
    · rw [if_pos h, cmpL_zero, cmpV_zero.1 h]; simp
    · rw [if_neg h]
      refine ⟨fun e => absurd e h, fun e => ?_⟩
      cases e; exact absurd (cmpV_zero.2 rfl) h
theorem cmpL_next {a b : List Val} {k : Nat} {x y : Val} (hx : a[k]? = some x) (hy : b[k]? = some y) (h : cmpV x y = 0) : cmpL (a.drop k) (b.drop k) = cmpL (a.drop (k + 1)) (b.drop (k + 1)) := by
  obtain ⟨h1, rfl⟩ := List.getElem?_eq_some_iff.1 hx
  obtain ⟨h2, rfl⟩ := List.getElem?_eq_some_iff.1 hy
  rw [List.drop_eq_getElem_cons h1, List.drop_eq_getElem_cons h2, cmpL, if_pos h]
theorem cmpL_here {a b : List Val} {k : Nat} {x y : Val} (hx : a[k]? = some x) (hy : b[k]? = some y) (h : ¬ cmpV x y = 0) : cmpL (a.drop k) (b.drop k) = cmpV x y := by
  obtain ⟨h1, rfl⟩ := List.getElem?_eq_some_iff.1 hx
  obtain ⟨h2, rfl⟩ := List.getElem?_eq_some_iff.1 hy
  rw [List.drop_eq_getElem_cons h1, List.drop_eq_getElem_cons h2, cmpL, if_neg h]
theorem cmpL_lt {a b : List Val} {k : Nat} (h1 : a.length ≤ k) (h2 : k < b.length) : cmpL (a.drop k) (b.drop k) = -1 := by
  rw [List.drop_eq_nil_of_le h1, List.drop_eq_getElem_cons h2]; rfl
theorem cmpL_gt {a b : List Val} {k : Nat} (h1 : k < a.length) (h2 : b.length ≤ k) : cmpL (a.drop k) (b.drop k) = 1 := by
  rw [List.drop_eq_nil_of_le h2, List.drop_eq_getElem_cons h1]; rfl
theorem cmpL_eq {a b : List Val} {k : Nat} (h1 : a.length ≤ k) (h2 : b.length ≤ k) : cmpL (a.drop k) (b.drop k) = 0 := by
  rw [List.drop_eq_nil_of_le h1, List.drop_eq_nil_of_le h2]; rfl
set_option maxHeartbeats 1000000 in
theorem l02Compare (a b : List Val) (ha : a.length ≤ maxLen) (hb : b.length ≤ maxLen) : Ent Tryz.prog 177 [.d (.sl false (a.map valD)), .d (.sl false (b.map valD))] [] (.d (.i .i64 (cmpL a b))) [] := by
  obtain ⟨o, ho⟩ : ∃ o, o = cmpL a b := ⟨_, rfl⟩
  rw [← ho]
  have hla : (a.map valD).length = a.length := List.length_map ..
  have hlb : (b.map valD).length = b.length := List.length_map ..
  refine ent_of tok mixed (f := 177) Tryz.func177 (by kernel_rfl) (keep := false) ?_
  repeat' ((conv => whnf) <;> (first
    | ((with_reducible refine isCall ?_) <;> (first
        | (refine ⟨_, l02One _ _, ?_⟩; rintro _ _ ⟨rfl, rfl⟩)
        | refine ⟨_, get_map' hx, ?_⟩
        | refine ⟨_, get_map' hy, ?_⟩
        | ((with_reducible refine isGet (xs := a.map valD) (i := ((k : Nat) : Int).toNat) ?_); obtain ⟨x, hx⟩ := get_ex (ss := a) (k := k) (lt_of_dec (by assumption)); refine ⟨_, get_map' hx, ?_⟩)
        | ((with_reducible refine isGet (xs := b.map valD) (i := ((k : Nat) : Int).toNat) ?_); obtain ⟨y, hy⟩ := get_ex (ss := b) (k := k) (lt_of_dec (by assumption)); refine ⟨_, get_map' hy, ?_⟩)
        | fail))
    | ((with_reducible refine isLoop ?_) <;> (first
        | (refine ⟨[0, 1, 5], [], fun st => ∃ (k : Nat) (i : Int), i = k ∧ k ≤ a.length ∧ k ≤ b.length ∧ o = cmpL (a.drop k) (b.drop k) ∧ st = ⟨[(0, .d (.sl false (a.map valD))), (1, .d (.sl false (b.map valD))), (5, .d (.i .i64 i))], []⟩, fun st => match look 5 st.env with | some (.d (.i _ i)) => a.length - i.toNat | _ => 0, rfl, ⟨0, _, rfl, Nat.zero_le _, Nat.zero_le _, ho, rfl⟩, ?_⟩; rintro st ⟨k, i, rfl, hka, hkb, hu, rfl⟩)
        | refine ⟨_, get_map' hx, ?_⟩
        | refine ⟨_, get_map' hy, ?_⟩
        | ((with_reducible refine isGet (xs := a.map valD) (i := ((k : Nat) : Int).toNat) ?_); obtain ⟨x, hx⟩ := get_ex (ss := a) (k := k) (lt_of_dec (by assumption)); refine ⟨_, get_map' hx, ?_⟩)
        | ((with_reducible refine isGet (xs := b.map valD) (i := ((k : Nat) : Int).toNat) ?_); obtain ⟨y, hy⟩ := get_ex (ss := b) (k := k) (lt_of_dec (by assumption)); refine ⟨_, get_map' hy, ?_⟩)
        | fail))
    | ((with_reducible refine isCut ?_) <;> (first
        | refine ⟨⟨none⟩, ?_⟩))
    | ((first | with_reducible refine isEx ?_ | with_reducible refine isAnd ?_ | with_reducible refine isOr ?_) <;> (first
        | refine ⟨_, get_map' hx, ?_⟩
        | refine ⟨_, get_map' hy, ?_⟩
        | ((with_reducible refine isGet (xs := a.map valD) (i := ((k : Nat) : Int).toNat) ?_); obtain ⟨x, hx⟩ := get_ex (ss := a) (k := k) (lt_of_dec (by assumption)); refine ⟨_, get_map' hx, ?_⟩)
        | ((with_reducible refine isGet (xs := b.map valD) (i := ((k : Nat) : Int).toNat) ?_); obtain ⟨y, hy⟩ := get_ex (ss := b) (k := k) (lt_of_dec (by assumption)); refine ⟨_, get_map' hy, ?_⟩)
        | ((with_reducible refine isSmall ?_) <;> (refine ⟨?_, ?_⟩; kernel_rfl))
        | refine ⟨rfl, ?_⟩
        | refine ⟨Int.natCast_nonneg _, ?_⟩))
    | with_reducible refine Both.mk ?_ ?_
    | rintro _ rfl
    | exact rfl
    | (split <;> (rename_i h; first | (simp only [beq_self_eq_true, eq_self, decide_true, Bool.not_true, Bool.false_eq_true] at h; done) | (try rw [h])))))
  all_goals (conv => whnf)
  all_goals first
    | (rw [hu, cmpL_here hx hy (of_decide_eq_false (not_ok' h))]; exact ⟨rfl, rfl⟩)
    | exact ⟨⟨k + 1, _, step_up (get_lt hx) ha, get_lt hx, get_lt hy, hu.trans (cmpL_next hx hy (of_decide_eq_true (not_ok h))), rfl⟩, mu_up (get_lt hx) ha⟩
    | (clear ho; simp only [decide_eq_true_eq, decide_eq_false_iff_not, List.length_map] at *
       rw [hu, cmpL_lt (by omega) (by omega)]; exact ⟨rfl, trivial⟩)
    | (clear ho; simp only [decide_eq_true_eq, decide_eq_false_iff_not, List.length_map] at *
       rw [hu, cmpL_gt (by omega) (by omega)]; exact ⟨rfl, trivial⟩)
    | (clear ho; simp only [decide_eq_true_eq, decide_eq_false_iff_not, List.length_map] at *
       rw [hu, cmpL_eq (by omega) (by omega)]; exact ⟨rfl, trivial⟩)
    | trace_state
set_option maxHeartbeats 1000000 in
theorem compareFunc (a b : List Val) (ha : a.length ≤ maxLen) (hb : b.length ≤ maxLen) : Ent Tryz.prog 251 [.d (.sl false (a.map valD)), .d (.sl false (b.map valD)), .fn 239 []] [] (.d (.i .i64 (cmpL a b))) [] := by
  obtain ⟨o, ho⟩ : ∃ o, o = cmpL a b := ⟨_, rfl⟩
  rw [← ho]
  have hla : (a.map valD).length = a.length := List.length_map ..
  have hlb : (b.map valD).length = b.length := List.length_map ..
  refine ent_of tok mixed (f := 251) Tryz.func251 (by kernel_rfl) (keep := false) ?_
  repeat' ((conv => whnf) <;> (first
    | ((with_reducible refine isCall ?_) <;> (first
        | (refine ⟨_, compareValue _ _, ?_⟩; rintro _ _ ⟨rfl, rfl⟩)
        | refine ⟨_, get_map' hx, ?_⟩
        | refine ⟨_, get_map' hy, ?_⟩
        | ((with_reducible refine isGet (xs := a.map valD) (i := ((k : Nat) : Int).toNat) ?_); obtain ⟨x, hx⟩ := get_ex (ss := a) (k := k) (lt_of_dec (by assumption)); refine ⟨_, get_map' hx, ?_⟩)
        | ((with_reducible refine isGet (xs := b.map valD) (i := ((k : Nat) : Int).toNat) ?_); obtain ⟨y, hy⟩ := get_ex (ss := b) (k := k) (by have := of_decide_eq_false (by assumption : decide ((k : Int) ≥ ((b.map valD).length : Int)) = false); omega); refine ⟨_, get_map' hy, ?_⟩)
        | fail))
    | ((with_reducible refine isLoop ?_) <;> (first
        | (refine ⟨[0, 1, 2, 11, 12, 13], [], fun st => ∃ (k : Nat) (i : Int), i = k ∧ k ≤ a.length ∧ k ≤ b.length ∧ o = cmpL (a.drop k) (b.drop k) ∧ st = ⟨[(0, .d (.sl false (a.map valD))), (1, .d (.sl false (b.map valD))), (2, .fn 239 []), (11, .d (.sl false (a.map valD))), (12, .d (.i .i64 ((a.map valD).length : Int))), (13, .d (.i .i64 i))], []⟩, fun st => match look 13 st.env with | some (.d (.i _ i)) => a.length - i.toNat | _ => 0, rfl, ⟨0, _, rfl, Nat.zero_le _, Nat.zero_le _, ho, rfl⟩, ?_⟩; rintro st ⟨k, i, rfl, hka, hkb, hu, rfl⟩)
        | refine ⟨_, get_map' hx, ?_⟩
        | refine ⟨_, get_map' hy, ?_⟩
        | ((with_reducible refine isGet (xs := a.map valD) (i := ((k : Nat) : Int).toNat) ?_); obtain ⟨x, hx⟩ := get_ex (ss := a) (k := k) (lt_of_dec (by assumption)); refine ⟨_, get_map' hx, ?_⟩)
        | ((with_reducible refine isGet (xs := b.map valD) (i := ((k : Nat) : Int).toNat) ?_); obtain ⟨y, hy⟩ := get_ex (ss := b) (k := k) (by have := of_decide_eq_false (by assumption : decide ((k : Int) ≥ ((b.map valD).length : Int)) = false); omega); refine ⟨_, get_map' hy, ?_⟩)
        | fail))
    | ((with_reducible refine isCut ?_) <;> (first
        | refine ⟨⟨none⟩, ?_⟩))
    | ((first | with_reducible refine isEx ?_ | with_reducible refine isAnd ?_ | with_reducible refine isOr ?_) <;> (first
        | refine ⟨_, get_map' hx, ?_⟩
        | refine ⟨_, get_map' hy, ?_⟩
        | ((with_reducible refine isGet (xs := a.map valD) (i := ((k : Nat) : Int).toNat) ?_); obtain ⟨x, hx⟩ := get_ex (ss := a) (k := k) (lt_of_dec (by assumption)); refine ⟨_, get_map' hx, ?_⟩)
        | ((with_reducible refine isGet (xs := b.map valD) (i := ((k : Nat) : Int).toNat) ?_); obtain ⟨y, hy⟩ := get_ex (ss := b) (k := k) (by have := of_decide_eq_false (by assumption : decide ((k : Int) ≥ ((b.map valD).length : Int)) = false); omega); refine ⟨_, get_map' hy, ?_⟩)
        | ((with_reducible refine isSmall ?_) <;> (refine ⟨?_, ?_⟩; kernel_rfl))
        | refine ⟨rfl, ?_⟩
        | refine ⟨Int.natCast_nonneg _, ?_⟩))
    | with_reducible refine Both.mk ?_ ?_
    | rintro _ rfl
    | exact rfl
    | (split <;> (rename_i h; first | (simp only [beq_self_eq_true, eq_self, decide_true, Bool.not_true, Bool.false_eq_true] at h; done) | (try rw [h])))))
  all_goals (conv => whnf)
  all_goals first
    | (rw [hu, cmpL_here hx hy (of_decide_eq_false (not_ok' h))]; exact ⟨rfl, rfl⟩)
    | exact ⟨⟨k + 1, _, step_up (get_lt hx) ha, get_lt hx, get_lt hy, hu.trans (cmpL_next hx hy (of_decide_eq_true (not_ok h))), rfl⟩, mu_up (get_lt hx) ha⟩
    | (clear ho; simp only [decide_eq_true_eq, decide_eq_false_iff_not, List.length_map] at *
       rw [hu, cmpL_lt (by omega) (by omega)]; exact ⟨rfl, trivial⟩)
    | (clear ho; simp only [decide_eq_true_eq, decide_eq_false_iff_not, List.length_map] at *
       rw [hu, cmpL_gt (by omega) (by omega)]; exact ⟨rfl, trivial⟩)
    | (clear ho; simp only [decide_eq_true_eq, decide_eq_false_iff_not, List.length_map] at *
       rw [hu, cmpL_eq (by omega) (by omega)]; exact ⟨rfl, trivial⟩)
    | trace_state
theorem implCompare (a b : List Val) (ha : a.length ≤ maxLen) (hb : b.length ≤ maxLen) : Ent Tryz.prog 183 [.d (.sl false (a.map valD)), .d (.sl false (b.map valD))] [] (.d (.i .i64 (cmpL a b))) [] := by
  have c1 := compareFunc a b ha hb
  refine ent_of tok mixed (f := 183) Tryz.func183 (by kernel_rfl) (keep := false) ?_
  repeat' ((conv => whnf) <;> (first
    | ((with_reducible refine isCall ?_) <;> (first
        | (refine ⟨_, c1, ?_⟩; rintro _ _ ⟨rfl, rfl⟩)
        | fail))
    | ((with_reducible refine isLoop ?_) <;> (first
        | fail))
    | ((with_reducible refine isCut ?_) <;> (first
        | refine ⟨⟨none⟩, ?_⟩))
    | ((first | with_reducible refine isEx ?_ | with_reducible refine isAnd ?_ | with_reducible refine isOr ?_) <;> (first
        | ((with_reducible refine isSmall ?_) <;> (refine ⟨?_, ?_⟩; kernel_rfl))
        | refine ⟨rfl, ?_⟩
        | refine ⟨Int.natCast_nonneg _, ?_⟩))
    | with_reducible refine Both.mk ?_ ?_
    | rintro _ rfl
    | exact rfl
    | (split <;> (rename_i h; first | (simp only [beq_self_eq_true, eq_self, decide_true, Bool.not_true, Bool.false_eq_true] at h; done) | (try rw [h])))))
end Go.Pm.Tryz
/-
Rows of a table: which are right; what is picked of them.
-/
namespace Go.Pm.Tryz
open Go Go.Proofs
set_option linter.unusedVariables false
set_option linter.unusedSimpArgs false
set_option maxRecDepth 100000
theorem nodup_le : ∀ (n : Nat) (l : List Nat), l.Nodup → (∀ x, x ∈ l → x < n) → l.length ≤ n
  | 0, l, _, h => by
    cases l with
    | nil => exact Nat.le_refl _
    | cons x l => exact absurd (h x (List.mem_cons_self ..)) (Nat.not_lt_zero _)
  | n + 1, l, hd, h => by
    have h1 := nodup_le n (l.erase n) (hd.erase n) (fun x hx => by
      have hm := List.mem_of_mem_erase hx
      have := h x hm
      have hne : x ≠ n := fun e => by
        subst e
        exact absurd hx (hd.not_mem_erase)
      omega)
    by_cases hm : n ∈ l
    · rw [List.length_erase_of_mem hm] at h1; omega
    · rw [List.erase_of_not_mem hm] at h1; omega
theorem colsP_len {ks : List Int} {n : Nat} (h : colsP ks n) : ks.length ≤ n := by
  have := nodup_le n (ks.map Int.toNat) (List.pairwise_iff_getElem.2 fun i j hi hj hij e => by
      rw [List.length_map] at hi hj
      simp only [List.getElem_map] at e
      have h1 := h.2 i _ (List.getElem?_eq_getElem hi)
      have h2 := h.2 j _ (List.getElem?_eq_getElem hj)
      refine h2.2 (List.mem_of_getElem? (i := i) ?_)
      rw [List.getElem?_take, if_pos hij, List.getElem?_eq_getElem hi]
      congr 1
      omega) (fun x hx => by
      obtain ⟨y, hy, rfl⟩ := List.mem_map.1 hx
      obtain ⟨k, hk⟩ := List.getElem?_of_mem hy
      have := (h.2 k y hk).1
      omega)
  rwa [List.length_map] at this
theorem colsP_in {ks : List Int} {n : Nat} (h : colsP ks n) {x : Int} (hx : x ∈ ks) : 0 ≤ x ∧ x < n := by
  obtain ⟨k, hk⟩ := List.getElem?_of_mem hx
  exact (h.2 k x hk).1
def pickM (row : List Val) (cols : List Int) : List Val := cols.map fun c => row.getD c.toNat ⟨0, 0, []⟩
def inRow (row : List Val) (cols : List Int) : Prop := ∀ c, c ∈ cols → 0 ≤ c ∧ c < row.length
theorem pickM_len (row : List Val) (cols : List Int) : (pickM row cols).length = cols.length := List.length_map ..
theorem pick_up {row : List Val} {cols : List Int} {k : Nat} {y : Int} {v : Val} (hy : cols[k]? = some y) (hv : row[y.toNat]? = some v) : pickM row (cols.take (k + 1)) = pickM row (cols.take k) ++ [v] := by
  rw [take_up hy, pickM, List.map_append]
  simp only [pickM, List.map_cons, List.map_nil, List.getD_eq_getElem?_getD, hv, Option.getD_some]
set_option maxHeartbeats 1000000 in
theorem specPick (row : List Val) (cols : List Int) (hl : cols.length ≤ 1000) (hi : inRow row cols) : Ent Tryz.prog 247 [.d (.sl false (row.map valD)), .d (.sl false (cols.map i64D))] [] (.d (.sl false ((pickM row cols).map valD))) [] := by
  obtain ⟨o, ho⟩ : ∃ o, o = pickM row cols := ⟨_, rfl⟩
  rw [← ho]
  refine ent_of tok mixed (f := 247) Tryz.func247 (by kernel_rfl) (keep := false) ?_
  repeat' ((conv => whnf) <;> (first
    | ((with_reducible refine isCall ?_) <;> (first
        | refine ⟨_, get_map' hv, ?_⟩
        | refine ⟨hyr.1, ?_⟩
        | ((with_reducible refine isGet (xs := cols.map i64D) (i := ((k : Nat) : Int).toNat) ?_); obtain ⟨y, hy⟩ := get_ex (ss := cols) (k := k) (lt_of_dec (by assumption)); have hyr := hi y (get_mem hy); obtain ⟨v, hv⟩ := get_ex (ss := row) (k := y.toNat) (by omega); refine ⟨_, get_map' hy, ?_⟩)
        | (refine ⟨⟨by decide, rfl, rfl, room_add (by rw [hx, List.length_map, pickM_len, List.length_take]; omega) (by decide)⟩, ?_⟩)
        | fail))
    | ((with_reducible refine isLoop ?_) <;> (first
        | (refine ⟨[0, 1, 5, 6], [10007], fun st => ∃ (k : Nat) (i : Int) (xs : List D), i = k ∧ k ≤ cols.length ∧ xs = (pickM row (cols.take k)).map valD ∧ st = ⟨[(0, .d (.sl false (row.map valD))), (1, .d (.sl false (cols.map i64D))), (5, .own 10007), (6, .d (.i .i64 i))], [(10007, .arr 3 false xs)]⟩, fun st => match look 6 st.env with | some (.d (.i _ i)) => cols.length - i.toNat | _ => 0, rfl, ⟨0, _, _, rfl, Nat.zero_le _, rfl, rfl⟩, ?_⟩; rintro st ⟨k, i, xs, rfl, hk, hx, rfl⟩)
        | refine ⟨_, get_map' hv, ?_⟩
        | refine ⟨hyr.1, ?_⟩
        | ((with_reducible refine isGet (xs := cols.map i64D) (i := ((k : Nat) : Int).toNat) ?_); obtain ⟨y, hy⟩ := get_ex (ss := cols) (k := k) (lt_of_dec (by assumption)); have hyr := hi y (get_mem hy); obtain ⟨v, hv⟩ := get_ex (ss := row) (k := y.toNat) (by omega); refine ⟨_, get_map' hy, ?_⟩)
        | (refine ⟨⟨by decide, rfl, rfl, room_add (by rw [hx, List.length_map, pickM_len, List.length_take]; omega) (by decide)⟩, ?_⟩)
        | fail))
    | ((with_reducible refine isCut ?_) <;> (first
        | refine ⟨⟨none⟩, ?_⟩))
    | ((first | with_reducible refine isEx ?_ | with_reducible refine isAnd ?_ | with_reducible refine isOr ?_) <;> (first
        | refine ⟨_, get_map' hv, ?_⟩
        | refine ⟨hyr.1, ?_⟩
        | ((with_reducible refine isGet (xs := cols.map i64D) (i := ((k : Nat) : Int).toNat) ?_); obtain ⟨y, hy⟩ := get_ex (ss := cols) (k := k) (lt_of_dec (by assumption)); have hyr := hi y (get_mem hy); obtain ⟨v, hv⟩ := get_ex (ss := row) (k := y.toNat) (by omega); refine ⟨_, get_map' hy, ?_⟩)
        | (refine ⟨⟨by decide, rfl, rfl, room_add (by rw [hx, List.length_map, pickM_len, List.length_take]; omega) (by decide)⟩, ?_⟩)
        | ((with_reducible refine isSmall ?_) <;> (refine ⟨?_, ?_⟩; kernel_rfl))
        | refine ⟨rfl, ?_⟩
        | refine ⟨Int.natCast_nonneg _, ?_⟩))
    | with_reducible refine Both.mk ?_ ?_
    | rintro _ rfl
    | exact rfl
    | (split <;> (rename_i h; first | (simp only [beq_self_eq_true, eq_self, decide_true, Bool.not_true, Bool.false_eq_true] at h; done) | (try rw [h])))))
  all_goals (conv => whnf)
  · exact ⟨⟨k + 1, _, _, step_up (n := 1000) (by have := get_lt hy; omega) (Nat.le_of_ble_eq_true rfl), get_lt hy, by rw [pick_up hy hv, List.map_append, ← hx]; rfl, rfl⟩, mu_up (get_lt hy) (Nat.le_trans hl (Nat.le_of_ble_eq_true rfl))⟩
  · have e : k = cols.length := by have := of_decide_eq_false h; rw [List.length_map] at this; omega
    rw [e, List.take_length] at hx
    rw [ho, ← hx]; exact ⟨rfl, rfl⟩
set_option maxHeartbeats 1000000 in
theorem implPick (row : List Val) (cols : List Int) (hl : cols.length ≤ 1000) (hi : inRow row cols) : Ent Tryz.prog 252 [.d (.sl false (row.map valD)), .d (.sl false (cols.map i64D))] [] (.d (.sl false ((pickM row cols).map valD))) [] := by
  obtain ⟨o, ho⟩ : ∃ o, o = pickM row cols := ⟨_, rfl⟩
  rw [← ho]
  refine ent_of tok mixed (f := 252) Tryz.func252 (by kernel_rfl) (keep := false) ?_
  repeat' ((conv => whnf) <;> (first
    | ((with_reducible refine isCall ?_) <;> (first
        | refine ⟨_, get_map' hv, ?_⟩
        | refine ⟨hyr.1, ?_⟩
        | ((with_reducible refine isGet (xs := cols.map i64D) (i := ((k : Nat) : Int).toNat) ?_); obtain ⟨y, hy⟩ := get_ex (ss := cols) (k := k) (lt_of_dec (by assumption)); have hyr := hi y (get_mem hy); obtain ⟨v, hv⟩ := get_ex (ss := row) (k := y.toNat) (by omega); refine ⟨_, get_map' hy, ?_⟩)
        | (refine ⟨⟨by decide, rfl, rfl, room_add (by rw [hx, List.length_map, pickM_len, List.length_take]; omega) (by decide)⟩, ?_⟩)
        | fail))
    | ((with_reducible refine isLoop ?_) <;> (first
        | (refine ⟨[0, 5, 9, 10, 11], [10008], fun st => ∃ (k : Nat) (i : Int) (xs : List D), i = k ∧ k ≤ cols.length ∧ xs = (pickM row (cols.take k)).map valD ∧ st = ⟨[(0, .d (.sl false (row.map valD))), (5, .own 10008), (9, .d (.sl false (cols.map i64D))), (10, .d (.i .i64 ((cols.map i64D).length : Int))), (11, .d (.i .i64 i))], [(10008, .arr 3 false xs)]⟩, fun st => match look 11 st.env with | some (.d (.i _ i)) => cols.length - i.toNat | _ => 0, rfl, ⟨0, _, _, rfl, Nat.zero_le _, rfl, rfl⟩, ?_⟩; rintro st ⟨k, i, xs, rfl, hk, hx, rfl⟩)
        | refine ⟨_, get_map' hv, ?_⟩
        | refine ⟨hyr.1, ?_⟩
        | ((with_reducible refine isGet (xs := cols.map i64D) (i := ((k : Nat) : Int).toNat) ?_); obtain ⟨y, hy⟩ := get_ex (ss := cols) (k := k) (lt_of_dec (by assumption)); have hyr := hi y (get_mem hy); obtain ⟨v, hv⟩ := get_ex (ss := row) (k := y.toNat) (by omega); refine ⟨_, get_map' hy, ?_⟩)
        | (refine ⟨⟨by decide, rfl, rfl, room_add (by rw [hx, List.length_map, pickM_len, List.length_take]; omega) (by decide)⟩, ?_⟩)
        | fail))
    | ((with_reducible refine isCut ?_) <;> (first
        | refine ⟨⟨none⟩, ?_⟩))
    | ((first | with_reducible refine isEx ?_ | with_reducible refine isAnd ?_ | with_reducible refine isOr ?_) <;> (first
        | refine ⟨_, get_map' hv, ?_⟩
        | refine ⟨hyr.1, ?_⟩
        | ((with_reducible refine isGet (xs := cols.map i64D) (i := ((k : Nat) : Int).toNat) ?_); obtain ⟨y, hy⟩ := get_ex (ss := cols) (k := k) (lt_of_dec (by assumption)); have hyr := hi y (get_mem hy); obtain ⟨v, hv⟩ := get_ex (ss := row) (k := y.toNat) (by omega); refine ⟨_, get_map' hy, ?_⟩)
        | (refine ⟨⟨by decide, rfl, rfl, room_add (by rw [hx, List.length_map, pickM_len, List.length_take]; omega) (by decide)⟩, ?_⟩)
        | ((with_reducible refine isSmall ?_) <;> (refine ⟨?_, ?_⟩; kernel_rfl))
        | refine ⟨rfl, ?_⟩
        | refine ⟨Int.natCast_nonneg _, ?_⟩))
    | with_reducible refine Both.mk ?_ ?_
    | rintro _ rfl
    | exact rfl
    | (split <;> (rename_i h; first | (simp only [beq_self_eq_true, eq_self, decide_true, Bool.not_true, Bool.false_eq_true] at h; done) | (try rw [h])))))
  all_goals (conv => whnf)
  · exact ⟨⟨k + 1, _, _, step_up (n := 1000) (by have := get_lt hy; omega) (Nat.le_of_ble_eq_true rfl), get_lt hy, by rw [pick_up hy hv, List.map_append, ← hx]; rfl, rfl⟩, mu_up (get_lt hy) (Nat.le_trans hl (Nat.le_of_ble_eq_true rfl))⟩
  · have e : k = cols.length := by have := of_decide_eq_false h; rw [List.length_map] at this; omega
    rw [e, List.take_length] at hx
    rw [ho, ← hx]; exact ⟨rfl, rfl⟩
theorem specKey (s : Schema) (row : List Val) (hl : s.keys.length ≤ 1000) (hi : inRow row s.keys) : Ent Tryz.prog 178 [.d (schemaD s), .d (.sl false (row.map valD))] [] (.d (.sl false ((pickM row s.keys).map valD))) [] := by
  have c1 := specPick row s.keys hl hi
  refine ent_of tok mixed (f := 178) Tryz.func178 (by kernel_rfl) (keep := false) ?_
  repeat' ((conv => whnf) <;> (first
    | ((with_reducible refine isCall ?_) <;> (first
        | (refine ⟨_, c1, ?_⟩; rintro _ _ ⟨rfl, rfl⟩)
        | fail))
    | ((with_reducible refine isLoop ?_) <;> (first
        | fail))
    | ((with_reducible refine isCut ?_) <;> (first
        | refine ⟨⟨none⟩, ?_⟩))
    | ((first | with_reducible refine isEx ?_ | with_reducible refine isAnd ?_ | with_reducible refine isOr ?_) <;> (first
        | ((with_reducible refine isSmall ?_) <;> (refine ⟨?_, ?_⟩; kernel_rfl))
        | refine ⟨rfl, ?_⟩
        | refine ⟨Int.natCast_nonneg _, ?_⟩))
    | with_reducible refine Both.mk ?_ ?_
    | rintro _ rfl
    | exact rfl
    | (split <;> (rename_i h; first | (simp only [beq_self_eq_true, eq_self, decide_true, Bool.not_true, Bool.false_eq_true] at h; done) | (try rw [h])))))
theorem implKey (s : Schema) (row : List Val) (hl : s.keys.length ≤ 1000) (hi : inRow row s.keys) : Ent Tryz.prog 184 [.d (schemaD s), .d (.sl false (row.map valD))] [] (.d (.sl false ((pickM row s.keys).map valD))) [] := by
  have c1 := implPick row s.keys hl hi
  refine ent_of tok mixed (f := 184) Tryz.func184 (by kernel_rfl) (keep := false) ?_
  repeat' ((conv => whnf) <;> (first
    | ((with_reducible refine isCall ?_) <;> (first
        | (refine ⟨_, c1, ?_⟩; rintro _ _ ⟨rfl, rfl⟩)
        | fail))
    | ((with_reducible refine isLoop ?_) <;> (first
        | fail))
    | ((with_reducible refine isCut ?_) <;> (first
        | refine ⟨⟨none⟩, ?_⟩))
    | ((first | with_reducible refine isEx ?_ | with_reducible refine isAnd ?_ | with_reducible refine isOr ?_) <;> (first
        | ((with_reducible refine isSmall ?_) <;> (refine ⟨?_, ?_⟩; kernel_rfl))
        | refine ⟨rfl, ?_⟩
        | refine ⟨Int.natCast_nonneg _, ?_⟩))
    | with_reducible refine Both.mk ?_ ?_
    | rintro _ rfl
    | exact rfl
    | (split <;> (rename_i h; first | (simp only [beq_self_eq_true, eq_self, decide_true, Bool.not_true, Bool.false_eq_true] at h; done) | (try rw [h])))))
def cellP (v : Val) (c : Col) : Prop := valueP v ∧ (v.kind = c.kind ∨ (v.kind = 0 ∧ c.uniq = true))
def rowP (cs : List Col) (row : List Val) : Prop := row.length = cs.length ∧ ∀ (k : Nat) (v : Val) (c : Col), row[k]? = some v → cs[k]? = some c → cellP v c
theorem row_up {cs : List Col} {row : List Val} {k : Nat} {v : Val} {c : Col} (h : ∀ (j : Nat) (v : Val) (c : Col), j < k → row[j]? = some v → cs[j]? = some c → cellP v c) (hv : row[k]? = some v) (hc : cs[k]? = some c) (h1 : cellP v c) : ∀ (j : Nat) (v : Val) (c : Col), j < k + 1 → row[j]? = some v → cs[j]? = some c → cellP v c := by
  intro j v' c' hj hv' hc'
  by_cases e : j = k
  · subst e; rw [hv] at hv'; rw [hc] at hc'; cases hv'; cases hc'; exact h1
  · exact h j v' c' (by omega) hv' hc'
set_option maxHeartbeats 4000000 in
theorem specRow (s : Schema) (row : List Val) (hr : row.length ≤ maxLen) : Ent Tryz.prog 176 [.d (schemaD s), .d (.sl false (row.map valD))] [] (.d (.b (dec (rowP s.cols row)))) [] := by
  obtain ⟨o, ho⟩ : ∃ o, o = dec (rowP s.cols row) := ⟨_, rfl⟩
  rw [← ho]
  have hrl : (row.map valD).length = row.length := List.length_map ..
  have hcl : (s.cols.map colD).length = s.cols.length := List.length_map ..
  refine ent_of tok mixed (f := 176) Tryz.func176 (by kernel_rfl) (keep := false) ?_
  repeat' ((conv => whnf) <;> (first
    | ((with_reducible refine isCall ?_) <;> (first
        | (refine ⟨_, specValueRight _, ?_⟩; rintro _ _ ⟨rfl, rfl⟩)
        | refine ⟨_, get_map' hx, ?_⟩
        | refine ⟨_, get_map' hy, ?_⟩
        | ((with_reducible refine isGet (xs := row.map valD) (i := ((k : Nat) : Int).toNat) ?_); obtain ⟨x, hx⟩ := get_ex (ss := row) (k := k) (lt_of_dec (by assumption)); refine ⟨_, get_map' hx, ?_⟩)
        | ((with_reducible refine isGet (xs := s.cols.map colD) (i := ((k : Nat) : Int).toNat) ?_); obtain ⟨y, hy⟩ := get_ex (ss := s.cols) (k := k) (by have := lt_of_dec (ss := row) (k := k) (f := valD) (by assumption); omega); refine ⟨_, get_map' hy, ?_⟩)
        | fail))
    | ((with_reducible refine isLoop ?_) <;> (first
        | (refine ⟨[1, 2, 5], [10002], fun st => ∃ (k : Nat) (i : Int), i = k ∧ k ≤ row.length ∧ row.length = s.cols.length ∧ (∀ (j : Nat) (v : Val) (c : Col), j < k → row[j]? = some v → s.cols[j]? = some c → cellP v c) ∧ st = ⟨[(1, .d (.sl false (row.map valD))), (2, .ptr 10002 0), (5, .d (.i .i64 i))], [(10002, .var (schC s))]⟩, fun st => match look 5 st.env with | some (.d (.i _ i)) => row.length - i.toNat | _ => 0, rfl, ⟨0, _, rfl, Nat.zero_le _, (by have := of_decide_eq_true (not_ok (by assumption)); omega), (fun j v c hj => absurd hj (Nat.not_lt_zero _)), rfl⟩, ?_⟩; rintro st ⟨k, i, rfl, hk, heq, hv, rfl⟩)
        | refine ⟨_, get_map' hx, ?_⟩
        | refine ⟨_, get_map' hy, ?_⟩
        | ((with_reducible refine isGet (xs := row.map valD) (i := ((k : Nat) : Int).toNat) ?_); obtain ⟨x, hx⟩ := get_ex (ss := row) (k := k) (lt_of_dec (by assumption)); refine ⟨_, get_map' hx, ?_⟩)
        | ((with_reducible refine isGet (xs := s.cols.map colD) (i := ((k : Nat) : Int).toNat) ?_); obtain ⟨y, hy⟩ := get_ex (ss := s.cols) (k := k) (by have := lt_of_dec (ss := row) (k := k) (f := valD) (by assumption); omega); refine ⟨_, get_map' hy, ?_⟩)
        | fail))
    | ((with_reducible refine isCut ?_) <;> (first
        | refine ⟨⟨none⟩, ?_⟩))
    | ((first | with_reducible refine isEx ?_ | with_reducible refine isAnd ?_ | with_reducible refine isOr ?_) <;> (first
        | refine ⟨_, get_map' hx, ?_⟩
        | refine ⟨_, get_map' hy, ?_⟩
        | ((with_reducible refine isGet (xs := row.map valD) (i := ((k : Nat) : Int).toNat) ?_); obtain ⟨x, hx⟩ := get_ex (ss := row) (k := k) (lt_of_dec (by assumption)); refine ⟨_, get_map' hx, ?_⟩)
        | ((with_reducible refine isGet (xs := s.cols.map colD) (i := ((k : Nat) : Int).toNat) ?_); obtain ⟨y, hy⟩ := get_ex (ss := s.cols) (k := k) (by have := lt_of_dec (ss := row) (k := k) (f := valD) (by assumption); omega); refine ⟨_, get_map' hy, ?_⟩)
        | ((with_reducible refine isSmall ?_) <;> (refine ⟨?_, ?_⟩; kernel_rfl))
        | refine ⟨rfl, ?_⟩
        | refine ⟨Int.natCast_nonneg _, ?_⟩))
    | with_reducible refine Both.mk ?_ ?_
    | rintro _ rfl
    | exact rfl
    | (split <;> (rename_i h; first | (simp only [beq_self_eq_true, eq_self, decide_true, Bool.not_true, Bool.false_eq_true] at h; done) | (try rw [h])))))
  all_goals (conv => whnf)
  all_goals first
    | exact ret_false ho fun hP => by have := of_decide_eq_false (not_ok' h); have := hP.1; omega
    | (obtain ⟨y, hy⟩ := get_ex (ss := s.cols) (k := k) (by have := get_lt hx; omega)
       exact ret_false ho fun hP => of_ndec (not_ok' h) (hP.2 k x y hx hy).1)
    | exact ret_false ho fun hP => (hP.2 k x y hx hy).2.elim (fun e => of_decide_eq_false (not_ok' (by assumption : (!decide (x.kind = y.kind)) = true)) e) (fun e => of_decide_eq_false (not_ok' h) e.1)
    | exact ret_false ho fun hP => (hP.2 k x y hx hy).2.elim (fun e => of_decide_eq_false (not_ok' (by assumption : (!decide (x.kind = y.kind)) = true)) e) (fun e => Bool.noConfusion ((not_ok' h).symm.trans e.2 : false = true))
    | exact ret_false ho fun hP => (hP.2 k x y hx hy).2.elim (fun e => of_decide_eq_false (not_ok' (by assumption : (!decide (x.kind = y.kind)) = true)) e) (fun e => of_decide_eq_false h e.1)
    | exact ret_false ho fun hP => (hP.2 k x y hx hy).2.elim (fun e => of_decide_eq_false (not_ok' (by assumption : (!decide (x.kind = y.kind)) = true)) e) (fun e => Bool.noConfusion (h.symm.trans e.2 : false = true))
    | exact ⟨⟨k + 1, _, step_up (get_lt hx) hr, get_lt hx, heq, row_up hv hx hy ⟨of_dec (not_ok (by assumption)), .inr ⟨of_decide_eq_true (not_ok (by assumption : (!decide (x.kind = 0)) = false)), not_ok h⟩⟩, rfl⟩, mu_up (get_lt hx) hr⟩
    | exact ⟨⟨k + 1, _, step_up (get_lt hx) hr, get_lt hx, heq, row_up hv hx hy ⟨of_dec (not_ok (by assumption)), .inr ⟨of_decide_eq_true h, by assumption⟩⟩, rfl⟩, mu_up (get_lt hx) hr⟩
    | exact ⟨⟨k + 1, _, step_up (get_lt hx) hr, get_lt hx, heq, row_up hv hx hy ⟨of_dec (not_ok (by assumption)), .inr ⟨of_decide_eq_true (not_ok h), by assumption⟩⟩, rfl⟩, mu_up (get_lt hx) hr⟩
    | exact ⟨⟨k + 1, _, step_up (get_lt hx) hr, get_lt hx, heq, row_up hv hx hy ⟨of_dec (not_ok (by assumption)), .inl (of_decide_eq_true (not_ok h))⟩, rfl⟩, mu_up (get_lt hx) hr⟩
    | (have e : k = row.length := by have := of_decide_eq_false h; omega
       exact ret_true ho ⟨heq, fun j v c hj hc => hv j v c (by rw [e]; exact get_lt hj) hj hc⟩)
    | trace_state
set_option maxHeartbeats 4000000 in
theorem implRow (s : Schema) (row : List Val) (hr : row.length ≤ maxLen) : Ent Tryz.prog 182 [.d (schemaD s), .d (.sl false (row.map valD))] [] (.d (.b (dec (rowP s.cols row)))) [] := by
  obtain ⟨o, ho⟩ : ∃ o, o = dec (rowP s.cols row) := ⟨_, rfl⟩
  rw [← ho]
  have hrl : (row.map valD).length = row.length := List.length_map ..
  have hcl : (s.cols.map colD).length = s.cols.length := List.length_map ..
  refine ent_of tok mixed (f := 182) Tryz.func182 (by kernel_rfl) (keep := false) ?_
  repeat' ((conv => whnf) <;> (first
    | ((with_reducible refine isCall ?_) <;> (first
        | (refine ⟨_, implValueRight _, ?_⟩; rintro _ _ ⟨rfl, rfl⟩)
        | refine ⟨_, get_map' hx, ?_⟩
        | refine ⟨_, get_map' hy, ?_⟩
        | ((with_reducible refine isGet (xs := row.map valD) (i := ((k : Nat) : Int).toNat) ?_); obtain ⟨x, hx⟩ := get_ex (ss := row) (k := k) (lt_of_dec (by assumption)); refine ⟨_, get_map' hx, ?_⟩)
        | ((with_reducible refine isGet (xs := s.cols.map colD) (i := ((k : Nat) : Int).toNat) ?_); obtain ⟨y, hy⟩ := get_ex (ss := s.cols) (k := k) (by have := lt_of_dec (ss := row) (k := k) (f := valD) (by assumption); omega); refine ⟨_, get_map' hy, ?_⟩)
        | fail))
    | ((with_reducible refine isLoop ?_) <;> (first
        | (refine ⟨[2, 14, 15, 16], [10002], fun st => ∃ (k : Nat) (i : Int), i = k ∧ k ≤ row.length ∧ row.length = s.cols.length ∧ (∀ (j : Nat) (v : Val) (c : Col), j < k → row[j]? = some v → s.cols[j]? = some c → cellP v c) ∧ st = ⟨[(2, .ptr 10002 0), (14, .d (.sl false (row.map valD))), (15, .d (.i .i64 ((row.map valD).length : Int))), (16, .d (.i .i64 i))], [(10002, .var (schC s))]⟩, fun st => match look 16 st.env with | some (.d (.i _ i)) => row.length - i.toNat | _ => 0, rfl, ⟨0, _, rfl, Nat.zero_le _, (by have := of_decide_eq_true (not_ok (by assumption)); omega), (fun j v c hj => absurd hj (Nat.not_lt_zero _)), rfl⟩, ?_⟩; rintro st ⟨k, i, rfl, hk, heq, hv, rfl⟩)
        | refine ⟨_, get_map' hx, ?_⟩
        | refine ⟨_, get_map' hy, ?_⟩
        | ((with_reducible refine isGet (xs := row.map valD) (i := ((k : Nat) : Int).toNat) ?_); obtain ⟨x, hx⟩ := get_ex (ss := row) (k := k) (lt_of_dec (by assumption)); refine ⟨_, get_map' hx, ?_⟩)
        | ((with_reducible refine isGet (xs := s.cols.map colD) (i := ((k : Nat) : Int).toNat) ?_); obtain ⟨y, hy⟩ := get_ex (ss := s.cols) (k := k) (by have := lt_of_dec (ss := row) (k := k) (f := valD) (by assumption); omega); refine ⟨_, get_map' hy, ?_⟩)
        | fail))
    | ((with_reducible refine isCut ?_) <;> (first
        | refine ⟨⟨none⟩, ?_⟩))
    | ((first | with_reducible refine isEx ?_ | with_reducible refine isAnd ?_ | with_reducible refine isOr ?_) <;> (first
        | refine ⟨_, get_map' hx, ?_⟩
        | refine ⟨_, get_map' hy, ?_⟩
        | ((with_reducible refine isGet (xs := row.map valD) (i := ((k : Nat) : Int).toNat) ?_); obtain ⟨x, hx⟩ := get_ex (ss := row) (k := k) (lt_of_dec (by assumption)); refine ⟨_, get_map' hx, ?_⟩)
        | ((with_reducible refine isGet (xs := s.cols.map colD) (i := ((k : Nat) : Int).toNat) ?_); obtain ⟨y, hy⟩ := get_ex (ss := s.cols) (k := k) (by have := lt_of_dec (ss := row) (k := k) (f := valD) (by assumption); omega); refine ⟨_, get_map' hy, ?_⟩)
        | ((with_reducible refine isSmall ?_) <;> (refine ⟨?_, ?_⟩; kernel_rfl))
        | refine ⟨rfl, ?_⟩
        | refine ⟨Int.natCast_nonneg _, ?_⟩))
    | with_reducible refine Both.mk ?_ ?_
    | rintro _ rfl
    | exact rfl
    | (split <;> (rename_i h; first | (simp only [beq_self_eq_true, eq_self, decide_true, Bool.not_true, Bool.false_eq_true] at h; done) | (try rw [h])))))
  all_goals (conv => whnf)
  all_goals first
    | exact ret_false ho fun hP => by have := of_decide_eq_false (not_ok' h); have := hP.1; omega
    | (obtain ⟨y, hy⟩ := get_ex (ss := s.cols) (k := k) (by have := get_lt hx; omega)
       exact ret_false ho fun hP => of_ndec (not_ok' h) (hP.2 k x y hx hy).1)
    | exact ret_false ho fun hP => (hP.2 k x y hx hy).2.elim (fun e => of_decide_eq_false (not_ok' (by assumption : (!decide (x.kind = y.kind)) = true)) e) (fun e => of_decide_eq_false (not_ok' h) e.1)
    | exact ret_false ho fun hP => (hP.2 k x y hx hy).2.elim (fun e => of_decide_eq_false (not_ok' (by assumption : (!decide (x.kind = y.kind)) = true)) e) (fun e => Bool.noConfusion ((not_ok' h).symm.trans e.2 : false = true))
    | exact ret_false ho fun hP => (hP.2 k x y hx hy).2.elim (fun e => of_decide_eq_false (not_ok' (by assumption : (!decide (x.kind = y.kind)) = true)) e) (fun e => of_decide_eq_false h e.1)
    | exact ret_false ho fun hP => (hP.2 k x y hx hy).2.elim (fun e => of_decide_eq_false (not_ok' (by assumption : (!decide (x.kind = y.kind)) = true)) e) (fun e => Bool.noConfusion (h.symm.trans e.2 : false = true))
    | exact ⟨⟨k + 1, _, step_up (get_lt hx) hr, get_lt hx, heq, row_up hv hx hy ⟨of_dec (not_ok (by assumption)), .inr ⟨of_decide_eq_true (not_ok (by assumption : (!decide (x.kind = 0)) = false)), not_ok h⟩⟩, rfl⟩, mu_up (get_lt hx) hr⟩
    | exact ⟨⟨k + 1, _, step_up (get_lt hx) hr, get_lt hx, heq, row_up hv hx hy ⟨of_dec (not_ok (by assumption)), .inr ⟨of_decide_eq_true h, by assumption⟩⟩, rfl⟩, mu_up (get_lt hx) hr⟩
    | exact ⟨⟨k + 1, _, step_up (get_lt hx) hr, get_lt hx, heq, row_up hv hx hy ⟨of_dec (not_ok (by assumption)), .inr ⟨of_decide_eq_true (not_ok h), by assumption⟩⟩, rfl⟩, mu_up (get_lt hx) hr⟩
    | exact ⟨⟨k + 1, _, step_up (get_lt hx) hr, get_lt hx, heq, row_up hv hx hy ⟨of_dec (not_ok (by assumption)), .inl (of_decide_eq_true (not_ok h))⟩, rfl⟩, mu_up (get_lt hx) hr⟩
    | (have e : k = row.length := by have := of_decide_eq_false h; omega
       exact ret_true ho ⟨heq, fun j v c hj hc => hv j v c (by rw [e]; exact get_lt hj) hj hc⟩)
    | trace_state
end Go.Pm.Tryz
/-
Rows that clash.
-/
namespace Go.Pm.Tryz
open Go Go.Proofs
set_option linter.unusedVariables false
set_option linter.unusedSimpArgs false
set_option maxRecDepth 100000
def noNull (vs : List Val) : Prop := ∀ v, v ∈ vs → ¬ v.kind = 0
def clashX (x : Idx) (a b : List Val) : Prop := x.uniq = true ∧ noNull (pickM a x.cols) ∧ pickM a x.cols = pickM b x.cols
def clashP (is : List Idx) (a b : List Val) : Prop := ∃ x, x ∈ is ∧ clashX x a b
theorem clash_symm {is : List Idx} {a b : List Val} : clashP is a b ↔ clashP is b a := by
  constructor <;> (rintro ⟨x, hx, h1, h2, h3⟩; exact ⟨x, hx, h1, h3 ▸ h2, h3.symm⟩)
/-- What an index picks is there, in both rows. -/
def idxIn (is : List Idx) (a : List Val) : Prop := ∀ x, x ∈ is → x.cols.length ≤ 1000 ∧ inRow a x.cols
def nullB (vs : List Val) : Bool := vs.any fun v => decide (v.kind = 0)
theorem nullB_iff {vs : List Val} : nullB vs = false ↔ noNull vs := by
  simp only [nullB, List.any_eq_false, decide_eq_true_eq, noNull]
theorem null_up {vs : List Val} {m : Nat} {v : Val} (h : vs[m]? = some v) : nullB (vs.take (m + 1)) = (nullB (vs.take m) || decide (v.kind = 0)) := by
  simp only [nullB, take_up h, List.any_append, List.any_cons, List.any_nil, Bool.or_false]
set_option maxHeartbeats 4000000 in
theorem specClash (s : Schema) (a b : List Val) (hi : s.idxs.length ≤ maxLen) (ha : idxIn s.idxs a) (hb : idxIn s.idxs b) : Ent Tryz.prog 179 [.d (schemaD s), .d (.sl false (a.map valD)), .d (.sl false (b.map valD))] [] (.d (.b (dec (clashP s.idxs a b)))) [] := by
  obtain ⟨o, ho⟩ : ∃ o, o = dec (clashP s.idxs a b) := ⟨_, rfl⟩
  rw [← ho]
  have hil : (s.idxs.map idxD).length = s.idxs.length := List.length_map ..
  refine ent_of tok mixed (f := 179) Tryz.func179 (by kernel_rfl) (keep := false) ?_
  repeat' ((conv => whnf) <;> (first
    | ((with_reducible refine isCall ?_) <;> (first
        | (refine ⟨_, c1, ?_⟩; rintro _ _ ⟨rfl, rfl⟩)
        | (refine ⟨_, c2, ?_⟩; rintro _ _ ⟨rfl, rfl⟩)
        | (refine ⟨_, c3, ?_⟩; rintro _ _ ⟨rfl, rfl⟩)
        | refine ⟨_, get_map' hx, ?_⟩
        | refine ⟨_, get_map' hy, ?_⟩
        | ((with_reducible refine isGet (xs := s.idxs.map idxD) (i := ((k : Nat) : Int).toNat) ?_); obtain ⟨x, hx⟩ := get_ex (ss := s.idxs) (k := k) (lt_of_dec (by assumption)); have c1 := specPick a x.cols (ha x (get_mem hx)).1 (ha x (get_mem hx)).2; have c2 := specPick b x.cols (hb x (get_mem hx)).1 (hb x (get_mem hx)).2; have hpl : (pickM a x.cols).length ≤ maxLen := (by rw [pickM_len]; exact Nat.le_trans (ha x (get_mem hx)).1 (Nat.le_of_ble_eq_true rfl)); have c3 := l02Compare (pickM a x.cols) (pickM b x.cols) hpl (by rw [pickM_len]; exact Nat.le_trans (hb x (get_mem hx)).1 (Nat.le_of_ble_eq_true rfl)); refine ⟨_, get_map' hx, ?_⟩)
        | ((with_reducible refine isGet (xs := (pickM a x.cols).map valD) (i := ((m : Nat) : Int).toNat) ?_); obtain ⟨y, hy⟩ := get_ex (ss := pickM a x.cols) (k := m) (lt_of_dec (by assumption)); refine ⟨_, get_map' hy, ?_⟩)
        | fail))
    | ((with_reducible refine isLoop ?_) <;> (first
        | (refine ⟨[1, 2, 3, 7], [10003], fun st => ∃ (k : Nat) (i : Int), i = k ∧ k ≤ s.idxs.length ∧ (∀ x, x ∈ s.idxs.take k → ¬ clashX x a b) ∧ st = ⟨[(1, .d (.sl false (a.map valD))), (2, .d (.sl false (b.map valD))), (3, .ptr 10003 0), (7, .d (.i .i64 i))], [(10003, .var (schC s))]⟩, fun st => match look 7 st.env with | some (.d (.i _ i)) => s.idxs.length - i.toNat | _ => 0, rfl, ⟨0, _, rfl, Nat.zero_le _, (fun x hx => by simp at hx), rfl⟩, ?_⟩; rintro st ⟨k, i, rfl, hk, hv, rfl⟩)
        | (refine ⟨[1, 2, 3, 7, 8, 9, 10], [10003], fun st => ∃ (m : Nat) (i : Int) (u : Bool), i = m ∧ m ≤ (pickM a x.cols).length ∧ x.uniq = true ∧ u = nullB ((pickM a x.cols).take m) ∧ st = ⟨[(1, .d (.sl false (a.map valD))), (2, .d (.sl false (b.map valD))), (3, .ptr 10003 0), (7, .d (.i .i64 k)), (8, .d (.sl false ((pickM a x.cols).map valD))), (9, .d (.b u)), (10, .d (.i .i64 i))], [(10003, .var (schC s))]⟩, fun st => match look 10 st.env with | some (.d (.i _ i)) => (pickM a x.cols).length - i.toNat | _ => 0, rfl, ⟨0, _, _, rfl, Nat.zero_le _, not_ok (by assumption), rfl, rfl⟩, ?_⟩; rintro st ⟨m, i, u, rfl, hm, hun, hu, rfl⟩)
        | refine ⟨_, get_map' hx, ?_⟩
        | refine ⟨_, get_map' hy, ?_⟩
        | ((with_reducible refine isGet (xs := s.idxs.map idxD) (i := ((k : Nat) : Int).toNat) ?_); obtain ⟨x, hx⟩ := get_ex (ss := s.idxs) (k := k) (lt_of_dec (by assumption)); have c1 := specPick a x.cols (ha x (get_mem hx)).1 (ha x (get_mem hx)).2; have c2 := specPick b x.cols (hb x (get_mem hx)).1 (hb x (get_mem hx)).2; have hpl : (pickM a x.cols).length ≤ maxLen := (by rw [pickM_len]; exact Nat.le_trans (ha x (get_mem hx)).1 (Nat.le_of_ble_eq_true rfl)); have c3 := l02Compare (pickM a x.cols) (pickM b x.cols) hpl (by rw [pickM_len]; exact Nat.le_trans (hb x (get_mem hx)).1 (Nat.le_of_ble_eq_true rfl)); refine ⟨_, get_map' hx, ?_⟩)
        | ((with_reducible refine isGet (xs := (pickM a x.cols).map valD) (i := ((m : Nat) : Int).toNat) ?_); obtain ⟨y, hy⟩ := get_ex (ss := pickM a x.cols) (k := m) (lt_of_dec (by assumption)); refine ⟨_, get_map' hy, ?_⟩)
        | fail))
    | ((with_reducible refine isCut ?_) <;> (first
        | refine ⟨⟨none⟩, ?_⟩))
    | ((first | with_reducible refine isEx ?_ | with_reducible refine isAnd ?_ | with_reducible refine isOr ?_) <;> (first
        | refine ⟨_, get_map' hx, ?_⟩
        | refine ⟨_, get_map' hy, ?_⟩
        | ((with_reducible refine isGet (xs := s.idxs.map idxD) (i := ((k : Nat) : Int).toNat) ?_); obtain ⟨x, hx⟩ := get_ex (ss := s.idxs) (k := k) (lt_of_dec (by assumption)); have c1 := specPick a x.cols (ha x (get_mem hx)).1 (ha x (get_mem hx)).2; have c2 := specPick b x.cols (hb x (get_mem hx)).1 (hb x (get_mem hx)).2; have hpl : (pickM a x.cols).length ≤ maxLen := (by rw [pickM_len]; exact Nat.le_trans (ha x (get_mem hx)).1 (Nat.le_of_ble_eq_true rfl)); have c3 := l02Compare (pickM a x.cols) (pickM b x.cols) hpl (by rw [pickM_len]; exact Nat.le_trans (hb x (get_mem hx)).1 (Nat.le_of_ble_eq_true rfl)); refine ⟨_, get_map' hx, ?_⟩)
        | ((with_reducible refine isGet (xs := (pickM a x.cols).map valD) (i := ((m : Nat) : Int).toNat) ?_); obtain ⟨y, hy⟩ := get_ex (ss := pickM a x.cols) (k := m) (lt_of_dec (by assumption)); refine ⟨_, get_map' hy, ?_⟩)
        | ((with_reducible refine isSmall ?_) <;> (refine ⟨?_, ?_⟩; kernel_rfl))
        | refine ⟨rfl, ?_⟩
        | refine ⟨Int.natCast_nonneg _, ?_⟩))
    | with_reducible refine Both.mk ?_ ?_
    | rintro _ rfl
    | exact rfl
    | (split <;> (rename_i h; first | (simp only [beq_self_eq_true, eq_self, decide_true, Bool.not_true, Bool.false_eq_true] at h; done) | (try rw [h])))))
  all_goals (conv => whnf)
  all_goals first
    | exact ⟨⟨k + 1, _, step_up (get_lt hx) hi, get_lt hx, take_all hv hx (fun hc => Bool.noConfusion ((not_ok' h).symm.trans hc.1 : false = true)), rfl⟩, mu_up (get_lt hx) hi⟩
    | (obtain ⟨y, hy⟩ := get_ex (ss := pickM a x.cols) (k := m) (lt_of_dec (by assumption))
       exact ⟨⟨m + 1, _, _, step_up (get_lt hy) hpl, get_lt hy, hun, (by rw [null_up hy, ← hu]; rfl), rfl⟩, mu_up (get_lt hy) hpl⟩)
    | exact ⟨⟨m + 1, _, _, step_up (get_lt hy) hpl, get_lt hy, hun, (by rw [null_up hy, ← hu]; rfl), rfl⟩, mu_up (get_lt hy) hpl⟩
    | (have e : m = (pickM a x.cols).length := by have := of_decide_eq_false (by assumption : decide ((m : Int) < (((pickM a x.cols).map valD).length : Int)) = false); rw [List.length_map] at this; omega
       rw [e, List.take_length] at hu
       first
         | exact ret_true ho ⟨x, get_mem hx, hun, nullB_iff.1 (hu.symm.trans (not_ok' (by assumption : (!u) = true))), cmpL_zero.1 (of_decide_eq_true h)⟩
         | exact ⟨⟨k + 1, _, step_up (get_lt hx) hi, get_lt hx, take_all hv hx (fun hc => of_decide_eq_false h (cmpL_zero.2 hc.2.2)), rfl⟩, mu_up (get_lt hx) hi⟩
         | exact ⟨⟨k + 1, _, step_up (get_lt hx) hi, get_lt hx, take_all hv hx (fun hc => Bool.noConfusion ((not_ok h).symm.trans (hu.trans (nullB_iff.2 hc.2.1)) : true = false)), rfl⟩, mu_up (get_lt hx) hi⟩)
    | (have e : k = s.idxs.length := by have := of_decide_eq_false h; omega
       rw [e, List.take_length] at hv
       exact ret_false ho fun ⟨x, hx, hc⟩ => hv x hx hc)
    | trace_state
theorem val_null {v : Val} (h : valueP v) : v = ⟨0, 0, []⟩ ↔ v.kind = 0 := by
  constructor
  · intro e; rw [e]
  · intro e
    rcases h with ⟨_, h2, h3⟩ | ⟨h1, _⟩ | ⟨h1, _⟩ | ⟨h1, _⟩
    · rcases v with ⟨k, n, t⟩; simp only at e h2 h3; rw [e, h2, h3]
    all_goals omega
theorem eqv_true {w x : Val} (h : (decide (w.kind = x.kind) && (decide (w.n = x.n) && (decide (w.text = x.text) && true))) = true) : w = x := by
  simp only [Bool.and_true, Bool.and_eq_true, decide_eq_true_eq] at h
  rcases w with ⟨k, n, t⟩
  rcases x with ⟨k', n', t'⟩
  obtain ⟨h1, h2, h3⟩ := h
  simp only at h1 h2 h3
  rw [h1, h2, h3]
theorem eqv_false {w x : Val} (h : (decide (w.kind = x.kind) && (decide (w.n = x.n) && (decide (w.text = x.text) && true))) = false) : ¬ w = x := by
  intro e
  subst e
  simp at h
set_option maxHeartbeats 1000000 in
theorem indexVal (vs : List Val) (hl : vs.length ≤ maxLen) (w : Val) : EntQ Tryz.prog 296 [.d (.sl false (vs.map valD)), .d (valD w)] [] (fun R O => ∃ n : Int, R = .d (.i .i64 n) ∧ O = [] ∧ decide (n ≥ 0) = dec (w ∈ vs)) := by
  refine ent_of tok mixed (f := 296) Tryz.func296 (by kernel_rfl) (keep := false) ?_
  repeat' ((conv => whnf) <;> (first
    | ((with_reducible refine isCall ?_) <;> (first
        | refine ⟨_, get_map' hx, ?_⟩
        | ((with_reducible refine isGet (xs := vs.map valD) (i := ((k : Nat) : Int).toNat) ?_); obtain ⟨x, hx⟩ := get_ex (ss := vs) (k := k) (lt_of_dec (by assumption)); refine ⟨_, get_map' hx, ?_⟩)
        | fail))
    | ((with_reducible refine isLoop ?_) <;> (first
        | (refine ⟨[0, 3, 7, 8], [10003], fun st => ∃ (k : Nat) (n : Int), n = k ∧ k ≤ vs.length ∧ (∀ i, i ∈ vs.take k → ¬ i = w) ∧ st = ⟨[(0, .d (.sl false (vs.map valD))), (3, .ptr 10003 0), (7, .d (.i .i64 ((vs.map valD).length : Int))), (8, .d (.i .i64 n))], [(10003, .var (AV.d (valD w)).cells)]⟩, fun st => match look 8 st.env with | some (.d (.i _ n)) => vs.length - n.toNat | _ => 0, rfl, ⟨0, _, rfl, Nat.zero_le _, (fun x hx => by simp at hx), rfl⟩, ?_⟩; rintro st ⟨k, n, rfl, hk, hv, rfl⟩)
        | refine ⟨_, get_map' hx, ?_⟩
        | ((with_reducible refine isGet (xs := vs.map valD) (i := ((k : Nat) : Int).toNat) ?_); obtain ⟨x, hx⟩ := get_ex (ss := vs) (k := k) (lt_of_dec (by assumption)); refine ⟨_, get_map' hx, ?_⟩)
        | fail))
    | ((with_reducible refine isCut ?_) <;> (first
        | refine ⟨⟨none⟩, ?_⟩))
    | ((first | with_reducible refine isEx ?_ | with_reducible refine isAnd ?_ | with_reducible refine isOr ?_) <;> (first
        | refine ⟨_, get_map' hx, ?_⟩
        | ((with_reducible refine isGet (xs := vs.map valD) (i := ((k : Nat) : Int).toNat) ?_); obtain ⟨x, hx⟩ := get_ex (ss := vs) (k := k) (lt_of_dec (by assumption)); refine ⟨_, get_map' hx, ?_⟩)
        | ((with_reducible refine isSmall ?_) <;> (refine ⟨?_, ?_⟩; kernel_rfl))
        | refine ⟨rfl, ?_⟩
        | refine ⟨Int.natCast_nonneg _, ?_⟩))
    | with_reducible refine Both.mk ?_ ?_
    | rintro _ rfl
    | exact rfl
    | (split <;> (rename_i h; first | (simp only [beq_self_eq_true, eq_self, decide_true, Bool.not_true, Bool.false_eq_true] at h; done) | (try rw [h])))))
  all_goals (conv => whnf)
  · refine ⟨_, rfl, rfl, ?_⟩
    rw [dec_true (eqv_true h ▸ get_mem hx)]
    exact decide_eq_true (Int.natCast_nonneg k)
  · exact ⟨⟨k + 1, _, step_up (get_lt hx) hl, get_lt hx, any_no hv hx (fun e => eqv_false h e.symm), rfl⟩, mu_up (get_lt hx) hl⟩
  · refine ⟨_, rfl, rfl, ?_⟩
    have e : k = vs.length := by have := of_decide_eq_false h; rw [List.length_map] at this; omega
    rw [e, List.take_length] at hv
    rw [dec_false fun hm => hv w hm rfl]; rfl
theorem containsVal (vs : List Val) (hl : vs.length ≤ maxLen) (w : Val) : Ent Tryz.prog 255 [.d (.sl false (vs.map valD)), .d (valD w)] [] (.d (.b (dec (w ∈ vs)))) [] := by
  have c1 := indexVal vs hl w
  refine ent_of tok mixed (f := 255) Tryz.func255 (by kernel_rfl) (keep := false) ?_
  repeat' ((conv => whnf) <;> (first
    | ((with_reducible refine isCall ?_) <;> (first
        | (refine ⟨_, c1, ?_⟩; rintro _ _ ⟨n, rfl, rfl, hn⟩)
        | fail))
    | ((with_reducible refine isLoop ?_) <;> (first
        | fail))
    | ((with_reducible refine isCut ?_) <;> (first
        | refine ⟨⟨none⟩, ?_⟩))
    | ((first | with_reducible refine isEx ?_ | with_reducible refine isAnd ?_ | with_reducible refine isOr ?_) <;> (first
        | ((with_reducible refine isSmall ?_) <;> (refine ⟨?_, ?_⟩; kernel_rfl))
        | refine ⟨rfl, ?_⟩
        | refine ⟨Int.natCast_nonneg _, ?_⟩))
    | with_reducible refine Both.mk ?_ ?_
    | rintro _ rfl
    | exact rfl
    | (split <;> (rename_i h; first | (simp only [beq_self_eq_true, eq_self, decide_true, Bool.not_true, Bool.false_eq_true] at h; done) | (try rw [h])))))
  all_goals (conv => whnf)
  all_goals (rw [hn]; exact ⟨rfl, rfl⟩)
set_option maxHeartbeats 1000000 in
theorem equalVals (a b : List Val) (ha : a.length ≤ maxLen) : Ent Tryz.prog 256 [.d (.sl false (a.map valD)), .d (.sl false (b.map valD))] [] (.d (.b (dec (a = b)))) [] := by
  obtain ⟨o, ho⟩ : ∃ o, o = dec (a = b) := ⟨_, rfl⟩
  rw [← ho]
  have hla : (a.map valD).length = a.length := List.length_map ..
  have hlb : (b.map valD).length = b.length := List.length_map ..
  refine ent_of tok mixed (f := 256) Tryz.func256 (by kernel_rfl) (keep := false) ?_
  repeat' ((conv => whnf) <;> (first
    | ((with_reducible refine isCall ?_) <;> (first
        | refine ⟨_, get_map' hx, ?_⟩
        | refine ⟨_, get_map' hy, ?_⟩
        | ((with_reducible refine isGet (xs := a.map valD) (i := ((k : Nat) : Int).toNat) ?_); obtain ⟨x, hx⟩ := get_ex (ss := a) (k := k) (lt_of_dec (by assumption)); refine ⟨_, get_map' hx, ?_⟩)
        | ((with_reducible refine isGet (xs := b.map valD) (i := ((k : Nat) : Int).toNat) ?_); obtain ⟨y, hy⟩ := get_ex (ss := b) (k := k) (by have := lt_of_dec (ss := a) (k := k) (f := valD) (by assumption); omega); refine ⟨_, get_map' hy, ?_⟩)
        | fail))
    | ((with_reducible refine isLoop ?_) <;> (first
        | (refine ⟨[0, 1, 12, 13], [], fun st => ∃ (k : Nat) (n : Int), n = k ∧ k ≤ a.length ∧ a.length = b.length ∧ a.take k = b.take k ∧ st = ⟨[(0, .d (.sl false (a.map valD))), (1, .d (.sl false (b.map valD))), (12, .d (.i .i64 ((a.map valD).length : Int))), (13, .d (.i .i64 n))], []⟩, fun st => match look 13 st.env with | some (.d (.i _ n)) => a.length - n.toNat | _ => 0, rfl, ⟨0, _, rfl, Nat.zero_le _, (by have := of_decide_eq_true (not_ok (by assumption)); omega), rfl, rfl⟩, ?_⟩; rintro st ⟨k, n, rfl, hk, heq, hv, rfl⟩)
        | refine ⟨_, get_map' hx, ?_⟩
        | refine ⟨_, get_map' hy, ?_⟩
        | ((with_reducible refine isGet (xs := a.map valD) (i := ((k : Nat) : Int).toNat) ?_); obtain ⟨x, hx⟩ := get_ex (ss := a) (k := k) (lt_of_dec (by assumption)); refine ⟨_, get_map' hx, ?_⟩)
        | ((with_reducible refine isGet (xs := b.map valD) (i := ((k : Nat) : Int).toNat) ?_); obtain ⟨y, hy⟩ := get_ex (ss := b) (k := k) (by have := lt_of_dec (ss := a) (k := k) (f := valD) (by assumption); omega); refine ⟨_, get_map' hy, ?_⟩)
        | fail))
    | ((with_reducible refine isCut ?_) <;> (first
        | refine ⟨⟨none⟩, ?_⟩))
    | ((first | with_reducible refine isEx ?_ | with_reducible refine isAnd ?_ | with_reducible refine isOr ?_) <;> (first
        | refine ⟨_, get_map' hx, ?_⟩
        | refine ⟨_, get_map' hy, ?_⟩
        | ((with_reducible refine isGet (xs := a.map valD) (i := ((k : Nat) : Int).toNat) ?_); obtain ⟨x, hx⟩ := get_ex (ss := a) (k := k) (lt_of_dec (by assumption)); refine ⟨_, get_map' hx, ?_⟩)
        | ((with_reducible refine isGet (xs := b.map valD) (i := ((k : Nat) : Int).toNat) ?_); obtain ⟨y, hy⟩ := get_ex (ss := b) (k := k) (by have := lt_of_dec (ss := a) (k := k) (f := valD) (by assumption); omega); refine ⟨_, get_map' hy, ?_⟩)
        | ((with_reducible refine isSmall ?_) <;> (refine ⟨?_, ?_⟩; kernel_rfl))
        | refine ⟨rfl, ?_⟩
        | refine ⟨Int.natCast_nonneg _, ?_⟩))
    | with_reducible refine Both.mk ?_ ?_
    | rintro _ rfl
    | exact rfl
    | (split <;> (rename_i h; first | (simp only [beq_self_eq_true, eq_self, decide_true, Bool.not_true, Bool.false_eq_true] at h; done) | (try rw [h])))))
  all_goals (conv => whnf)
  all_goals first
    | exact ret_false ho fun e => of_decide_eq_false (not_ok' h) (by rw [hla, hlb, e])
    | exact ret_false ho fun e => eqv_false (not_ok' h) (by rw [e, hy] at hx; cases hx; rfl)
    | exact ⟨⟨k + 1, _, step_up (get_lt hx) ha, get_lt hx, heq, (by rw [take_up hx, take_up hy, hv, eqv_true (not_ok h)]), rfl⟩, mu_up (get_lt hx) ha⟩
    | (have e : k = a.length := by have := of_decide_eq_false h; omega
       rw [e, List.take_length, heq, List.take_length] at hv
       exact ret_true ho hv)
    | trace_state
theorem pick_mem {row : List Val} {cols : List Int} (h : inRow row cols) {v : Val} (hv : v ∈ pickM row cols) : v ∈ row := by
  obtain ⟨c, hc, rfl⟩ := List.mem_map.1 hv
  have := h c hc
  have e : row.getD c.toNat ⟨0, 0, []⟩ = row[c.toNat]'(by omega) := by rw [List.getD_eq_getElem?_getD, List.getElem?_eq_getElem (by omega)]; rfl
  rw [e]; exact List.getElem_mem _
theorem no_null {row : List Val} {cols : List Int} (h : inRow row cols) (hp : ∀ v, v ∈ row → valueP v) : ¬ (⟨0, 0, []⟩ : Val) ∈ pickM row cols ↔ noNull (pickM row cols) := by
  constructor
  · intro hn v hv hk
    exact hn ((val_null (hp v (pick_mem h hv))).2 hk ▸ hv)
  · exact fun hn hm => hn _ hm rfl
set_option maxHeartbeats 1000000 in
theorem clashOne (x : Idx) (a b : List Val) (hc : x.cols.length ≤ 1000) (ha : inRow a x.cols) (hb : inRow b x.cols) (hp : ∀ v, v ∈ a → valueP v) :
    Ent Tryz.prog 254 [.d (idxD x), .ptr 0 0, .ptr 1 0] [.var [.d (.sl false (a.map valD))], .var [.d (.sl false (b.map valD))]] (.d (.b (dec (clashX x a b)))) [.var [.d (.sl false (a.map valD))], .var [.d (.sl false (b.map valD))]] := by
  obtain ⟨o, ho⟩ : ∃ o, o = dec (clashX x a b) := ⟨_, rfl⟩
  rw [← ho]
  have hpl : (pickM a x.cols).length ≤ maxLen := by rw [pickM_len]; exact Nat.le_trans hc (Nat.le_of_ble_eq_true rfl)
  have c1 := implPick a x.cols hc ha
  have c2 := implPick b x.cols hc hb
  have c3 := containsVal (pickM a x.cols) hpl ⟨0, 0, []⟩
  have c4 := equalVals (pickM a x.cols) (pickM b x.cols) hpl
  have hn := no_null ha hp
  refine ent_of tok mixed (f := 254) Tryz.func254 (by kernel_rfl) (keep := false) ?_
  repeat' ((conv => whnf) <;> (first
    | ((with_reducible refine isCall ?_) <;> (first
        | (refine ⟨_, c1, ?_⟩; rintro _ _ ⟨rfl, rfl⟩)
        | (refine ⟨_, c2, ?_⟩; rintro _ _ ⟨rfl, rfl⟩)
        | (refine ⟨_, c3, ?_⟩; rintro _ _ ⟨rfl, rfl⟩)
        | (refine ⟨_, c4, ?_⟩; rintro _ _ ⟨rfl, rfl⟩)
        | fail))
    | ((with_reducible refine isLoop ?_) <;> (first
        | fail))
    | ((with_reducible refine isCut ?_) <;> (first
        | refine ⟨⟨none⟩, ?_⟩))
    | ((first | with_reducible refine isEx ?_ | with_reducible refine isAnd ?_ | with_reducible refine isOr ?_) <;> (first
        | ((with_reducible refine isSmall ?_) <;> (refine ⟨?_, ?_⟩; kernel_rfl))
        | refine ⟨rfl, ?_⟩
        | refine ⟨Int.natCast_nonneg _, ?_⟩))
    | with_reducible refine Both.mk ?_ ?_
    | rintro _ rfl
    | exact rfl
    | (split <;> (rename_i h; first | (simp only [beq_self_eq_true, eq_self, decide_true, Bool.not_true, Bool.false_eq_true] at h; done) | (try rw [h])))))
  all_goals (conv => whnf)
  all_goals first
    | exact ret_false ho fun hP => Bool.noConfusion (h.symm.trans hP.1 : false = true)
    | exact ret_false ho fun hP => hn.2 hP.2.1 (of_dec (not_ok h))
    | exact ret_b ho ⟨fun e => ⟨by assumption, hn.1 (of_ndec (not_ok' h)), of_dec e⟩, fun hP => dec_true hP.2.2⟩
    | trace_state
set_option maxHeartbeats 1000000 in
theorem indexClash (is : List Idx) (a b : List Val) (hl : is.length ≤ maxLen) (ha : idxIn is a) (hb : idxIn is b) (hp : ∀ v, v ∈ a → valueP v) : EntQ Tryz.prog 173 [.d (.sl false (is.map idxD)), .fn 254 [.ptr 0 0, .ptr 1 0]] [.var [.d (.sl false (a.map valD))], .var [.d (.sl false (b.map valD))]]
    (fun R O => ∃ n : Int, R = .d (.i .i64 n) ∧ O = [.var [.d (.sl false (a.map valD))], .var [.d (.sl false (b.map valD))]] ∧ decide (n ≥ 0) = dec (clashP is a b)) := by
  refine ent_of tok mixed (f := 173) Tryz.func173 (by kernel_rfl) (keep := false) ?_
  repeat' ((conv => whnf) <;> (first
    | ((with_reducible refine isCall ?_) <;> (first
        | (refine ⟨_, c1, ?_⟩; rintro _ _ ⟨rfl, rfl⟩)
        | ((with_reducible refine isGet (xs := is.map idxD) (i := ((k : Nat) : Int).toNat) ?_); obtain ⟨i, hi⟩ := get_ex (ss := is) (k := k) (lt_of_dec (by assumption)); have c1 := clashOne i a b (ha i (get_mem hi)).1 (ha i (get_mem hi)).2 (hb i (get_mem hi)).2 hp; refine ⟨_, get_map' hi, ?_⟩)
        | fail))
    | ((with_reducible refine isLoop ?_) <;> (first
        | (refine ⟨[8, 7, 0, 1], [0, 1], fun st => ∃ (k : Nat) (n : Int), n = k ∧ k ≤ is.length ∧ (∀ i, i ∈ is.take k → ¬ clashX i a b) ∧ st = ⟨[(8, .d (.i .i64 n)), (7, .d (.i .i64 ((is.map idxD).length : Int))), (0, .d (.sl false (is.map idxD))), (1, .fn 254 [.ptr 0 0, .ptr 1 0])], [(0, .var [.d (.sl false (a.map valD))]), (1, .var [.d (.sl false (b.map valD))])]⟩, fun st => match look 8 st.env with | some (.d (.i _ n)) => is.length - n.toNat | _ => 0, rfl, ⟨0, _, rfl, Nat.zero_le _, (fun x hx => by simp at hx), rfl⟩, ?_⟩; rintro st ⟨k, n, rfl, hk, hv, rfl⟩)
        | ((with_reducible refine isGet (xs := is.map idxD) (i := ((k : Nat) : Int).toNat) ?_); obtain ⟨i, hi⟩ := get_ex (ss := is) (k := k) (lt_of_dec (by assumption)); have c1 := clashOne i a b (ha i (get_mem hi)).1 (ha i (get_mem hi)).2 (hb i (get_mem hi)).2 hp; refine ⟨_, get_map' hi, ?_⟩)
        | fail))
    | ((with_reducible refine isCut ?_) <;> (first
        | refine ⟨⟨none⟩, ?_⟩))
    | ((first | with_reducible refine isEx ?_ | with_reducible refine isAnd ?_ | with_reducible refine isOr ?_) <;> (first
        | ((with_reducible refine isGet (xs := is.map idxD) (i := ((k : Nat) : Int).toNat) ?_); obtain ⟨i, hi⟩ := get_ex (ss := is) (k := k) (lt_of_dec (by assumption)); have c1 := clashOne i a b (ha i (get_mem hi)).1 (ha i (get_mem hi)).2 (hb i (get_mem hi)).2 hp; refine ⟨_, get_map' hi, ?_⟩)
        | ((with_reducible refine isSmall ?_) <;> (refine ⟨?_, ?_⟩; kernel_rfl))
        | refine ⟨rfl, ?_⟩
        | refine ⟨Int.natCast_nonneg _, ?_⟩))
    | with_reducible refine Both.mk ?_ ?_
    | rintro _ rfl
    | exact rfl
    | (split <;> (rename_i h; first | (simp only [beq_self_eq_true, eq_self, decide_true, Bool.not_true, Bool.false_eq_true] at h; done) | (try rw [h])))))
  all_goals (conv => whnf)
  · refine ⟨_, rfl, rfl, ?_⟩
    rw [dec_true (p := clashP is a b) ⟨i, get_mem hi, of_dec h⟩]
    exact decide_eq_true (Int.natCast_nonneg k)
  · exact ⟨⟨k + 1, _, step_up (get_lt hi) hl, get_lt hi, any_no hv hi (of_ndec h), rfl⟩, mu_up (get_lt hi) hl⟩
  · refine ⟨_, rfl, rfl, ?_⟩
    have e : k = is.length := by have := of_decide_eq_false h; rw [List.length_map] at this; omega
    rw [e, List.take_length] at hv
    rw [dec_false (p := clashP is a b) fun ⟨c, h1, h2⟩ => hv c h1 h2]; rfl
theorem containsClash (is : List Idx) (a b : List Val) (hl : is.length ≤ maxLen) (ha : idxIn is a) (hb : idxIn is b) (hp : ∀ v, v ∈ a → valueP v) : Ent Tryz.prog 96 [.d (.sl false (is.map idxD)), .fn 254 [.ptr 0 0, .ptr 1 0]] [.var [.d (.sl false (a.map valD))], .var [.d (.sl false (b.map valD))]]
    (.d (.b (dec (clashP is a b)))) [.var [.d (.sl false (a.map valD))], .var [.d (.sl false (b.map valD))]] := by
  have c1 := indexClash is a b hl ha hb hp
  refine ent_of tok mixed (f := 96) Tryz.func96 (by kernel_rfl) (keep := false) ?_
  repeat' ((conv => whnf) <;> (first
    | ((with_reducible refine isCall ?_) <;> (first
        | (refine ⟨_, c1, ?_⟩; rintro _ _ ⟨n, rfl, rfl, hn⟩)
        | fail))
    | ((with_reducible refine isLoop ?_) <;> (first
        | fail))
    | ((with_reducible refine isCut ?_) <;> (first
        | refine ⟨⟨none⟩, ?_⟩))
    | ((first | with_reducible refine isEx ?_ | with_reducible refine isAnd ?_ | with_reducible refine isOr ?_) <;> (first
        | ((with_reducible refine isSmall ?_) <;> (refine ⟨?_, ?_⟩; kernel_rfl))
        | refine ⟨rfl, ?_⟩
        | refine ⟨Int.natCast_nonneg _, ?_⟩))
    | with_reducible refine Both.mk ?_ ?_
    | rintro _ rfl
    | exact rfl
    | (split <;> (rename_i h; first | (simp only [beq_self_eq_true, eq_self, decide_true, Bool.not_true, Bool.false_eq_true] at h; done) | (try rw [h])))))
  all_goals (conv => whnf)
  all_goals (rw [hn]; exact ⟨rfl, rfl⟩)
theorem implClash (s : Schema) (a b : List Val) (hl : s.idxs.length ≤ maxLen) (ha : idxIn s.idxs a) (hb : idxIn s.idxs b) (hp : ∀ v, v ∈ a → valueP v) : Ent Tryz.prog 187 [.d (schemaD s), .d (.sl false (a.map valD)), .d (.sl false (b.map valD))] [] (.d (.b (dec (clashP s.idxs a b)))) [] := by
  have c1 := containsClash s.idxs a b hl ha hb hp
  refine ent_of tok mixed (f := 187) Tryz.func187 (by kernel_rfl) (keep := false) ?_
  repeat' ((conv => whnf) <;> (first
    | ((with_reducible refine isCall ?_) <;> (first
        | (refine ⟨_, c1, ?_⟩; rintro _ _ ⟨rfl, rfl⟩)
        | fail))
    | ((with_reducible refine isLoop ?_) <;> (first
        | fail))
    | ((with_reducible refine isCut ?_) <;> (first
        | refine ⟨⟨none⟩, ?_⟩))
    | ((first | with_reducible refine isEx ?_ | with_reducible refine isAnd ?_ | with_reducible refine isOr ?_) <;> (first
        | ((with_reducible refine isSmall ?_) <;> (refine ⟨?_, ?_⟩; kernel_rfl))
        | refine ⟨rfl, ?_⟩
        | refine ⟨Int.natCast_nonneg _, ?_⟩))
    | with_reducible refine Both.mk ?_ ?_
    | rintro _ rfl
    | exact rfl
    | (split <;> (rename_i h; first | (simp only [beq_self_eq_true, eq_self, decide_true, Bool.not_true, Bool.false_eq_true] at h; done) | (try rw [h])))))
end Go.Pm.Tryz
