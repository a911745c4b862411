/-
Values in order.
-/
import Derived.Test.YtlihmioijkichaaGreatCx
import Derived.Lib.Strings
import Derived.Lib.Slices
import Derived.Lib.Walk
namespace Go.Proofs
set_option linter.unusedVariables false
set_option linter.unusedSimpArgs false
set_option maxHeartbeats 1000000 in
set_option maxRecDepth 100000 in
theorem Tryz.bytealg_CompareString (a b : ByteArray) (w : World) :
    Calls Tryz.prog 305 #[.string a, .string b] w fun e w' => e = .returned (.int .i64 (Lib.compareBytes a.data.toList b.data.toList)) ∧ w' = w := by
  go_enter Tryz.func305, Tryz.ntmps305
  go_wp2
  rw [run_callFunc_extern Tryz.func325 (by kernel_rfl) (by kernel_rfl) (by kernel_rfl) (e := Extern.BytealgCompare.compare) (by kernel_rfl), Lib.run_compareString]
  simp only [Result.andThen]
  rw [Oper.upon_value]
  go_wp2
  go_ret
  exact ⟨rfl, rfl⟩
end Go.Proofs
namespace Go.Pm.Tryz
open Go Go.Proofs
set_option linter.unusedVariables false
set_option linter.unusedSimpArgs false
set_option maxRecDepth 100000
def cmpS (a b : List UInt8) : Int := if Op.bytesLess a b then -1 else if a = b then 0 else 1
theorem compareString (a b : List UInt8) : Ent Tryz.prog 305 [.d (.s a), .d (.s b)] [] (.d (.i .i64 (cmpS a b))) [] := by
  refine ent_of_calls ⟨_, Tryz.func305, by kernel_rfl, by kernel_rfl⟩ fun X J w vs hr => ?_
  simp only [AV.repL, AV.rep, D.rep] at hr
  obtain ⟨v, vs1, h1, ⟨rfl, _⟩, v2, vs2, h2, ⟨rfl, _⟩, h3⟩ := hr
  subst h3 h2
  have e : vs = #[.string ⟨a.toArray⟩, .string ⟨b.toArray⟩] := Array.toList_inj.1 h1
  subst e
  refine (Tryz.bytealg_CompareString _ _ w).mono ?_
  rintro e w' ⟨rfl, rfl⟩
  refine ⟨rfl, _, rfl, ?_⟩
  simp only [AV.rep, D.rep, cmpS, compare_less, and_true]
theorem compareStrings (a b : List UInt8) : Ent Tryz.prog 288 [.d (.s a), .d (.s b)] [] (.d (.i .i64 (cmpS a b))) [] := by
  refine ent_of tok mixed (f := 288) Tryz.func288 (by kernel_rfl) (keep := false) ?_
  repeat' ((conv => whnf) <;> (first
    | refine ⟨⟨none⟩, ?_⟩
    | refine Both.mk ?_ ?_
    | refine ⟨rfl, ?_⟩
    | exact rfl
    | (refine ⟨_, compareString _ _, ?_⟩; rintro _ _ ⟨rfl, rfl⟩)
    | (split <;> (rename_i h; try rw [h]))))
def cmpI (a b : Int) : Int := if a < b then -1 else if a > b then 1 else 0
theorem isNaN (a : Int) : Ent Tryz.prog 304 [.d (.i .i64 a)] [] (.d (.b false)) [] := by
  refine ent_of tok mixed (f := 304) Tryz.func304 (by kernel_rfl) (keep := false) ?_
  repeat' ((conv => whnf) <;> (first
    | refine ⟨⟨none⟩, ?_⟩
    | refine Both.mk ?_ ?_
    | refine ⟨rfl, ?_⟩
    | exact rfl
    | (split <;> (rename_i h; try rw [h]))))
  all_goals (conv => whnf)
  all_goals (refine ⟨congrArg (fun b => AV.d (D.b b)) ?_, rfl⟩; simp)
theorem compareInt (a b : Int) : Ent Tryz.prog 287 [.d (.i .i64 a), .d (.i .i64 b)] [] (.d (.i .i64 (cmpI a b))) [] := by
  refine ent_of tok mixed (f := 287) Tryz.func287 (by kernel_rfl) (keep := false) ?_
  repeat' ((conv => whnf) <;> (first
    | refine ⟨⟨none⟩, ?_⟩
    | refine Both.mk ?_ ?_
    | refine ⟨rfl, ?_⟩
    | exact rfl
    | (refine ⟨_, isNaN _, ?_⟩; rintro _ _ ⟨rfl, rfl⟩)
    | (split <;> (rename_i h; try rw [h]))))
  all_goals (conv => whnf)
  all_goals (refine ⟨congrArg (fun b => AV.d (D.i .i64 b)) ?_, rfl⟩; simp only [decide_eq_true_eq, decide_eq_false_iff_not] at *; simp only [cmpI]; split <;> try split)
  all_goals first | rfl | omega
def orI : List Int → Int
  | [] => 0
  | x :: r => if x = 0 then orI r else x
theorem or_drop {ns : List Int} {k : Nat} {t : Int} (h : ns[k]? = some t) (h1 : (!decide (t = 0)) = false) : orI (ns.drop k) = orI (ns.drop (k + 1)) := by
  obtain ⟨hk, rfl⟩ := List.getElem?_eq_some_iff.1 h
  rw [List.drop_eq_getElem_cons hk]
  simp only [Bool.not_eq_false', decide_eq_true_eq] at h1
  simp only [orI, h1, if_true]
theorem or_hit {ns : List Int} {k : Nat} {t : Int} (h : ns[k]? = some t) (h1 : (!decide (t = 0)) = true) : orI (ns.drop k) = t := by
  obtain ⟨hk, rfl⟩ := List.getElem?_eq_some_iff.1 h
  rw [List.drop_eq_getElem_cons hk]
  simp only [Bool.not_eq_true', decide_eq_false_iff_not] at h1
  simp only [orI, h1, if_false]
def intD (n : Int) : D := .i .i64 n
theorem orInt (ns : List Int) (hs : ns.length ≤ maxLen) : Ent Tryz.prog 286 [.d (.sl false (ns.map intD))] [] (.d (.i .i64 (orI ns))) [] := by
  refine ent_of tok mixed (f := 286) Tryz.func286 (by kernel_rfl) (keep := false) ?_
  repeat' ((conv => whnf) <;> (first
    | (refine ⟨[8, 7, 6, 3], [], fun s => ∃ (k : Nat) (n : Int), n = k ∧ k ≤ ns.length ∧ orI ns = orI (ns.drop k) ∧ s = ⟨[(8, .d (.i .i64 n)), (7, .d (.i .i64 ((ns.map intD).length : Int))), (6, .d (.sl false (ns.map intD))), (3, .d (.i .i64 0))], []⟩,
        fun s => match look 8 s.env with | some (.d (.i _ n)) => ns.length - n.toNat | _ => 0, rfl, ⟨0, _, rfl, Nat.zero_le _, rfl, rfl⟩, ?_⟩; rintro s ⟨k, n, rfl, hk, hu, rfl⟩)
    | (obtain ⟨t, ht⟩ := get_ex (k := k) (lt_of_dec (by assumption)); refine ⟨_, get_map' ht, ?_⟩)
    | exact ⟨rfl, ⟨k + 1, _, step_up (get_lt ht) hs, get_lt ht, (by rw [hu]; exact or_drop ht (by assumption)), rfl⟩, mu_up (get_lt ht) hs⟩
    | refine ⟨⟨none⟩, ?_⟩
    | refine Both.mk ?_ ?_
    | refine ⟨rfl, ?_⟩
    | refine ⟨Int.natCast_nonneg _, ?_⟩
    | exact rfl
    | (split <;> (rename_i h; try rw [h]))))
  all_goals (conv => whnf)
  all_goals (refine ⟨congrArg (fun b => AV.d (D.i .i64 b)) ?_, rfl⟩; rw [hu])
  · exact (or_hit ht h).symm
  · rw [List.drop_eq_nil_of_le]
    · rfl
    · have := of_decide_eq_false h; rw [List.length_map] at this; omega
def cmpV (a b : Val) : Int := orI [cmpI a.kind b.kind, cmpI a.n b.n, cmpS a.text b.text]
theorem l02One (a b : Val) : Ent Tryz.prog 234 [.d (valD a), .d (valD b)] [] (.d (.i .i64 (cmpV a b))) [] := by
  refine ent_of tok mixed (f := 234) Tryz.func234 (by kernel_rfl) (keep := false) ?_
  repeat' ((conv => whnf) <;> (first
    | refine ⟨⟨none⟩, ?_⟩
    | refine Both.mk ?_ ?_
    | refine ⟨rfl, ?_⟩
    | exact rfl
    | (split <;> (rename_i h; try rw [h]))))
  all_goals (conv => whnf)
  all_goals (refine ⟨congrArg (fun b => AV.d (D.i .i64 b)) ?_, rfl⟩)
  all_goals simp only [cmpV, orI, cmpI, cmpS]
  all_goals simp_all
  all_goals (repeat' split)
  all_goals first | rfl | omega | (simp_all; done) | (simp_all; omega)
set_option maxHeartbeats 4000000 in
theorem compareValue (a b : Val) : Ent Tryz.prog 239 [.d (valD a), .d (valD b)] [] (.d (.i .i64 (cmpV a b))) [] := by
  obtain ⟨u1, hu1⟩ : ∃ u, u = cmpI a.kind b.kind := ⟨_, rfl⟩
  obtain ⟨u2, hu2⟩ : ∃ u, u = cmpI a.n b.n := ⟨_, rfl⟩
  obtain ⟨u3, hu3⟩ : ∃ u, u = cmpS a.text b.text := ⟨_, rfl⟩
  have c1 := compareInt a.kind b.kind
  have c2 := compareInt a.n b.n
  have c3 := compareStrings a.text b.text
  rw [cmpV]
  rw [← hu1] at c1 ⊢
  rw [← hu2] at c2 ⊢
  rw [← hu3] at c3 ⊢
  refine ent_of tok mixed (f := 239) Tryz.func239 (by kernel_rfl) (keep := false) ?_
  repeat' ((conv => whnf) <;> (first
    | refine ⟨⟨none⟩, ?_⟩
    | refine Both.mk ?_ ?_
    | refine ⟨rfl, ?_⟩
    | exact rfl
    | (refine ⟨_, c1, ?_⟩; rintro _ _ ⟨rfl, rfl⟩)
    | (refine ⟨_, c2, ?_⟩; rintro _ _ ⟨rfl, rfl⟩)
    | (refine ⟨_, c3, ?_⟩; rintro _ _ ⟨rfl, rfl⟩)
    | (refine ⟨_, orInt [u1, u2, u3] (Nat.le_of_ble_eq_true rfl), ?_⟩; rintro _ _ ⟨rfl, rfl⟩)
    | (split <;> (rename_i h; try rw [h]))))
theorem cmpI_zero {a b : Int} : cmpI a b = 0 ↔ a = b := by
  unfold cmpI
  by_cases h : a < b
  · rw [if_pos h]; omega
  · rw [if_neg h]
    by_cases h2 : a > b
    · rw [if_pos h2]; omega
    · rw [if_neg h2]; omega
theorem cmpS_zero {a b : List UInt8} : cmpS a b = 0 ↔ a = b := by
  unfold cmpS
  by_cases h : Op.bytesLess a b = true
  · rw [if_pos h]
    refine ⟨fun e => absurd e (by decide), fun e => ?_⟩
    rw [e, less_irrefl] at h; cases h
  · rw [if_neg h]
    by_cases h2 : a = b
    · rw [if_pos h2]; exact ⟨fun _ => h2, fun _ => rfl⟩
    · rw [if_neg h2]; exact ⟨fun e => absurd e (by decide), fun e => absurd e h2⟩
theorem cmpV_zero {a b : Val} : cmpV a b = 0 ↔ a = b := by
  rcases a with ⟨k, n, t⟩
  rcases b with ⟨k', n', t'⟩
  simp only [cmpV, orI]
  constructor
  · intro h
    by_cases h1 : cmpI k k' = 0
    · rw [if_pos h1] at h
      by_cases h2 : cmpI n n' = 0
      · rw [if_pos h2] at h
        by_cases h3 : cmpS t t' = 0
        · rw [cmpI_zero.1 h1, cmpI_zero.1 h2, cmpS_zero.1 h3]
        · rw [if_neg h3] at h; exact absurd h h3
      · rw [if_neg h2] at h; exact absurd h h2
    · rw [if_neg h1] at h; exact absurd h h1
  · intro h
    cases h
    rw [if_pos (cmpI_zero.2 rfl), if_pos (cmpI_zero.2 rfl), if_pos (cmpS_zero.2 rfl)]
/-- Lists of values in order. -/
def cmpL : List Val → List Val → Int
  | [], [] => 0
  | [], _ :: _ => -1
  | _ :: _, [] => 1
  | x :: a, y :: b => if cmpV x y = 0 then cmpL a b else cmpV x y
theorem cmpL_zero : ∀ {a b : List Val}, cmpL a b = 0 ↔ a = b
  | [], [] => by simp [cmpL]
  | [], _ :: _ => by simp [cmpL]
  | _ :: _, [] => by simp [cmpL]
  | x :: a, y :: b => by
    rw [cmpL]
    by_cases h : cmpV x y = 0
    · rw [if_pos h, cmpL_zero, cmpV_zero.1 h]; simp
    · rw [if_neg h]
      refine ⟨fun e => absurd e h, fun e => ?_⟩
      cases e; exact absurd (cmpV_zero.2 rfl) h
theorem cmpL_next {a b : List Val} {k : Nat} {x y : Val} (hx : a[k]? = some x) (hy : b[k]? = some y) (h : cmpV x y = 0) : cmpL (a.drop k) (b.drop k) = cmpL (a.drop (k + 1)) (b.drop (k + 1)) := by
  obtain ⟨h1, rfl⟩ := List.getElem?_eq_some_iff.1 hx
  obtain ⟨h2, rfl⟩ := List.getElem?_eq_some_iff.1 hy
  rw [List.drop_eq_getElem_cons h1, List.drop_eq_getElem_cons h2, cmpL, if_pos h]
theorem cmpL_here {a b : List Val} {k : Nat} {x y : Val} (hx : a[k]? = some x) (hy : b[k]? = some y) (h : ¬ cmpV x y = 0) : cmpL (a.drop k) (b.drop k) = cmpV x y := by
  obtain ⟨h1, rfl⟩ := List.getElem?_eq_some_iff.1 hx
  obtain ⟨h2, rfl⟩ := List.getElem?_eq_some_iff.1 hy
  rw [List.drop_eq_getElem_cons h1, List.drop_eq_getElem_cons h2, cmpL, if_neg h]
theorem cmpL_lt {a b : List Val} {k : Nat} (h1 : a.length ≤ k) (h2 : k < b.length) : cmpL (a.drop k) (b.drop k) = -1 := by
  rw [List.drop_eq_nil_of_le h1, List.drop_eq_getElem_cons h2]; rfl
theorem cmpL_gt {a b : List Val} {k : Nat} (h1 : k < a.length) (h2 : b.length ≤ k) : cmpL (a.drop k) (b.drop k) = 1 := by
  rw [List.drop_eq_nil_of_le h2, List.drop_eq_getElem_cons h1]; rfl
theorem cmpL_eq {a b : List Val} {k : Nat} (h1 : a.length ≤ k) (h2 : b.length ≤ k) : cmpL (a.drop k) (b.drop k) = 0 := by
  rw [List.drop_eq_nil_of_le h1, List.drop_eq_nil_of_le h2]; rfl
set_option maxHeartbeats 1000000 in
theorem l02Compare (a b : List Val) (ha : a.length ≤ maxLen) (hb : b.length ≤ maxLen) : Ent Tryz.prog 177 [.d (.sl false (a.map valD)), .d (.sl false (b.map valD))] [] (.d (.i .i64 (cmpL a b))) [] := by
  obtain ⟨o, ho⟩ : ∃ o, o = cmpL a b := ⟨_, rfl⟩
  rw [← ho]
  have hla : (a.map valD).length = a.length := List.length_map ..
  have hlb : (b.map valD).length = b.length := List.length_map ..
  refine ent_of tok mixed (f := 177) Tryz.func177 (by kernel_rfl) (keep := false) ?_
  repeat' ((conv => whnf) <;> (first
    | ((with_reducible refine isCall ?_) <;> (first
        | (refine ⟨_, l02One _ _, ?_⟩; rintro _ _ ⟨rfl, rfl⟩)
        | refine ⟨_, get_map' hx, ?_⟩
        | refine ⟨_, get_map' hy, ?_⟩
        | ((with_reducible refine isGet (xs := a.map valD) (i := ((k : Nat) : Int).toNat) ?_); obtain ⟨x, hx⟩ := get_ex (ss := a) (k := k) (lt_of_dec (by assumption)); refine ⟨_, get_map' hx, ?_⟩)
        | ((with_reducible refine isGet (xs := b.map valD) (i := ((k : Nat) : Int).toNat) ?_); obtain ⟨y, hy⟩ := get_ex (ss := b) (k := k) (lt_of_dec (by assumption)); refine ⟨_, get_map' hy, ?_⟩)
        | fail))
    | ((with_reducible refine isLoop ?_) <;> (first
        | (refine ⟨[0, 1, 5], [], fun st => ∃ (k : Nat) (i : Int), i = k ∧ k ≤ a.length ∧ k ≤ b.length ∧ o = cmpL (a.drop k) (b.drop k) ∧ st = ⟨[(0, .d (.sl false (a.map valD))), (1, .d (.sl false (b.map valD))), (5, .d (.i .i64 i))], []⟩, fun st => match look 5 st.env with | some (.d (.i _ i)) => a.length - i.toNat | _ => 0, rfl, ⟨0, _, rfl, Nat.zero_le _, Nat.zero_le _, ho, rfl⟩, ?_⟩; rintro st ⟨k, i, rfl, hka, hkb, hu, rfl⟩)
        | refine ⟨_, get_map' hx, ?_⟩
        | refine ⟨_, get_map' hy, ?_⟩
        | ((with_reducible refine isGet (xs := a.map valD) (i := ((k : Nat) : Int).toNat) ?_); obtain ⟨x, hx⟩ := get_ex (ss := a) (k := k) (lt_of_dec (by assumption)); refine ⟨_, get_map' hx, ?_⟩)
        | ((with_reducible refine isGet (xs := b.map valD) (i := ((k : Nat) : Int).toNat) ?_); obtain ⟨y, hy⟩ := get_ex (ss := b) (k := k) (lt_of_dec (by assumption)); refine ⟨_, get_map' hy, ?_⟩)
        | fail))
    | ((with_reducible refine isCut ?_) <;> (first
        | refine ⟨⟨none⟩, ?_⟩))
    | ((first | with_reducible refine isEx ?_ | with_reducible refine isAnd ?_ | with_reducible refine isOr ?_) <;> (first
        | refine ⟨_, get_map' hx, ?_⟩
        | refine ⟨_, get_map' hy, ?_⟩
        | ((with_reducible refine isGet (xs := a.map valD) (i := ((k : Nat) : Int).toNat) ?_); obtain ⟨x, hx⟩ := get_ex (ss := a) (k := k) (lt_of_dec (by assumption)); refine ⟨_, get_map' hx, ?_⟩)
        | ((with_reducible refine isGet (xs := b.map valD) (i := ((k : Nat) : Int).toNat) ?_); obtain ⟨y, hy⟩ := get_ex (ss := b) (k := k) (lt_of_dec (by assumption)); refine ⟨_, get_map' hy, ?_⟩)
        | refine ⟨rfl, ?_⟩
        | refine ⟨Int.natCast_nonneg _, ?_⟩))
    | with_reducible refine Both.mk ?_ ?_
    | rintro _ rfl
    | exact rfl
    | (split <;> (rename_i h; first | (simp only [beq_self_eq_true, eq_self, decide_true, Bool.not_true, Bool.false_eq_true] at h; done) | (try rw [h])))))
  all_goals (conv => whnf)
  all_goals first
    | (rw [hu, cmpL_here hx hy (of_decide_eq_false (not_ok' h))]; exact ⟨rfl, rfl⟩)
    | exact ⟨⟨k + 1, _, step_up (get_lt hx) ha, get_lt hx, get_lt hy, hu.trans (cmpL_next hx hy (of_decide_eq_true (not_ok h))), rfl⟩, mu_up (get_lt hx) ha⟩
    | (clear ho; simp only [decide_eq_true_eq, decide_eq_false_iff_not, List.length_map] at *
       rw [hu, cmpL_lt (by omega) (by omega)]; exact ⟨rfl, trivial⟩)
    | (clear ho; simp only [decide_eq_true_eq, decide_eq_false_iff_not, List.length_map] at *
       rw [hu, cmpL_gt (by omega) (by omega)]; exact ⟨rfl, trivial⟩)
    | (clear ho; simp only [decide_eq_true_eq, decide_eq_false_iff_not, List.length_map] at *
       rw [hu, cmpL_eq (by omega) (by omega)]; exact ⟨rfl, trivial⟩)
    | trace_state
set_option maxHeartbeats 1000000 in
theorem compareFunc (a b : List Val) (ha : a.length ≤ maxLen) (hb : b.length ≤ maxLen) : Ent Tryz.prog 251 [.d (.sl false (a.map valD)), .d (.sl false (b.map valD)), .fn 239 []] [] (.d (.i .i64 (cmpL a b))) [] := by
  obtain ⟨o, ho⟩ : ∃ o, o = cmpL a b := ⟨_, rfl⟩
  rw [← ho]
  have hla : (a.map valD).length = a.length := List.length_map ..
  have hlb : (b.map valD).length = b.length := List.length_map ..
  refine ent_of tok mixed (f := 251) Tryz.func251 (by kernel_rfl) (keep := false) ?_
  repeat' ((conv => whnf) <;> (first
    | ((with_reducible refine isCall ?_) <;> (first
        | (refine ⟨_, compareValue _ _, ?_⟩; rintro _ _ ⟨rfl, rfl⟩)
        | refine ⟨_, get_map' hx, ?_⟩
        | refine ⟨_, get_map' hy, ?_⟩
        | ((with_reducible refine isGet (xs := a.map valD) (i := ((k : Nat) : Int).toNat) ?_); obtain ⟨x, hx⟩ := get_ex (ss := a) (k := k) (lt_of_dec (by assumption)); refine ⟨_, get_map' hx, ?_⟩)
        | ((with_reducible refine isGet (xs := b.map valD) (i := ((k : Nat) : Int).toNat) ?_); obtain ⟨y, hy⟩ := get_ex (ss := b) (k := k) (by have := of_decide_eq_false (by assumption : decide ((k : Int) ≥ ((b.map valD).length : Int)) = false); omega); refine ⟨_, get_map' hy, ?_⟩)
        | fail))
    | ((with_reducible refine isLoop ?_) <;> (first
        | (refine ⟨[0, 1, 2, 11, 12, 13], [], fun st => ∃ (k : Nat) (i : Int), i = k ∧ k ≤ a.length ∧ k ≤ b.length ∧ o = cmpL (a.drop k) (b.drop k) ∧ st = ⟨[(0, .d (.sl false (a.map valD))), (1, .d (.sl false (b.map valD))), (2, .fn 239 []), (11, .d (.sl false (a.map valD))), (12, .d (.i .i64 ((a.map valD).length : Int))), (13, .d (.i .i64 i))], []⟩, fun st => match look 13 st.env with | some (.d (.i _ i)) => a.length - i.toNat | _ => 0, rfl, ⟨0, _, rfl, Nat.zero_le _, Nat.zero_le _, ho, rfl⟩, ?_⟩; rintro st ⟨k, i, rfl, hka, hkb, hu, rfl⟩)
        | refine ⟨_, get_map' hx, ?_⟩
        | refine ⟨_, get_map' hy, ?_⟩
        | ((with_reducible refine isGet (xs := a.map valD) (i := ((k : Nat) : Int).toNat) ?_); obtain ⟨x, hx⟩ := get_ex (ss := a) (k := k) (lt_of_dec (by assumption)); refine ⟨_, get_map' hx, ?_⟩)
        | ((with_reducible refine isGet (xs := b.map valD) (i := ((k : Nat) : Int).toNat) ?_); obtain ⟨y, hy⟩ := get_ex (ss := b) (k := k) (by have := of_decide_eq_false (by assumption : decide ((k : Int) ≥ ((b.map valD).length : Int)) = false); omega); refine ⟨_, get_map' hy, ?_⟩)
        | fail))
    | ((with_reducible refine isCut ?_) <;> (first
        | refine ⟨⟨none⟩, ?_⟩))
    | ((first | with_reducible refine isEx ?_ | with_reducible refine isAnd ?_ | with_reducible refine isOr ?_) <;> (first
        | refine ⟨_, get_map' hx, ?_⟩
        | refine ⟨_, get_map' hy, ?_⟩
        | ((with_reducible refine isGet (xs := a.map valD) (i := ((k : Nat) : Int).toNat) ?_); obtain ⟨x, hx⟩ := get_ex (ss := a) (k := k) (lt_of_dec (by assumption)); refine ⟨_, get_map' hx, ?_⟩)
        | ((with_reducible refine isGet (xs := b.map valD) (i := ((k : Nat) : Int).toNat) ?_); obtain ⟨y, hy⟩ := get_ex (ss := b) (k := k) (by have := of_decide_eq_false (by assumption : decide ((k : Int) ≥ ((b.map valD).length : Int)) = false); omega); refine ⟨_, get_map' hy, ?_⟩)
        | refine ⟨rfl, ?_⟩
        | refine ⟨Int.natCast_nonneg _, ?_⟩))
    | with_reducible refine Both.mk ?_ ?_
    | rintro _ rfl
    | exact rfl
    | (split <;> (rename_i h; first | (simp only [beq_self_eq_true, eq_self, decide_true, Bool.not_true, Bool.false_eq_true] at h; done) | (try rw [h])))))
  all_goals (conv => whnf)
  all_goals first
    | (rw [hu, cmpL_here hx hy (of_decide_eq_false (not_ok' h))]; exact ⟨rfl, rfl⟩)
    | exact ⟨⟨k + 1, _, step_up (get_lt hx) ha, get_lt hx, get_lt hy, hu.trans (cmpL_next hx hy (of_decide_eq_true (not_ok h))), rfl⟩, mu_up (get_lt hx) ha⟩
    | (clear ho; simp only [decide_eq_true_eq, decide_eq_false_iff_not, List.length_map] at *
       rw [hu, cmpL_lt (by omega) (by omega)]; exact ⟨rfl, trivial⟩)
    | (clear ho; simp only [decide_eq_true_eq, decide_eq_false_iff_not, List.length_map] at *
       rw [hu, cmpL_gt (by omega) (by omega)]; exact ⟨rfl, trivial⟩)
    | (clear ho; simp only [decide_eq_true_eq, decide_eq_false_iff_not, List.length_map] at *
       rw [hu, cmpL_eq (by omega) (by omega)]; exact ⟨rfl, trivial⟩)
    | trace_state
theorem implCompare (a b : List Val) (ha : a.length ≤ maxLen) (hb : b.length ≤ maxLen) : Ent Tryz.prog 183 [.d (.sl false (a.map valD)), .d (.sl false (b.map valD))] [] (.d (.i .i64 (cmpL a b))) [] := by
  have c1 := compareFunc a b ha hb
  refine ent_of tok mixed (f := 183) Tryz.func183 (by kernel_rfl) (keep := false) ?_
  repeat' ((conv => whnf) <;> (first
    | ((with_reducible refine isCall ?_) <;> (first
        | (refine ⟨_, c1, ?_⟩; rintro _ _ ⟨rfl, rfl⟩)
        | fail))
    | ((with_reducible refine isLoop ?_) <;> (first
        | fail))
    | ((with_reducible refine isCut ?_) <;> (first
        | refine ⟨⟨none⟩, ?_⟩))
    | ((first | with_reducible refine isEx ?_ | with_reducible refine isAnd ?_ | with_reducible refine isOr ?_) <;> (first
        | refine ⟨rfl, ?_⟩
        | refine ⟨Int.natCast_nonneg _, ?_⟩))
    | with_reducible refine Both.mk ?_ ?_
    | rintro _ rfl
    | exact rfl
    | (split <;> (rename_i h; first | (simp only [beq_self_eq_true, eq_self, decide_true, Bool.not_true, Bool.false_eq_true] at h; done) | (try rw [h])))))
end Go.Pm.Tryz
