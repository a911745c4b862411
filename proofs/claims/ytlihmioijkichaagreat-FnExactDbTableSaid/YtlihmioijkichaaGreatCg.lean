import Derived.Test.YtlihmioijkichaaGreatCe
namespace Go.Pm.Tryz
open Go Go.Proofs
set_option linter.unusedVariables false
set_option linter.unusedSimpArgs false
set_option maxRecDepth 100000
/-! Marks, told. -/
def digit (m : Int) : UInt8 := byteOf (IntKind.i64.wrap (48 + m.tmod 10))
def digs : Nat → Int → List UInt8
  | 0, _ => []
  | f + 1, m => if m > 0 then digs f (m / 10) ++ [digit m] else []
def markTextM (n : Int) : List UInt8 := if n ≤ 0 then [109, 48] else 109 :: digs 19 n
theorem digs_no : ∀ {f : Nat} {m : Int}, ¬ m > 0 → digs f m = []
  | 0, m, _ => rfl
  | f + 1, m, h => by rw [digs, if_neg h]
theorem wrap_le (x : Int) : IntKind.i64.wrap x ≤ 9223372036854775807 := by rw [IntKind.wrap_i64]; omega
theorem div10 {n : Int} (h : decide (n > 0) = true) (hn : n ≤ 9223372036854775807) : IntKind.i64.wrap (n.tdiv 10) = n / 10 := by
  have h := of_decide_eq_true h
  rw [Int.tdiv_eq_ediv_of_nonneg (by omega)]
  exact wrap_i64_id _ (by omega) (by omega)
theorem digs_ok {m : Int} {f : Nat} (h : decide (m > 0) = true) (hf : m < 10 ^ f) : ∃ g, f = g + 1 ∧ m / 10 < 10 ^ g := by
  have h := of_decide_eq_true h
  cases f with
  | zero => simp at hf; omega
  | succ g => refine ⟨g, rfl, ?_⟩; rw [Int.pow_succ] at hf; omega
theorem cat_ok {l : List UInt8} {c : UInt8} {f : Nat} (hl : l.length + f ≤ 19) : (([c].length + l.length : Nat) : Int) ≤ 9223372036854775807 := by
  simp only [List.length_cons, List.length_nil]; omega
set_option maxHeartbeats 1000000 in
theorem markTextD (n : Int) (hn : n ≤ 9223372036854775807) : Ent Tryz.prog 82 [.d (.i .i64 n)] [] (.d (.s (markTextM n))) [] := by
  obtain ⟨o, ho⟩ : ∃ o, o = markTextM n := ⟨_, rfl⟩
  rw [← ho]
  unfold markTextM at ho
  refine ent_of tok mixed (f := 82) Tryz.func82 (by kernel_rfl) (keep := false) ?_
  repeat' ((conv => whnf) <;> (first
    | ((with_reducible refine isCall ?_) <;> (first
        | refine ⟨_, u8s_byte _, ?_⟩
        | refine ⟨(by decide : (10 : Int) ≠ 0), ?_⟩
        | refine ⟨cat_ok hl, ?_⟩
        | fail))
    | ((with_reducible refine isLoop ?_) <;> (first
        | (refine ⟨[0, 3], [], fun s => ∃ (m : Int) (l : List UInt8) (f : Nat), m ≤ 9223372036854775807 ∧ l.length + f ≤ 19 ∧ m < 10 ^ f ∧ digs 19 n = digs f m ++ l ∧ s = ⟨[(0, .d (.i .i64 m)), (3, .d (.s l))], []⟩, fun s => match look 0 s.env with | some (.d (.i _ m)) => m.toNat | _ => 0, rfl, ⟨n, [], 19, hn, by simp, (by omega), (List.append_nil _).symm, rfl⟩, ?_⟩; rintro s ⟨m, l, f, hm, hl, hf, hd, rfl⟩)
        | refine ⟨_, u8s_byte _, ?_⟩
        | refine ⟨(by decide : (10 : Int) ≠ 0), ?_⟩
        | refine ⟨cat_ok hl, ?_⟩
        | fail))
    | ((with_reducible refine isCut ?_) <;> (first
        | refine ⟨⟨none⟩, ?_⟩))
    | ((first | with_reducible refine isEx ?_ | with_reducible refine isAnd ?_ | with_reducible refine isOr ?_) <;> (first
        | refine ⟨_, u8s_byte _, ?_⟩
        | refine ⟨(by decide : (10 : Int) ≠ 0), ?_⟩
        | refine ⟨cat_ok hl, ?_⟩
        | ((with_reducible refine isSmall ?_) <;> (refine ⟨?_, ?_⟩; kernel_rfl))
        | refine ⟨rfl, ?_⟩
        | refine ⟨Int.natCast_nonneg _, ?_⟩))
    | with_reducible refine Both.mk ?_ ?_
    | rintro _ rfl
    | exact rfl
    | (split <;> (rename_i h; first | (simp only [beq_self_eq_true, eq_self, decide_true, Bool.not_true, Bool.false_eq_true] at h; done) | (try rw [h])))))
  all_goals (conv => whnf)
  · rw [if_pos (of_decide_eq_true h)] at ho
    rw [ho]; exact ⟨rfl, rfl⟩
  · have e := div10 h hm
    obtain ⟨g, rfl, hg⟩ := digs_ok h hf
    have h := of_decide_eq_true h
    refine ⟨⟨_, _, g, ?_, ?_, ?_, ?_, rfl⟩, ?_⟩
    · rw [e]; omega
    · simp only [List.cons_append, List.nil_append, List.length_cons]; omega
    · rw [e]; exact hg
    · rw [hd, digs, if_pos h, e, List.append_assoc]; rfl
    · show (IntKind.i64.wrap (m.tdiv 10)).toNat < m.toNat
      rw [e]; omega
  · rename_i h0 _
    rw [if_neg (of_decide_eq_false h0)] at ho
    rw [digs_no (of_decide_eq_false h), List.nil_append] at hd
    rw [ho, hd]; exact ⟨rfl, rfl⟩
mutual
/-- Data with marks in all of its cells, from n on. -/
def mkD : D → Int → D
  | .i k _, n => .i k n
  | .b _, n => .b (decide (n.tmod 3 = 0))
  | .s _, n => .s (markTextM n)
  | .agg cs, n => .agg (mkL cs n)
  | .sl u xs, n => .sl u (mkL xs n)
  | .os sz d xs, n => .os sz d (mkL xs n)
  | .junk, _ => .junk
def mkL : List D → Int → List D
  | [], _ => []
  | x :: xs, n => mkD x n :: mkL xs (ctD x n)
/-- The next mark. -/
def ctD : D → Int → Int
  | .i _ _, n => up n
  | .b _, n => up n
  | .s _, n => up n
  | .agg cs, n => ctL cs n
  | .sl _ xs, n => ctL xs n
  | .os _ _ xs, n => ctL xs n
  | .junk, n => n
def ctL : List D → Int → Int
  | [], n => n
  | x :: xs, n => ctL xs (ctD x n)
end
mutual
/-- How many marks. -/
def cntD : D → Nat
  | .i _ _ => 1
  | .b _ => 1
  | .s _ => 1
  | .agg cs => cntL cs
  | .sl _ xs => cntL xs
  | .os _ _ xs => cntL xs
  | .junk => 0
def cntL : List D → Nat
  | [] => 0
  | x :: xs => cntD x + cntL xs
end
theorem up_eq {n : Int} (h : 0 ≤ n) (h2 : n + 1 ≤ 1000000000000000) : up n = n + 1 := wrap_i64_id _ (by omega) (by omega)
mutual
theorem ctD_eq : ∀ (x : D) {n : Int}, 0 ≤ n → n + cntD x ≤ 1000000000000000 → ctD x n = n + cntD x
  | .i _ _, n, h, h2 => by simp only [cntD, ctD] at *; exact up_eq h h2
  | .b _, n, h, h2 => by simp only [cntD, ctD] at *; exact up_eq h h2
  | .s _, n, h, h2 => by simp only [cntD, ctD] at *; exact up_eq h h2
  | .agg cs, n, h, h2 => by simp only [cntD, ctD] at *; exact ctL_eq cs h h2
  | .sl _ xs, n, h, h2 => by simp only [cntD, ctD] at *; exact ctL_eq xs h h2
  | .os _ _ xs, n, h, h2 => by simp only [cntD, ctD] at *; exact ctL_eq xs h h2
  | .junk, n, h, h2 => by simp [cntD, ctD]
theorem ctL_eq : ∀ (xs : List D) {n : Int}, 0 ≤ n → n + cntL xs ≤ 1000000000000000 → ctL xs n = n + cntL xs
  | [], n, h, h2 => by simp [cntL, ctL]
  | x :: xs, n, h, h2 => by
    simp only [cntL, ctL] at *
    rw [ctD_eq x h (by omega), ctL_eq xs (by omega) (by omega)]; omega
end
mutual
theorem ctD_le : ∀ (x : D) {n : Int}, n ≤ 9223372036854775807 → ctD x n ≤ 9223372036854775807
  | .i _ _, n, h => by simp only [ctD]; exact wrap_le _
  | .b _, n, h => by simp only [ctD]; exact wrap_le _
  | .s _, n, h => by simp only [ctD]; exact wrap_le _
  | .agg cs, n, h => by simp only [ctD]; exact ctL_le cs h
  | .sl _ xs, n, h => by simp only [ctD]; exact ctL_le xs h
  | .os _ _ xs, n, h => by simp only [ctD]; exact ctL_le xs h
  | .junk, n, h => by simp only [ctD]; exact h
theorem ctL_le : ∀ (xs : List D) {n : Int}, n ≤ 9223372036854775807 → ctL xs n ≤ 9223372036854775807
  | [], n, h => by simp only [ctL]; exact h
  | x :: xs, n, h => by simp only [ctL]; exact ctL_le xs (ctD_le x h)
end
theorem mkL_len : ∀ (xs : List D) (n : Int), (mkL xs n).length = xs.length
  | [], n => by simp [mkL]
  | x :: xs, n => by simp [mkL, mkL_len xs]
theorem ctL_app : ∀ (xs ys : List D) (n : Int), ctL (xs ++ ys) n = ctL ys (ctL xs n)
  | [], ys, n => by simp [ctL]
  | x :: xs, ys, n => by simp only [List.cons_append, ctL, ctL_app xs]
theorem mkL_app : ∀ (xs ys : List D) (n : Int), mkL (xs ++ ys) n = mkL xs n ++ mkL ys (ctL xs n)
  | [], ys, n => by simp [mkL, ctL]
  | x :: xs, ys, n => by simp only [List.cons_append, mkL, ctL, mkL_app xs]
theorem cntL_app : ∀ (xs ys : List D), cntL (xs ++ ys) = cntL xs + cntL ys
  | [], ys => by simp [cntL]
  | x :: xs, ys => by simp only [List.cons_append, cntL, cntL_app xs]; omega
theorem take_up {α : Type} {xs : List α} {k : Nat} {x : α} (h : xs[k]? = some x) : xs.take (k + 1) = xs.take k ++ [x] := by
  obtain ⟨hk, rfl⟩ := List.getElem?_eq_some_iff.1 h
  exact List.take_succ_eq_append_getElem hk
theorem ct_up {xs : List D} {k : Nat} {x : D} {n : Int} (h : xs[k]? = some x) : ctL (xs.take (k + 1)) n = ctD x (ctL (xs.take k) n) := by
  rw [take_up h, ctL_app]; simp only [ctL]
theorem mk_up {xs : List D} {k : Nat} {x : D} {n : Int} (h : xs[k]? = some x) : mkL (xs.take (k + 1)) n = mkL (xs.take k) n ++ [mkD x (ctL (xs.take k) n)] := by
  rw [take_up h, mkL_app]; simp only [mkL]
theorem mk_set {xs : List D} {k : Nat} {x : D} {n : Int} (h : xs[k]? = some x) : (mkL (xs.take k) n ++ xs.drop k).set k (mkD x (ctL (xs.take k) n)) = mkL (xs.take (k + 1)) n ++ xs.drop (k + 1) := by
  have hk := get_lt h
  have hl : (mkL (xs.take k) n).length = k := by rw [mkL_len, List.length_take]; omega
  obtain ⟨_, hx⟩ := List.getElem?_eq_some_iff.1 h
  rw [List.set_append_right _ _ (by omega), hl, Nat.sub_self, List.drop_eq_getElem_cons hk, mk_up h]
  simp only [List.set_cons_zero, List.append_assoc, List.cons_append, List.nil_append]
theorem mk_at {xs : List D} {k : Nat} {x : D} {n : Int} (h : xs[k]? = some x) : (mkL (xs.take k) n ++ xs.drop k)[k]? = some x := by
  have hk := get_lt h
  have hl : (mkL (xs.take k) n).length = k := by rw [mkL_len, List.length_take]; omega
  rw [List.getElem?_append_right (by omega), hl, Nat.sub_self, List.getElem?_drop, Nat.add_zero]; exact h
theorem mk_get {xs : List D} {k : Nat} {x : D} {n : Int} (h : xs[k]? = some x) : (mkL xs n)[k]? = some (mkD x (ctL (xs.take k) n)) := by
  have hk := get_lt h
  have hl : (mkL (xs.take k) n).length = k := by rw [mkL_len, List.length_take]; omega
  obtain ⟨_, hx⟩ := List.getElem?_eq_some_iff.1 h
  conv => lhs; rw [show xs = xs.take k ++ xs.drop k from (List.take_append_drop k xs).symm]
  rw [mkL_app, List.getElem?_append_right (by omega), hl, Nat.sub_self, List.drop_eq_getElem_cons hk, hx]
  simp only [mkL, List.getElem?_cons_zero]
theorem mk_all {xs : List D} {k : Nat} {n : Int} (h : k = xs.length) : mkL (xs.take k) n ++ xs.drop k = mkL xs n ∧ ctL (xs.take k) n = ctL xs n := by
  subst h; rw [List.take_length, List.drop_length, List.append_nil]; exact ⟨rfl, rfl⟩
/-- Marks that don't run out. -/
structure Fine (xs : List D) (n : Int) : Prop where
  lo : 0 ≤ n
  hi : n + cntL xs ≤ 1000000000000000
theorem Fine.take {xs : List D} {n : Int} (h : Fine xs n) {k : Nat} {x : D} (hx : xs[k]? = some x) : 0 ≤ ctL (xs.take k) n ∧ ctL (xs.take k) n + cntD x ≤ 1000000000000000 := by
  have hk := get_lt hx
  have e : cntL xs = cntL (xs.take k) + (cntD x + cntL (xs.drop (k + 1))) := by
    conv => lhs; rw [show xs = xs.take k ++ xs.drop k from (List.take_append_drop k xs).symm]
    obtain ⟨_, hx'⟩ := List.getElem?_eq_some_iff.1 hx
    rw [cntL_app, List.drop_eq_getElem_cons hk, hx', cntL]
  have h1 := h.lo
  have h2 := h.hi
  rw [ctL_eq _ h1 (by omega)]; omega
theorem Fine.out {xs : List D} {n : Int} (h : Fine xs n) : 0 ≤ ctL xs n := by rw [ctL_eq xs h.lo h.hi]; have := h.lo; omega
mutual
theorem erase_mk : ∀ (x : D) (n : Int), (mkD x n).erase = mkD x.erase n ∧ ctD x.erase n = ctD x n
  | .i _ _, n => ⟨rfl, rfl⟩
  | .b _, n => ⟨rfl, rfl⟩
  | .s _, n => ⟨rfl, rfl⟩
  | .agg cs, n => by simp only [mkD, ctD, D.erase, (erase_mkL cs n).1, (erase_mkL cs n).2, and_self]
  | .sl u xs, n => by simp only [mkD, ctD, D.erase, (erase_mkL xs n).1, (erase_mkL xs n).2, and_self]
  | .os sz d xs, n => by simp only [mkD, ctD, D.erase, (erase_mkL xs n).1, (erase_mkL xs n).2, and_self]
  | .junk, n => ⟨rfl, rfl⟩
theorem erase_mkL : ∀ (xs : List D) (n : Int), eraseL (mkL xs n) = mkL (eraseL xs) n ∧ ctL (eraseL xs) n = ctL xs n
  | [], n => by simp only [mkL, eraseL, ctL, and_self]
  | x :: xs, n => by
    simp only [mkL, eraseL, ctL, (erase_mk x n).1, (erase_mk x n).2, (erase_mkL xs _).1, (erase_mkL xs _).2, and_self]
end
structure AllOf (p : D → Prop) (xs : List D) : Prop where
  len : xs.length ≤ maxLen
  all : ∀ x, x ∈ xs → p x
theorem eraseL_map : ∀ xs : List D, eraseL xs = xs.map D.erase
  | [] => rfl
  | x :: xs => by simp only [eraseL, List.map_cons, eraseL_map xs]
theorem AllOf.erase {p q : D → Prop} {xs : List D} (h : AllOf p xs) (hpq : ∀ x, p x → q x.erase) : AllOf q (eraseL xs) := by
  rw [eraseL_map]
  refine ⟨by rw [List.length_map]; exact h.len, fun x hx => ?_⟩
  obtain ⟨y, hy, rfl⟩ := List.mem_map.1 hx
  exact hpq y (h.all y hy)
theorem AllOf.nil (p : D → Prop) : AllOf p [] := ⟨Nat.zero_le _, fun x hx => by cases hx⟩
theorem Fine.cell {cs : List D} {c : Int} (h : 0 ≤ c ∧ c + cntL cs ≤ 1000000000000000) {j : Nat} {u : Bool} {ys : List D} (hj : cs[j]? = some (.sl u ys)) : Fine ys (ctL (cs.take j) c) := by
  have h1 := (Fine.mk h.1 h.2).take hj
  exact ⟨h1.1, by simpa only [cntD] using h1.2⟩
end Go.Pm.Tryz
