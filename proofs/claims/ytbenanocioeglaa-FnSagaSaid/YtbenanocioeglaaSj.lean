import Derived.Test.YtbenanocioeglaaSi
namespace Go.Pm.Try
open Go Go.Proofs
set_option linter.unusedVariables false
set_option linter.unusedSimpArgs false
set_option maxRecDepth 100000
/-! Marks. -/
def byteOf (x : Int) : UInt8 := UInt8.ofNat (IntKind.u8.wrap x).toNat
theorem wrap_u8 (x : Int) : 0 ≤ IntKind.u8.wrap x ∧ IntKind.u8.wrap x < 256 := by
  simp only [IntKind.wrap, IntKind.signed, IntKind.bits, Bool.false_and, Bool.false_eq_true, if_false]
  omega
theorem u8s_byte (x : Int) : [D.i .u8 (IntKind.u8.wrap x)] = u8s [byteOf x] := by
  have h := wrap_u8 x
  simp only [u8s, List.map_cons, List.map_nil, byteOf]
  congr 2
  rw [UInt8.toNat_ofNat']
  omega
theorem div10 {n : Int} (h : decide (n > 0) = true) (hn : n ≤ 1000000000000) : IntKind.i64.wrap (n.tdiv 10) = n / 10 := by
  have h := of_decide_eq_true h
  rw [Int.tdiv_eq_ediv_of_nonneg (by omega)]
  exact wrap_i64_id _ (by omega) (by omega)
theorem cat_ok {l : List UInt8} {c : UInt8} {m n : Int} (hl : l.length + m.toNat ≤ n.toNat) (hn : n ≤ 1000000000000) : (([c].length + l.length : Nat) : Int) ≤ 9223372036854775807 := by
  simp only [List.length_cons, List.length_nil]; omega
theorem markText (n : Int) (hn : n ≤ 1000000000000) : EntQ Try.prog 120 [.d (.i .i64 n)] [] (fun R O => ∃ l, R = .d (.s l) ∧ O = []) := by
  refine ent_of tok mixed (f := 120) Try.func120 (by kernel_rfl) (keep := false) ?_
  repeat' ((conv => whnf) <;> (first | ((with_reducible refine isCall ?_) <;> (first | refine ⟨_, u8s_byte _, ?_⟩ | refine ⟨(by decide : (10 : Int) ≠ 0), ?_⟩ | refine ⟨cat_ok hl hn, ?_⟩ | fail)) | ((with_reducible refine isLoop ?_) <;> (first | (refine ⟨[0, 3], [], fun s => ∃ (m : Int) (l : List UInt8), m ≤ 1000000000000 ∧ l.length + m.toNat ≤ n.toNat ∧ s = ⟨[(0, .d (.i .i64 m)), (3, .d (.s l))], []⟩, fun s => match look 0 s.env with | some (.d (.i _ m)) => m.toNat | _ => 0, rfl, ⟨n, [], hn, by simp, rfl⟩, ?_⟩; rintro s ⟨m, l, hm, hl, rfl⟩) | refine ⟨_, u8s_byte _, ?_⟩ | refine ⟨(by decide : (10 : Int) ≠ 0), ?_⟩ | refine ⟨cat_ok hl hn, ?_⟩ | fail)) | ((with_reducible refine isCut ?_) <;> (first | refine ⟨⟨none⟩, ?_⟩)) | ((first | with_reducible refine isEx ?_ | with_reducible refine isAnd ?_ | with_reducible refine isOr ?_) <;> (first | refine ⟨_, u8s_byte _, ?_⟩ | refine ⟨(by decide : (10 : Int) ≠ 0), ?_⟩ | refine ⟨cat_ok hl hn, ?_⟩ | ((with_reducible refine isSmall ?_) <;> (refine ⟨?_, ?_⟩; kernel_rfl)) | refine ⟨rfl, ?_⟩ | refine ⟨Int.natCast_nonneg _, ?_⟩)) | with_reducible refine Both.mk ?_ ?_ | rintro _ rfl | exact rfl | (split <;> (rename_i h; first | (simp only [beq_self_eq_true, eq_self, decide_true, Bool.not_true, Bool.false_eq_true] at h; done) | (try rw [h])))))
  all_goals (conv => whnf)
  · exact ⟨_, rfl, rfl⟩
  · have e := div10 h hm
    have h := of_decide_eq_true h
    refine ⟨⟨_, _, ?_, ?_, rfl⟩, ?_⟩
    · rw [e]; omega
    · rw [e]; simp only [List.cons_append, List.nil_append, List.length_cons]; omega
    · show (IntKind.i64.wrap (m.tdiv 10)).toNat < m.toNat
      rw [e]; omega
  · exact ⟨_, rfl, rfl⟩
def isStep (x : D) : Prop := ∃ s : Step, x = stepD s
theorem steps_set {xs : List D} {k : Nat} {y : D} (h : ∀ x, x ∈ xs → isStep x) (hy : isStep y) : ∀ x, x ∈ xs.set k y → isStep x := by
  intro x hx
  rcases List.mem_or_eq_of_mem_set hx with hx | rfl
  · exact h x hx
  · exact hy
theorem lt_of_dec0 {xs : List D} {k : Nat} (h : decide ((k : Int) < (xs.length : Int)) = true) : k < xs.length := by
  have := of_decide_eq_true h; omega
theorem set_get {xs : List D} {k n : Nat} {y : D} (hl : xs.length = n) (hk : k < n) : (xs.set k y)[k]? = some y := List.getElem?_set_self (by omega)
theorem bumpUp {m : Int} (h1 : 0 ≤ m) (h2 : m ≤ 10000000) : IntKind.i64.wrap (m + 1) = m + 1 := wrap_i64_id _ (by omega) (by omega)
def up (m : Int) : Int := IntKind.i64.wrap (m + 1)
theorem marks6 {k : Nat} (h : k ≤ 1048576) : up (1 + 6 * (k : Int)) = 1 + 6 * (k : Int) + 1 ∧ up (up (1 + 6 * (k : Int))) = 1 + 6 * (k : Int) + 2 ∧ up (up (up (1 + 6 * (k : Int)))) = 1 + 6 * (k : Int) + 3 ∧
    up (up (up (up (up (up (1 + 6 * (k : Int))))))) = 1 + 6 * ((k + 1 : Nat) : Int) := by
  have e1 : up (1 + 6 * (k : Int)) = 1 + 6 * (k : Int) + 1 := bumpUp (by omega) (by omega)
  have e2 : up (1 + 6 * (k : Int) + 1) = 1 + 6 * (k : Int) + 1 + 1 := bumpUp (by omega) (by omega)
  have e3 : up (1 + 6 * (k : Int) + 1 + 1) = 1 + 6 * (k : Int) + 1 + 1 + 1 := bumpUp (by omega) (by omega)
  have e4 : up (1 + 6 * (k : Int) + 1 + 1 + 1) = 1 + 6 * (k : Int) + 1 + 1 + 1 + 1 := bumpUp (by omega) (by omega)
  have e5 : up (1 + 6 * (k : Int) + 1 + 1 + 1 + 1) = 1 + 6 * (k : Int) + 1 + 1 + 1 + 1 + 1 := bumpUp (by omega) (by omega)
  have e6 : up (1 + 6 * (k : Int) + 1 + 1 + 1 + 1 + 1) = 1 + 6 * (k : Int) + 1 + 1 + 1 + 1 + 1 + 1 := bumpUp (by omega) (by omega)
  refine ⟨e1, by rw [e1, e2]; omega, by rw [e1, e2, e3]; omega, by rw [e1, e2, e3, e4, e5, e6]; omega⟩
set_option maxHeartbeats 4000000 in
theorem markStepS (xs0 : List D) (h0 : ∀ x, x ∈ xs0 → isStep x) (hlen : xs0.length ≤ 1048576) : EntQ Try.prog 82 [.own 0, .d (.i .i64 1)] [.arr 6 false xs0]
    (fun R O => R = .d (.i .i64 (1 + 6 * (xs0.length : Int))) ∧ ∃ xs, O = [.arr 6 false xs]) := by
  have hm : xs0.length ≤ maxLen := Nat.le_trans hlen (Nat.le_of_ble_eq_true rfl)
  refine ent_of (cx := ⟨tab, [], []⟩) tok mixed (f := 82) Try.func82 (by kernel_rfl) (keep := false) ?_
  repeat' ((conv => whnf) <;> (first | ((with_reducible refine isCall ?_) <;> (first | (refine ⟨_, markText _ (by first | omega | (rw [e.1]; omega) | (rw [e.2.1]; omega) | (rw [e.2.2.1]; omega)), ?_⟩; rintro _ _ ⟨l, rfl, rfl⟩) | refine ⟨⟨Int.natCast_nonneg _, (by have := lt_of_dec0 (xs := xs) (k := k) (by assumption); (try simp only [List.length_set]); omega)⟩, ?_⟩ | (obtain ⟨x, hx⟩ := get_ex (ss := xs) (k := k) (lt_of_dec0 (by assumption)); obtain ⟨t, rfl⟩ := hxs _ (get_mem hx); refine ⟨_, hx, ?_⟩) | refine ⟨_, set_get (n := xs.length) (by simp only [List.length_set]) (get_lt hx), ?_⟩ | fail)) | ((with_reducible refine isLoop ?_) <;> (first | (refine ⟨[5, 1, 0], [0], fun s => ∃ (k : Nat) (n m : Int) (xs : List D), n = k ∧ k ≤ xs0.length ∧ m = 1 + 6 * (k : Int) ∧ xs.length = xs0.length ∧ (∀ x, x ∈ xs → isStep x) ∧ s = ⟨[(5, .d (.i .i64 n)), (1, .d (.i .i64 m)), (0, .own 0)], [(0, .arr 6 false xs)]⟩, fun s => match look 5 s.env with | some (.d (.i _ n)) => xs0.length - n.toNat | _ => 0, rfl, ⟨0, _, _, _, rfl, Nat.zero_le _, rfl, rfl, h0, rfl⟩, ?_⟩; rintro s ⟨k, n, m, xs, rfl, hk, rfl, hxl, hxs, rfl⟩; have e := marks6 (k := k) (by omega); unfold up at e) | refine ⟨⟨Int.natCast_nonneg _, (by have := lt_of_dec0 (xs := xs) (k := k) (by assumption); (try simp only [List.length_set]); omega)⟩, ?_⟩ | (obtain ⟨x, hx⟩ := get_ex (ss := xs) (k := k) (lt_of_dec0 (by assumption)); obtain ⟨t, rfl⟩ := hxs _ (get_mem hx); refine ⟨_, hx, ?_⟩) | refine ⟨_, set_get (n := xs.length) (by simp only [List.length_set]) (get_lt hx), ?_⟩ | fail)) | ((with_reducible refine isCut ?_) <;> (first | refine ⟨⟨none⟩, ?_⟩)) | ((first | with_reducible refine isEx ?_ | with_reducible refine isAnd ?_ | with_reducible refine isOr ?_) <;> (first | refine ⟨⟨Int.natCast_nonneg _, (by have := lt_of_dec0 (xs := xs) (k := k) (by assumption); (try simp only [List.length_set]); omega)⟩, ?_⟩ | (obtain ⟨x, hx⟩ := get_ex (ss := xs) (k := k) (lt_of_dec0 (by assumption)); obtain ⟨t, rfl⟩ := hxs _ (get_mem hx); refine ⟨_, hx, ?_⟩) | refine ⟨_, set_get (n := xs.length) (by simp only [List.length_set]) (get_lt hx), ?_⟩ | ((with_reducible refine isSmall ?_) <;> (refine ⟨?_, ?_⟩; kernel_rfl)) | refine ⟨rfl, ?_⟩ | refine ⟨Int.natCast_nonneg _, ?_⟩)) | with_reducible refine Both.mk ?_ ?_ | rintro _ rfl | exact rfl | (split <;> (rename_i h; first | (simp only [beq_self_eq_true, eq_self, decide_true, Bool.not_true, Bool.false_eq_true] at h; done) | (try rw [h])))))
  all_goals (conv => whnf)
  · refine ⟨⟨k + 1, _, _, _, step_up (show k < xs0.length by rw [← hxl]; exact get_lt hx) hm, (show k < xs0.length by rw [← hxl]; exact get_lt hx), e.2.2.2, by simp only [List.length_set]; exact hxl, ?_, rfl⟩, mu_up (show k < xs0.length by rw [← hxl]; exact get_lt hx) hm⟩
    refine steps_set (steps_set (steps_set (steps_set (steps_set (steps_set hxs ?_) ?_) ?_) ?_) ?_) ?_
    all_goals exact ⟨⟨_, _, _, _, _, _⟩, rfl⟩
  · rename_i h
    have h := of_decide_eq_false h
    have e : k = xs0.length := by omega
    refine ⟨?_, _, rfl⟩
    rw [e]
theorem markDef (d : Def) (hlen : d.steps.length ≤ 1048576) : EntQ Try.prog 31 [.agg [.d (.s d.name), .own 0, .d (.i .i64 d.pivot)], .d (.i .i64 1)] [.arr 6 false (d.steps.map stepD)]
    (fun R O => R = .d (.i .i64 (1 + 6 * (d.steps.length : Int))) ∧ ∃ xs, O = [.arr 6 false xs]) := by
  have c1 := markStepS (d.steps.map stepD) (fun x hx => let ⟨t, _, h⟩ := List.mem_map.1 hx; ⟨t, h.symm⟩) (by rw [List.length_map]; exact hlen)
  rw [List.length_map] at c1
  refine ent_of (cx := ⟨tab, [82], []⟩) tok mixed (f := 31) Try.func31 (by kernel_rfl) (keep := false) ?_
  repeat' ((conv => whnf) <;> (first | ((with_reducible refine isCall ?_) <;> (first | (refine ⟨_, c1, ?_⟩; rintro _ _ ⟨rfl, xs, rfl⟩) | fail)) | ((with_reducible refine isCut ?_) <;> (first | refine ⟨⟨none⟩, ?_⟩)) | ((first | with_reducible refine isEx ?_ | with_reducible refine isAnd ?_ | with_reducible refine isOr ?_) <;> (first | ((with_reducible refine isSmall ?_) <;> (refine ⟨?_, ?_⟩; kernel_rfl)) | refine ⟨rfl, ?_⟩ | refine ⟨Int.natCast_nonneg _, ?_⟩)) | with_reducible refine Both.mk ?_ ?_ | rintro _ rfl | exact rfl | (split <;> (rename_i h; first | (simp only [beq_self_eq_true, eq_self, decide_true, Bool.not_true, Bool.false_eq_true] at h; done) | (try rw [h])))))
  all_goals (conv => whnf)
  all_goals first | exact ⟨_, rfl⟩ | exact ⟨rfl, _, rfl⟩
/-! Lists of numbers. -/
def i64D (n : Int) : D := .i .i64 n
theorem eqInts (l : List Int) (hl : l.length ≤ maxLen) : Ent Try.prog 30 [.d (.sl false (l.map i64D)), .d (.sl false (l.map i64D))] [] (.d (.b true)) [] := by
  refine ent_of tok mixed (f := 30) Try.func30 (by kernel_rfl) (keep := false) ?_
  repeat' ((conv => whnf) <;> (first | ((with_reducible refine isCall ?_) <;> (first | (refine ⟨_, get_map (k := k) (lt_of_dec (by assumption)), ?_⟩) | exact ⟨rfl, ⟨k + 1, _, step_up (lt_of_dec (by assumption)) hl, lt_of_dec (by assumption), rfl⟩, mu_up (lt_of_dec (by assumption)) hl⟩ | fail)) | ((with_reducible refine isLoop ?_) <;> (first | (refine ⟨[5, 0, 1], [], fun s => ∃ (k : Nat) (n : Int), n = k ∧ k ≤ l.length ∧ s = ⟨[(5, .d (.i .i64 n)), (0, .d (.sl false (l.map i64D))), (1, .d (.sl false (l.map i64D)))], []⟩, fun s => match look 5 s.env with | some (.d (.i _ n)) => l.length - n.toNat | _ => 0, rfl, ⟨0, _, rfl, Nat.zero_le _, rfl⟩, ?_⟩; rintro s ⟨k, n, rfl, hk, rfl⟩) | (refine ⟨_, get_map (k := k) (lt_of_dec (by assumption)), ?_⟩) | exact ⟨rfl, ⟨k + 1, _, step_up (lt_of_dec (by assumption)) hl, lt_of_dec (by assumption), rfl⟩, mu_up (lt_of_dec (by assumption)) hl⟩ | fail)) | ((with_reducible refine isCut ?_) <;> (first | refine ⟨⟨none⟩, ?_⟩)) | ((first | with_reducible refine isEx ?_ | with_reducible refine isAnd ?_ | with_reducible refine isOr ?_) <;> (first | (refine ⟨_, get_map (k := k) (lt_of_dec (by assumption)), ?_⟩) | exact ⟨rfl, ⟨k + 1, _, step_up (lt_of_dec (by assumption)) hl, lt_of_dec (by assumption), rfl⟩, mu_up (lt_of_dec (by assumption)) hl⟩ | ((with_reducible refine isSmall ?_) <;> (refine ⟨?_, ?_⟩; kernel_rfl)) | refine ⟨rfl, ?_⟩ | refine ⟨Int.natCast_nonneg _, ?_⟩)) | with_reducible refine Both.mk ?_ ?_ | rintro _ rfl | exact rfl | (split <;> (rename_i h; first | (simp only [beq_self_eq_true, eq_self, decide_true, Bool.not_true, Bool.false_eq_true] at h; done) | (try rw [h])))))
def marks : Nat → List D
  | 0 => []
  | k + 1 => marks k ++ [i64D (1 + k)]
theorem marks_len : ∀ k : Nat, (marks k).length = k
  | 0 => rfl
  | k + 1 => by simp [marks, marks_len k]
theorem marks_get : ∀ {n k : Nat}, k < n → (marks n)[k]? = some (i64D (1 + k))
  | 0, k, h => by omega
  | n + 1, k, h => by
    simp only [marks]
    by_cases e : k < n
    · rw [List.getElem?_append_left (by rw [marks_len]; exact e)]; exact marks_get e
    · have e : k = n := by omega
      subst e
      rw [List.getElem?_append_right (by rw [marks_len]; exact Nat.le_refl _), marks_len]; simp
theorem marks_set {xs : List D} {k : Nat} (h : k < xs.length) : (marks k ++ xs.drop k).set k (i64D (1 + k)) = marks (k + 1) ++ xs.drop (k + 1) := by
  rw [List.set_append_right _ _ (by rw [marks_len]; exact Nat.le_refl _), marks_len, Nat.sub_self, List.drop_eq_getElem_cons h]
  simp only [List.set_cons_zero, marks, List.append_assoc, List.cons_append, List.nil_append]
theorem markInts (xs : List D) (hl : xs.length ≤ 1048576) : Ent Try.prog 32 [.own 0, .d (.i .i64 1)] [.arr 1 false xs] (.d (.i .i64 (1 + (xs.length : Int)))) [.arr 1 false (marks xs.length)] := by
  have hm : xs.length ≤ maxLen := Nat.le_trans hl (Nat.le_of_ble_eq_true rfl)
  refine ent_of tok mixed (f := 32) Try.func32 (by kernel_rfl) (keep := false) ?_
  repeat' ((conv => whnf) <;> (first | ((with_reducible refine isCall ?_) <;> (first | refine ⟨⟨Int.natCast_nonneg _, of_decide_eq_true (by assumption)⟩, ?_⟩ | refine ⟨⟨lt_of_dec0 (by assumption), rfl⟩, ?_⟩ | (have hk2 := lt_of_dec0 (by assumption); exact ⟨rfl, ⟨k + 1, _, _, _, step_up (n := xs.length) (by omega) hm, (by omega : k + 1 ≤ xs.length), (by rw [bumpUp (by omega) (by omega)]; omega), (by rw [hz]; exact marks_set (by omega)), rfl⟩, mu_up (n := xs.length) (by omega) hm⟩) | fail)) | ((with_reducible refine isLoop ?_) <;> (first | (refine ⟨[5, 1, 0], [0], fun s => ∃ (k : Nat) (n m : Int) (zs : List D), n = k ∧ k ≤ xs.length ∧ m = 1 + (k : Int) ∧ zs = marks k ++ xs.drop k ∧ s = ⟨[(5, .d (.i .i64 n)), (1, .d (.i .i64 m)), (0, .own 0)], [(0, .arr 1 false zs)]⟩, fun s => match look 5 s.env with | some (.d (.i _ n)) => xs.length - n.toNat | _ => 0, rfl, ⟨0, _, _, _, rfl, Nat.zero_le _, rfl, rfl, rfl⟩, ?_⟩; rintro s ⟨k, n, m, zs, rfl, hk, rfl, hz, rfl⟩; have hzl : zs.length = xs.length := by (rw [hz]; simp only [List.length_append, marks_len, List.length_drop]; omega)) | refine ⟨⟨Int.natCast_nonneg _, of_decide_eq_true (by assumption)⟩, ?_⟩ | refine ⟨⟨lt_of_dec0 (by assumption), rfl⟩, ?_⟩ | (have hk2 := lt_of_dec0 (by assumption); exact ⟨rfl, ⟨k + 1, _, _, _, step_up (n := xs.length) (by omega) hm, (by omega : k + 1 ≤ xs.length), (by rw [bumpUp (by omega) (by omega)]; omega), (by rw [hz]; exact marks_set (by omega)), rfl⟩, mu_up (n := xs.length) (by omega) hm⟩) | fail)) | ((with_reducible refine isCut ?_) <;> (first | refine ⟨⟨none⟩, ?_⟩)) | ((first | with_reducible refine isEx ?_ | with_reducible refine isAnd ?_ | with_reducible refine isOr ?_) <;> (first | refine ⟨⟨Int.natCast_nonneg _, of_decide_eq_true (by assumption)⟩, ?_⟩ | refine ⟨⟨lt_of_dec0 (by assumption), rfl⟩, ?_⟩ | (have hk2 := lt_of_dec0 (by assumption); exact ⟨rfl, ⟨k + 1, _, _, _, step_up (n := xs.length) (by omega) hm, (by omega : k + 1 ≤ xs.length), (by rw [bumpUp (by omega) (by omega)]; omega), (by rw [hz]; exact marks_set (by omega)), rfl⟩, mu_up (n := xs.length) (by omega) hm⟩) | ((with_reducible refine isSmall ?_) <;> (refine ⟨?_, ?_⟩; kernel_rfl)) | refine ⟨rfl, ?_⟩ | refine ⟨Int.natCast_nonneg _, ?_⟩)) | with_reducible refine Both.mk ?_ ?_ | rintro _ rfl | exact rfl | (split <;> (rename_i h; first | (simp only [beq_self_eq_true, eq_self, decide_true, Bool.not_true, Bool.false_eq_true] at h; done) | (try rw [h])))))
  all_goals (conv => whnf)
  have e : k = xs.length := by have := of_decide_eq_false (by assumption : decide ((k : Int) < (zs.length : Int)) = false); omega
  subst e
  rw [List.drop_length, List.append_nil] at hz
  exact ⟨rfl, congrArg (fun z => [Ob.arr 1 false z]) hz⟩
theorem heldInts (n : Nat) (hl : n ≤ 1048576) : Ent Try.prog 33 [.d (.sl false (marks n)), .d (.i .i64 1)] [] (.d (.i .i64 (1 + (n : Int)))) [] := by
  have hm : n ≤ maxLen := Nat.le_trans hl (Nat.le_of_ble_eq_true rfl)
  have hml := marks_len n
  refine ent_of tok mixed (f := 33) Try.func33 (by kernel_rfl) (keep := false) ?_
  repeat' ((conv => whnf) <;> (first | ((with_reducible refine isCall ?_) <;> (first | (refine ⟨_, marks_get (k := k) (by have := lt_of_dec0 (by assumption); omega), ?_⟩) | (have hk2 := lt_of_dec0 (by assumption); exact ⟨rfl, ⟨k + 1, _, _, step_up (n := n) (by omega) hm, (by omega : k + 1 ≤ n), (by rw [bumpUp (by omega) (by omega)]; omega), rfl⟩, mu_up (n := n) (by omega) hm⟩) | fail)) | ((with_reducible refine isLoop ?_) <;> (first | (refine ⟨[5, 1, 0], [], fun s => ∃ (k : Nat) (i m : Int), i = k ∧ k ≤ n ∧ m = 1 + (k : Int) ∧ s = ⟨[(5, .d (.i .i64 i)), (1, .d (.i .i64 m)), (0, .d (.sl false (marks n)))], []⟩, fun s => match look 5 s.env with | some (.d (.i _ i)) => n - i.toNat | _ => 0, rfl, ⟨0, _, _, rfl, Nat.zero_le _, rfl, rfl⟩, ?_⟩; rintro s ⟨k, i, m, rfl, hk, rfl, rfl⟩) | (refine ⟨_, marks_get (k := k) (by have := lt_of_dec0 (by assumption); omega), ?_⟩) | (have hk2 := lt_of_dec0 (by assumption); exact ⟨rfl, ⟨k + 1, _, _, step_up (n := n) (by omega) hm, (by omega : k + 1 ≤ n), (by rw [bumpUp (by omega) (by omega)]; omega), rfl⟩, mu_up (n := n) (by omega) hm⟩) | fail)) | ((with_reducible refine isCut ?_) <;> (first | refine ⟨⟨none⟩, ?_⟩)) | ((first | with_reducible refine isEx ?_ | with_reducible refine isAnd ?_ | with_reducible refine isOr ?_) <;> (first | (refine ⟨_, marks_get (k := k) (by have := lt_of_dec0 (by assumption); omega), ?_⟩) | (have hk2 := lt_of_dec0 (by assumption); exact ⟨rfl, ⟨k + 1, _, _, step_up (n := n) (by omega) hm, (by omega : k + 1 ≤ n), (by rw [bumpUp (by omega) (by omega)]; omega), rfl⟩, mu_up (n := n) (by omega) hm⟩) | ((with_reducible refine isSmall ?_) <;> (refine ⟨?_, ?_⟩; kernel_rfl)) | refine ⟨rfl, ?_⟩ | refine ⟨Int.natCast_nonneg _, ?_⟩)) | with_reducible refine Both.mk ?_ ?_ | rintro _ rfl | exact rfl | (split <;> (rename_i h; first | (simp only [beq_self_eq_true, eq_self, decide_true, Bool.not_true, Bool.false_eq_true] at h; done) | (try rw [h])))))
  all_goals (conv => whnf)
  have e : k = n := by have := of_decide_eq_false (by assumption : decide ((k : Int) < ((marks n).length : Int)) = false); omega
  subst e
  exact ⟨rfl, rfl⟩
end Go.Pm.Try
