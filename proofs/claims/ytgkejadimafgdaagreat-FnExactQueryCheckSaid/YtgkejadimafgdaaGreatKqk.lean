/-
A part of the proof (packed).
-/
import Derived.Test.YtgkejadimafgdaaGreatKqj
namespace Go.Pm.Tryz
open Go Go.Proofs
set_option linter.unusedVariables false
set_option linter.unusedSimpArgs false
set_option maxRecDepth 100000
def wItem (i : Item) : Nat := i.col.length
def wTerm (t : Term) : Nat := t.col.length + t.op.length + t.val.text.length
def wQry (q : Qry) : Nat := wl wItem q.items + q.table.length + q.join.length + q.left.length + q.right.length + wl wTerm q.wh + q.group.length + q.order.length
def fitItem (i : Item) : Prop := i.col.length ≤ maxLen
structure fitTerm (t : Term) : Prop where
  col : t.col.length ≤ maxLen
  op : t.op.length ≤ maxLen
  text : t.val.text.length ≤ maxLen
structure fitQry (q : Qry) : Prop where
  items : q.items.length ≤ maxLen
  item : ∀ i, i ∈ q.items → fitItem i
  table : q.table.length ≤ maxLen
  join : q.join.length ≤ maxLen
  left : q.left.length ≤ maxLen
  right : q.right.length ≤ maxLen
  wh : q.wh.length ≤ maxLen
  term : ∀ t, t ∈ q.wh → fitTerm t
  group : q.group.length ≤ maxLen
  order : q.order.length ≤ maxLen
theorem qry_ok {q : Qry} (h : wQry q ≤ 1048576) : q.ok := by
  unfold wQry wl at h
  have hi : ∀ i, i ∈ q.items → i.col.length ≤ 2000000 := fun i hi => by have := wsum_mem (w := wItem) hi; unfold wItem at *; omega
  have ht : ∀ t, t ∈ q.wh → t.col.length ≤ 2000000 ∧ t.op.length ≤ 2000000 ∧ t.val.text.length ≤ 2000000 := fun t ht => by have := wsum_mem (w := wTerm) ht; unfold wTerm at *; omega
  exact ⟨⟨by omega, by omega, hi, ht, by omega, by omega, by omega, by omega, by omega, by omega⟩, hi, fun t h => ⟨(ht t h).1, le_max2 (ht t h).2.2⟩, by omega, by omega, by omega, by omega⟩
theorem qry_few {q : Qry} (h : wQry q ≤ 1048576) : q.items.length ≤ 1048576 ∧ q.wh.length ≤ 1048576 := by
  unfold wQry wl at h
  omega
theorem szItem (x : Item) (hf : fitItem x) (left : Int) (h0 : 0 ≤ left) (h1 : left ≤ 1048576) : EntQ Tryz.prog 32 [.d (itemD x), .d (.i .i64 left)] [] (fun R O => ∃ r, R = .d (.i .i64 r) ∧ O = [] ∧ r ≤ left ∧ (0 ≤ r → r + ((wItem x : Nat) : Int) ≤ left)) := by
  have e1 := sub_small (n := x.col.length) h0 h1 hf
  refine ent_of tok mixed (f := 32) Tryz.func32 (by kernel_rfl) (keep := false) ?_
  repeat' ((conv => whnf) <;> (first | ((with_reducible refine isCall ?_) <;> (first | fail)) | ((with_reducible refine isCut ?_) <;> (first | refine ⟨⟨none⟩, ?_⟩)) | ((first | with_reducible refine isEx ?_ | with_reducible refine isAnd ?_ | with_reducible refine isOr ?_) <;> (first | ((with_reducible refine isSmall ?_) <;> (refine ⟨?_, ?_⟩; kernel_rfl)) | refine ⟨rfl, ?_⟩ | refine ⟨Int.natCast_nonneg _, ?_⟩)) | with_reducible refine Both.mk ?_ ?_ | rintro _ rfl | exact rfl | (split <;> (rename_i h; first | (simp only [beq_self_eq_true, eq_self, decide_true, Bool.not_true, Bool.false_eq_true] at h; done) | (try rw [h])))))
  all_goals (conv => whnf)
  all_goals first
    | exact ⟨_, rfl, rfl, by omega, fun h => absurd h (by decide)⟩
    | exact ⟨_, rfl, rfl, by omega, fun _ => by unfold wItem; omega⟩
    | trace_state
theorem szValueT (x : Val) (hf : x.text.length ≤ maxLen) (left : Int) (h0 : 0 ≤ left) (h1 : left ≤ 1048576) : EntQ Tryz.prog 66 [.d (valD x), .d (.i .i64 left)] [] (fun R O => ∃ r, R = .d (.i .i64 r) ∧ O = [] ∧ r ≤ left ∧ (0 ≤ r → r + ((x.text.length : Nat) : Int) ≤ left)) := by
  have e1 := sub_small (n := x.text.length) h0 h1 hf
  refine ent_of tok mixed (f := 66) Tryz.func66 (by kernel_rfl) (keep := false) ?_
  repeat' ((conv => whnf) <;> (first | ((with_reducible refine isCall ?_) <;> (first | fail)) | ((with_reducible refine isCut ?_) <;> (first | refine ⟨⟨none⟩, ?_⟩)) | ((first | with_reducible refine isEx ?_ | with_reducible refine isAnd ?_ | with_reducible refine isOr ?_) <;> (first | ((with_reducible refine isSmall ?_) <;> (refine ⟨?_, ?_⟩; kernel_rfl)) | refine ⟨rfl, ?_⟩ | refine ⟨Int.natCast_nonneg _, ?_⟩)) | with_reducible refine Both.mk ?_ ?_ | rintro _ rfl | exact rfl | (split <;> (rename_i h; first | (simp only [beq_self_eq_true, eq_self, decide_true, Bool.not_true, Bool.false_eq_true] at h; done) | (try rw [h])))))
  all_goals (conv => whnf)
  all_goals first
    | exact ⟨_, rfl, rfl, by omega, fun h => absurd h (by decide)⟩
    | exact ⟨_, rfl, rfl, by omega, fun _ => by omega⟩
    | trace_state
set_option maxHeartbeats 1000000 in
theorem szTerm (x : Term) (hf : fitTerm x) (left : Int) (h0 : 0 ≤ left) (h1 : left ≤ 1048576) : EntQ Tryz.prog 33 [.d (termD x), .d (.i .i64 left)] [] (fun R O => ∃ r, R = .d (.i .i64 r) ∧ O = [] ∧ r ≤ left ∧ (0 ≤ r → r + ((wTerm x : Nat) : Int) ≤ left)) := by
  have e1 := sub_small (n := x.col.length) h0 h1 hf.col
  have e2 : 0 ≤ IntKind.i64.wrap (left - (x.col.length : Int)) → IntKind.i64.wrap (IntKind.i64.wrap (left - (x.col.length : Int)) - (x.op.length : Int)) = IntKind.i64.wrap (left - (x.col.length : Int)) - x.op.length := fun h => sub_small (n := x.op.length) h (by omega) hf.op
  refine ent_of tok mixed (f := 33) Tryz.func33 (by kernel_rfl) (keep := false) ?_
  repeat' ((conv => whnf) <;> (first | ((with_reducible refine isCall ?_) <;> (first | (refine ⟨_, szValueT x.val hf.text _ (Int.not_lt.1 (of_decide_eq_false (by assumption))) (by have h5 := e2 (Int.not_lt.1 (of_decide_eq_false (by assumption))); omega), ?_⟩; rintro _ _ ⟨r, rfl, rfl, hr, hro⟩) | fail)) | ((with_reducible refine isCut ?_) <;> (first | refine ⟨⟨none⟩, ?_⟩)) | ((first | with_reducible refine isEx ?_ | with_reducible refine isAnd ?_ | with_reducible refine isOr ?_) <;> (first | ((with_reducible refine isSmall ?_) <;> (refine ⟨?_, ?_⟩; kernel_rfl)) | refine ⟨rfl, ?_⟩ | refine ⟨Int.natCast_nonneg _, ?_⟩)) | with_reducible refine Both.mk ?_ ?_ | rintro _ rfl | exact rfl | (split <;> (rename_i h; first | (simp only [beq_self_eq_true, eq_self, decide_true, Bool.not_true, Bool.false_eq_true] at h; done) | (try rw [h])))))
  all_goals (conv => whnf)
  all_goals first
    | exact ⟨_, rfl, rfl, by omega, fun h => absurd h (by decide)⟩
    | (have h5 := e2 (Int.not_lt.1 (of_decide_eq_false (by assumption)))
       first
         | exact ⟨_, rfl, rfl, by omega, fun h => absurd h (by decide)⟩
         | exact ⟨_, rfl, rfl, by omega, fun h => by unfold wTerm; omega⟩)
    | trace_state
set_option maxHeartbeats 1000000 in
theorem szItemS (xs : List (Item)) (hl : xs.length ≤ maxLen) (hf : ∀ x, x ∈ xs → fitItem x) (left : Int) (h0 : 0 ≤ left) (h1 : left ≤ 1048576) : EntQ Tryz.prog 13 [.d (.sl false (xs.map itemD)), .d (.i .i64 left)] [] (fun R O => ∃ r, R = .d (.i .i64 r) ∧ O = [] ∧ r ≤ left ∧ (0 ≤ r → r + ((wl wItem xs : Nat) : Int) ≤ left)) := by
  have e1 := sub_small (n := (xs.map itemD).length) h0 h1 (by rw [List.length_map]; exact hl)
  have hxl : (xs.map itemD).length = xs.length := List.length_map ..
  refine ent_of tok mixed (f := 13) Tryz.func13 (by kernel_rfl) (keep := false) ?_
  repeat' ((conv => whnf) <;> (first | ((with_reducible refine isCall ?_) <;> (first | (refine ⟨_, c1, ?_⟩; rintro _ _ ⟨r, rfl, rfl, hr, hro⟩) | fail)) | ((with_reducible refine isLoop ?_) <;> (first | (refine ⟨[5, 1, 0], [], fun s => ∃ (k : Nat) (n l : Int), n = k ∧ k ≤ xs.length ∧ (0 ≤ l ∧ l + ((xs.length + wsum wItem (xs.take k) : Nat) : Int) ≤ left) ∧ s = ⟨[(5, .d (.i .i64 n)), (1, .d (.i .i64 l)), (0, .d (.sl false (xs.map itemD)))], []⟩, fun s => match look 5 s.env with | some (.d (.i _ n)) => xs.length - n.toNat | _ => 0, rfl, ⟨0, _, _, rfl, Nat.zero_le _, (by have := of_decide_eq_false (by assumption : decide (IntKind.i64.wrap (left - ((xs.map itemD).length : Int)) < 0) = false); rw [wsum_zero]; omega), rfl⟩, ?_⟩; rintro s ⟨k, n, l, rfl, hk, hl2, rfl⟩) | fail)) | ((with_reducible refine isCut ?_) <;> (first | refine ⟨⟨none⟩, ?_⟩)) | ((first | with_reducible refine isEx ?_ | with_reducible refine isAnd ?_ | with_reducible refine isOr ?_) <;> (first | ((with_reducible refine isGet (xs := xs.map itemD) (i := ((k : Nat) : Int).toNat) ?_); obtain ⟨x, hx⟩ := get_ex (ss := xs) (k := k) (lt_of_dec (by assumption)); have c1 := szItem x (hf x (get_mem hx)) l hl2.1 (by omega); refine ⟨_, get_map' hx, ?_⟩) | ((with_reducible refine isSmall ?_) <;> (refine ⟨?_, ?_⟩; kernel_rfl)) | refine ⟨rfl, ?_⟩ | refine ⟨Int.natCast_nonneg _, ?_⟩)) | with_reducible refine Both.mk ?_ ?_ | rintro _ rfl | exact rfl | (split <;> (rename_i h; first | (simp only [beq_self_eq_true, eq_self, decide_true, Bool.not_true, Bool.false_eq_true] at h; done) | (try rw [h])))))
  all_goals (conv => whnf)
  all_goals first
    | exact ⟨_, rfl, rfl, by omega, fun h => absurd h (by decide)⟩
    | (have hp := of_decide_eq_false (by assumption : decide (r < 0) = false)
       have hq := hro (by omega)
       exact ⟨⟨k + 1, _, _, step_up (get_lt hx) hl, get_lt hx, (by rw [wsum_up hx]; omega), rfl⟩, mu_up (get_lt hx) hl⟩)
    | (have e : k = xs.length := by have := of_decide_eq_false h; omega
       rw [e, List.take_length] at hl2
       exact ⟨_, rfl, rfl, by omega, fun h => hl2.2⟩)
    | trace_state
set_option maxHeartbeats 1000000 in
theorem szTermS (xs : List (Term)) (hl : xs.length ≤ maxLen) (hf : ∀ x, x ∈ xs → fitTerm x) (left : Int) (h0 : 0 ≤ left) (h1 : left ≤ 1048576) : EntQ Tryz.prog 14 [.d (.sl false (xs.map termD)), .d (.i .i64 left)] [] (fun R O => ∃ r, R = .d (.i .i64 r) ∧ O = [] ∧ r ≤ left ∧ (0 ≤ r → r + ((wl wTerm xs : Nat) : Int) ≤ left)) := by
  have e1 := sub_small (n := (xs.map termD).length) h0 h1 (by rw [List.length_map]; exact hl)
  have hxl : (xs.map termD).length = xs.length := List.length_map ..
  refine ent_of tok mixed (f := 14) Tryz.func14 (by kernel_rfl) (keep := false) ?_
  repeat' ((conv => whnf) <;> (first | ((with_reducible refine isCall ?_) <;> (first | (refine ⟨_, c1, ?_⟩; rintro _ _ ⟨r, rfl, rfl, hr, hro⟩) | fail)) | ((with_reducible refine isLoop ?_) <;> (first | (refine ⟨[5, 1, 0], [], fun s => ∃ (k : Nat) (n l : Int), n = k ∧ k ≤ xs.length ∧ (0 ≤ l ∧ l + ((xs.length + wsum wTerm (xs.take k) : Nat) : Int) ≤ left) ∧ s = ⟨[(5, .d (.i .i64 n)), (1, .d (.i .i64 l)), (0, .d (.sl false (xs.map termD)))], []⟩, fun s => match look 5 s.env with | some (.d (.i _ n)) => xs.length - n.toNat | _ => 0, rfl, ⟨0, _, _, rfl, Nat.zero_le _, (by have := of_decide_eq_false (by assumption : decide (IntKind.i64.wrap (left - ((xs.map termD).length : Int)) < 0) = false); rw [wsum_zero]; omega), rfl⟩, ?_⟩; rintro s ⟨k, n, l, rfl, hk, hl2, rfl⟩) | fail)) | ((with_reducible refine isCut ?_) <;> (first | refine ⟨⟨none⟩, ?_⟩)) | ((first | with_reducible refine isEx ?_ | with_reducible refine isAnd ?_ | with_reducible refine isOr ?_) <;> (first | ((with_reducible refine isGet (xs := xs.map termD) (i := ((k : Nat) : Int).toNat) ?_); obtain ⟨x, hx⟩ := get_ex (ss := xs) (k := k) (lt_of_dec (by assumption)); have c1 := szTerm x (hf x (get_mem hx)) l hl2.1 (by omega); refine ⟨_, get_map' hx, ?_⟩) | ((with_reducible refine isSmall ?_) <;> (refine ⟨?_, ?_⟩; kernel_rfl)) | refine ⟨rfl, ?_⟩ | refine ⟨Int.natCast_nonneg _, ?_⟩)) | with_reducible refine Both.mk ?_ ?_ | rintro _ rfl | exact rfl | (split <;> (rename_i h; first | (simp only [beq_self_eq_true, eq_self, decide_true, Bool.not_true, Bool.false_eq_true] at h; done) | (try rw [h])))))
  all_goals (conv => whnf)
  all_goals first
    | exact ⟨_, rfl, rfl, by omega, fun h => absurd h (by decide)⟩
    | (have hp := of_decide_eq_false (by assumption : decide (r < 0) = false)
       have hq := hro (by omega)
       exact ⟨⟨k + 1, _, _, step_up (get_lt hx) hl, get_lt hx, (by rw [wsum_up hx]; omega), rfl⟩, mu_up (get_lt hx) hl⟩)
    | (have e : k = xs.length := by have := of_decide_eq_false h; omega
       rw [e, List.take_length] at hl2
       exact ⟨_, rfl, rfl, by omega, fun h => hl2.2⟩)
    | trace_state
theorem sub2 {a : Int} {n1 n2 : Nat} (ha : a ≤ 1048576) (l1 : n1 ≤ maxLen) (l2 : n2 ≤ maxLen) (h0 : decide (a < 0) = false) (h1 : decide (IntKind.i64.wrap (a - (n1 : Int)) < 0) = false) : IntKind.i64.wrap (IntKind.i64.wrap (a - (n1 : Int)) - (n2 : Int)) = a - n1 - n2 := by
  have e1 := sub_small (Int.not_lt.1 (of_decide_eq_false h0)) ha l1
  have e2 := sub_small (Int.not_lt.1 (of_decide_eq_false h1)) (by omega) l2
  omega
set_option maxHeartbeats 1000000 in
theorem szQuery (x : Qry) (hf : fitQry x) (left : Int) (h0 : 0 ≤ left) (h1 : left ≤ 1048576) : EntQ Tryz.prog 5 [.d (qryD x), .d (.i .i64 left)] [] (fun R O => ∃ r, R = .d (.i .i64 r) ∧ O = [] ∧ r ≤ left ∧ (0 ≤ r → r + ((wQry x : Nat) : Int) ≤ left)) := by
  refine ent_of tok mixed (f := 5) Tryz.func5 (by kernel_rfl) (keep := false) ?_
  repeat' ((conv => whnf) <;> (first | ((with_reducible refine isCall ?_) <;> (first | (refine ⟨_, szItemS x.items hf.items hf.item left h0 h1, ?_⟩; rintro _ _ ⟨r1, rfl, rfl, hr1, ho1⟩) | (refine ⟨_, szTermS x.wh hf.wh hf.term _ (Int.not_lt.1 (of_decide_eq_false (by assumption))) (by have a1 := sub2 (a := r1) (n1 := x.table.length) (n2 := x.join.length) (by omega) hf.table hf.join (by assumption) (by assumption); have a2 := sub2 (a := IntKind.i64.wrap (IntKind.i64.wrap (r1 - (x.table.length : Int)) - (x.join.length : Int))) (n1 := x.left.length) (n2 := x.right.length) (by omega) hf.left hf.right (by assumption) (by assumption); omega), ?_⟩; rintro _ _ ⟨r2, rfl, rfl, hr2, ho2⟩) | fail)) | ((with_reducible refine isCut ?_) <;> (first | refine ⟨⟨none⟩, ?_⟩)) | ((first | with_reducible refine isEx ?_ | with_reducible refine isAnd ?_ | with_reducible refine isOr ?_) <;> (first | ((with_reducible refine isSmall ?_) <;> (refine ⟨?_, ?_⟩; kernel_rfl)) | refine ⟨rfl, ?_⟩ | refine ⟨Int.natCast_nonneg _, ?_⟩)) | with_reducible refine Both.mk ?_ ?_ | rintro _ rfl | exact rfl | (split <;> (rename_i h; first | (simp only [beq_self_eq_true, eq_self, decide_true, Bool.not_true, Bool.false_eq_true] at h; done) | (try rw [h])))))
  all_goals (conv => whnf)
  all_goals first
    | exact ⟨_, rfl, rfl, by omega, fun h => absurd h (by decide)⟩
    | (have a1 := sub2 (a := r1) (n1 := x.table.length) (n2 := x.join.length) (by omega) hf.table hf.join (by assumption) (by assumption)
       have a2 := sub2 (a := IntKind.i64.wrap (IntKind.i64.wrap (r1 - (x.table.length : Int)) - (x.join.length : Int))) (n1 := x.left.length) (n2 := x.right.length) (by omega) hf.left hf.right (by assumption) (by assumption)
       have a3 := sub2 (a := r2) (n1 := x.group.length) (n2 := x.order.length) (by omega) hf.group hf.order (by assumption) (by assumption)
       have b1 := ho1 (Int.not_lt.1 (of_decide_eq_false (by assumption)))
       have b2 := ho2 (Int.not_lt.1 (of_decide_eq_false (by assumption)))
       exact ⟨_, rfl, rfl, by omega, fun h => by unfold wQry; omega⟩)
    | trace_state
theorem szDbL (xs : List Tab) (hl : xs.length ≤ maxLen) (hf : ∀ x, x ∈ xs → x.fit2) (left : Int) (h0 : 0 ≤ left) (h1 : left ≤ 1048576) : EntQ Tryz.prog 4 [.d (.agg [.sl false (xs.map tabD)]), .d (.i .i64 left)] [] (fun R O => ∃ r, R = .d (.i .i64 r) ∧ O = [] ∧ r ≤ left ∧ (0 ≤ r → r + ((wl wTab xs : Nat) : Int) ≤ left)) := by
  have c1 := szTableS xs hl hf left h0 h1
  refine ent_of tok mixed (f := 4) Tryz.func4 (by kernel_rfl) (keep := false) ?_
  repeat' ((conv => whnf) <;> (first | ((with_reducible refine isCall ?_) <;> (first | (refine ⟨_, c1, ?_⟩; rintro _ _ ⟨r, rfl, rfl, hr, hro⟩) | fail)) | ((with_reducible refine isCut ?_) <;> (first | refine ⟨⟨none⟩, ?_⟩)) | ((first | with_reducible refine isEx ?_ | with_reducible refine isAnd ?_ | with_reducible refine isOr ?_) <;> (first | ((with_reducible refine isSmall ?_) <;> (refine ⟨?_, ?_⟩; kernel_rfl)) | refine ⟨rfl, ?_⟩ | refine ⟨Int.natCast_nonneg _, ?_⟩)) | with_reducible refine Both.mk ?_ ?_ | rintro _ rfl | exact rfl | (split <;> (rename_i h; first | (simp only [beq_self_eq_true, eq_self, decide_true, Bool.not_true, Bool.false_eq_true] at h; done) | (try rw [h])))))
  all_goals (conv => whnf)
  all_goals first
    | exact ⟨_, rfl, rfl, by omega, fun h => absurd h (by decide)⟩
    | exact ⟨_, rfl, rfl, hr, hro⟩
    | trace_state
theorem toItem (x : Item) : Ent Tryz.prog 45 [.d (itemD x)] [] (.d (itemD x)) [] := by
  refine ent_of tok mixed (f := 45) Tryz.func45 (by kernel_rfl) (keep := false) ?_
  repeat' ((conv => whnf) <;> (first | ((with_reducible refine isCall ?_) <;> (first | fail)) | ((with_reducible refine isCut ?_) <;> (first | refine ⟨⟨none⟩, ?_⟩)) | ((first | with_reducible refine isEx ?_ | with_reducible refine isAnd ?_ | with_reducible refine isOr ?_) <;> (first | ((with_reducible refine isSmall ?_) <;> (refine ⟨?_, ?_⟩; kernel_rfl)) | refine ⟨rfl, ?_⟩ | refine ⟨Int.natCast_nonneg _, ?_⟩)) | with_reducible refine Both.mk ?_ ?_ | rintro _ rfl | exact rfl | (split <;> (rename_i h; first | (simp only [beq_self_eq_true, eq_self, decide_true, Bool.not_true, Bool.false_eq_true] at h; done) | (try rw [h])))))
theorem toTerm (x : Term) : Ent Tryz.prog 46 [.d (termD x)] [] (.d (termD x)) [] := by
  have c1 := toValue x.val
  refine ent_of tok mixed (f := 46) Tryz.func46 (by kernel_rfl) (keep := false) ?_
  repeat' ((conv => whnf) <;> (first | ((with_reducible refine isCall ?_) <;> (first | (refine ⟨_, c1, ?_⟩; rintro _ _ ⟨rfl, rfl⟩) | fail)) | ((with_reducible refine isCut ?_) <;> (first | refine ⟨⟨none⟩, ?_⟩)) | ((first | with_reducible refine isEx ?_ | with_reducible refine isAnd ?_ | with_reducible refine isOr ?_) <;> (first | ((with_reducible refine isSmall ?_) <;> (refine ⟨?_, ?_⟩; kernel_rfl)) | refine ⟨rfl, ?_⟩ | refine ⟨Int.natCast_nonneg _, ?_⟩)) | with_reducible refine Both.mk ?_ ?_ | rintro _ rfl | exact rfl | (split <;> (rename_i h; first | (simp only [beq_self_eq_true, eq_self, decide_true, Bool.not_true, Bool.false_eq_true] at h; done) | (try rw [h])))))
set_option maxHeartbeats 4000000 in
theorem toItemS (xs : List (Item)) (hl : xs.length ≤ 1048576) : Ent Tryz.prog 19 [.d (.sl false (xs.map itemD))] [] (.own 0) [.arr 2 false (xs.map itemD)] := by
  have hm : xs.length ≤ maxLen := Nat.le_trans hl (by decide)
  have hxl : (xs.map itemD).length = xs.length := List.length_map ..
  refine ent_of (cx := ⟨tab, [], []⟩) tok mixed (f := 19) Tryz.func19 (by kernel_rfl) (keep := true) ?_
  repeat' ((conv => whnf) <;> (first | ((with_reducible refine isCall ?_) <;> (first | (refine ⟨_, toItem x, ?_⟩; rintro _ _ ⟨rfl, rfl⟩) | refine ⟨⟨rfl, Int.natCast_nonneg _, (by rw [List.length_map]; show (xs.length : Int) * ((24 : Nat) : Int) ≤ 281474976710656; omega), (by rw [List.length_map]; have : ((maxLen : Nat) : Int) = 9223372036854775807 := rfl; omega)⟩, ?_⟩ | refine ⟨⟨(by rw [hz]; show k < _; rw [filled_len hk]; exact get_lt hx), rfl⟩, ?_⟩ | refine ⟨⟨Int.natCast_nonneg _, (by rw [hz, filled_len hk]; have := get_lt hx; omega)⟩, ?_⟩ | fail)) | ((with_reducible refine isLoop ?_) <;> (first | (refine ⟨[4, 3, 0], [10007], fun s => ∃ (k : Nat) (n : Int) (zs : List D), n = k ∧ k ≤ xs.length ∧ zs = filled itemD (.agg [.i .i64 (Int.ofNat 0), .s []]) xs k ∧ s = ⟨[(4, .d (.i .i64 n)), (3, .own 10007), (0, .d (.sl false (xs.map itemD)))], [(10007, .arr 2 false zs)]⟩, fun s => match look 4 s.env with | some (.d (.i _ n)) => xs.length - n.toNat | _ => 0, rfl, ⟨0, _, _, rfl, Nat.zero_le _, ?_, rfl⟩, ?_⟩; rotate_left; rintro s ⟨k, n, zs, rfl, hk, hz, rfl⟩) | refine ⟨⟨rfl, Int.natCast_nonneg _, (by rw [List.length_map]; show (xs.length : Int) * ((24 : Nat) : Int) ≤ 281474976710656; omega), (by rw [List.length_map]; have : ((maxLen : Nat) : Int) = 9223372036854775807 := rfl; omega)⟩, ?_⟩ | refine ⟨⟨(by rw [hz]; show k < _; rw [filled_len hk]; exact get_lt hx), rfl⟩, ?_⟩ | refine ⟨⟨Int.natCast_nonneg _, (by rw [hz, filled_len hk]; have := get_lt hx; omega)⟩, ?_⟩ | fail)) | ((with_reducible refine isCut ?_) <;> (first | refine ⟨⟨none⟩, ?_⟩)) | ((first | with_reducible refine isEx ?_ | with_reducible refine isAnd ?_ | with_reducible refine isOr ?_) <;> (first | ((with_reducible refine isGet (xs := xs.map itemD) (i := ((k : Nat) : Int).toNat) ?_); obtain ⟨x, hx⟩ := get_ex (ss := xs) (k := k) (lt_of_dec (by assumption)); refine ⟨_, get_map' hx, ?_⟩) | refine ⟨⟨rfl, Int.natCast_nonneg _, (by rw [List.length_map]; show (xs.length : Int) * ((24 : Nat) : Int) ≤ 281474976710656; omega), (by rw [List.length_map]; have : ((maxLen : Nat) : Int) = 9223372036854775807 := rfl; omega)⟩, ?_⟩ | refine ⟨⟨(by rw [hz]; show k < _; rw [filled_len hk]; exact get_lt hx), rfl⟩, ?_⟩ | refine ⟨⟨Int.natCast_nonneg _, (by rw [hz, filled_len hk]; have := get_lt hx; omega)⟩, ?_⟩ | ((with_reducible refine isSmall ?_) <;> (refine ⟨?_, ?_⟩; kernel_rfl)) | refine ⟨rfl, ?_⟩ | refine ⟨Int.natCast_nonneg _, ?_⟩)) | with_reducible refine Both.mk ?_ ?_ | rintro _ rfl | exact rfl | (split <;> (rename_i h; first | (simp only [beq_self_eq_true, eq_self, decide_true, Bool.not_true, Bool.false_eq_true] at h; done) | (try rw [h])))))
  all_goals (conv => whnf)
  all_goals first
    | exact ⟨⟨k + 1, _, _, step_up (get_lt hx) hm, get_lt hx, (by rw [hz]; exact filled_up hx), rfl⟩, mu_up (get_lt hx) hm⟩
    | (have e : k = xs.length := by have := of_decide_eq_false h; omega
       rw [hz, e, filled_all]; rfl)
    | (show List.replicate (xs.map itemD).length _ = _
       rw [List.length_map]; exact filled_zero _ _ _)
    | trace_state
set_option maxHeartbeats 4000000 in
theorem toTermS (xs : List (Term)) (hl : xs.length ≤ 1048576) : Ent Tryz.prog 20 [.d (.sl false (xs.map termD))] [] (.own 0) [.arr 5 false (xs.map termD)] := by
  have hm : xs.length ≤ maxLen := Nat.le_trans hl (by decide)
  have hxl : (xs.map termD).length = xs.length := List.length_map ..
  refine ent_of (cx := ⟨tab, [], []⟩) tok mixed (f := 20) Tryz.func20 (by kernel_rfl) (keep := true) ?_
  repeat' ((conv => whnf) <;> (first | ((with_reducible refine isCall ?_) <;> (first | (refine ⟨_, toTerm x, ?_⟩; rintro _ _ ⟨rfl, rfl⟩) | refine ⟨⟨rfl, Int.natCast_nonneg _, (by rw [List.length_map]; show (xs.length : Int) * ((64 : Nat) : Int) ≤ 281474976710656; omega), (by rw [List.length_map]; have : ((maxLen : Nat) : Int) = 9223372036854775807 := rfl; omega)⟩, ?_⟩ | refine ⟨⟨(by rw [hz]; show k < _; rw [filled_len hk]; exact get_lt hx), rfl⟩, ?_⟩ | refine ⟨⟨Int.natCast_nonneg _, (by rw [hz, filled_len hk]; have := get_lt hx; omega)⟩, ?_⟩ | fail)) | ((with_reducible refine isLoop ?_) <;> (first | (refine ⟨[4, 3, 0], [10007], fun s => ∃ (k : Nat) (n : Int) (zs : List D), n = k ∧ k ≤ xs.length ∧ zs = filled termD (.agg [.s [], .s [], .i .i64 (Int.ofNat 0), .i .i64 (Int.ofNat 0), .s []]) xs k ∧ s = ⟨[(4, .d (.i .i64 n)), (3, .own 10007), (0, .d (.sl false (xs.map termD)))], [(10007, .arr 5 false zs)]⟩, fun s => match look 4 s.env with | some (.d (.i _ n)) => xs.length - n.toNat | _ => 0, rfl, ⟨0, _, _, rfl, Nat.zero_le _, ?_, rfl⟩, ?_⟩; rotate_left; rintro s ⟨k, n, zs, rfl, hk, hz, rfl⟩) | refine ⟨⟨rfl, Int.natCast_nonneg _, (by rw [List.length_map]; show (xs.length : Int) * ((64 : Nat) : Int) ≤ 281474976710656; omega), (by rw [List.length_map]; have : ((maxLen : Nat) : Int) = 9223372036854775807 := rfl; omega)⟩, ?_⟩ | refine ⟨⟨(by rw [hz]; show k < _; rw [filled_len hk]; exact get_lt hx), rfl⟩, ?_⟩ | refine ⟨⟨Int.natCast_nonneg _, (by rw [hz, filled_len hk]; have := get_lt hx; omega)⟩, ?_⟩ | fail)) | ((with_reducible refine isCut ?_) <;> (first | refine ⟨⟨none⟩, ?_⟩)) | ((first | with_reducible refine isEx ?_ | with_reducible refine isAnd ?_ | with_reducible refine isOr ?_) <;> (first | ((with_reducible refine isGet (xs := xs.map termD) (i := ((k : Nat) : Int).toNat) ?_); obtain ⟨x, hx⟩ := get_ex (ss := xs) (k := k) (lt_of_dec (by assumption)); refine ⟨_, get_map' hx, ?_⟩) | refine ⟨⟨rfl, Int.natCast_nonneg _, (by rw [List.length_map]; show (xs.length : Int) * ((64 : Nat) : Int) ≤ 281474976710656; omega), (by rw [List.length_map]; have : ((maxLen : Nat) : Int) = 9223372036854775807 := rfl; omega)⟩, ?_⟩ | refine ⟨⟨(by rw [hz]; show k < _; rw [filled_len hk]; exact get_lt hx), rfl⟩, ?_⟩ | refine ⟨⟨Int.natCast_nonneg _, (by rw [hz, filled_len hk]; have := get_lt hx; omega)⟩, ?_⟩ | ((with_reducible refine isSmall ?_) <;> (refine ⟨?_, ?_⟩; kernel_rfl)) | refine ⟨rfl, ?_⟩ | refine ⟨Int.natCast_nonneg _, ?_⟩)) | with_reducible refine Both.mk ?_ ?_ | rintro _ rfl | exact rfl | (split <;> (rename_i h; first | (simp only [beq_self_eq_true, eq_self, decide_true, Bool.not_true, Bool.false_eq_true] at h; done) | (try rw [h])))))
  all_goals (conv => whnf)
  all_goals first
    | exact ⟨⟨k + 1, _, _, step_up (get_lt hx) hm, get_lt hx, (by rw [hz]; exact filled_up hx), rfl⟩, mu_up (get_lt hx) hm⟩
    | (have e : k = xs.length := by have := of_decide_eq_false h; omega
       rw [hz, e, filled_all]; rfl)
    | (show List.replicate (xs.map termD).length _ = _
       rw [List.length_map]; exact filled_zero _ _ _)
    | trace_state
set_option maxHeartbeats 1000000 in
theorem toQuery (x : Qry) (h1 : x.items.length ≤ 1048576) (h2 : x.wh.length ≤ 1048576) : Ent Tryz.prog 8 [.d (qryD x)] [] (.agg [.own 0, .d (.s x.table), .d (.s x.join), .d (.s x.left), .d (.s x.right), .own 1, .d (.s x.group), .d (.s x.order), .d (.b x.down), .d (.i .i64 x.limit)]) [.arr 2 false (x.items.map itemD), .arr 5 false (x.wh.map termD)] := by
  have c1 := toItemS x.items h1
  have c2 := toTermS x.wh h2
  refine ent_of (cx := ⟨tab, [], []⟩) tok mixed (f := 8) Tryz.func8 (by kernel_rfl) (keep := true) ?_
  repeat' ((conv => whnf) <;> (first | ((with_reducible refine isCall ?_) <;> (first | (refine ⟨_, c1, ?_⟩; rintro _ _ ⟨rfl, rfl⟩) | (refine ⟨_, c2, ?_⟩; rintro _ _ ⟨rfl, rfl⟩) | fail)) | ((with_reducible refine isCut ?_) <;> (first | refine ⟨⟨none⟩, ?_⟩)) | ((first | with_reducible refine isEx ?_ | with_reducible refine isAnd ?_ | with_reducible refine isOr ?_) <;> (first | ((with_reducible refine isSmall ?_) <;> (refine ⟨?_, ?_⟩; kernel_rfl)) | refine ⟨rfl, ?_⟩ | refine ⟨Int.natCast_nonneg _, ?_⟩)) | with_reducible refine Both.mk ?_ ?_ | rintro _ rfl | exact rfl | (split <;> (rename_i h; first | (simp only [beq_self_eq_true, eq_self, decide_true, Bool.not_true, Bool.false_eq_true] at h; done) | (try rw [h])))))
end Go.Pm.Tryz
namespace Go.Pm.Tryz
open Go Go.Proofs
set_option linter.unusedVariables false
set_option linter.unusedSimpArgs false
set_option maxRecDepth 100000
def isInt64 (x : D) : Prop := ∃ n : Int, x = .i .i64 n
def ownInt64 (x : D) : Prop := ∃ n : Int, x = .i .i64 n
theorem eraseInt64 {x : D} (h : ownInt64 x) : isInt64 x.erase := by obtain ⟨n, rfl⟩ := h; exact ⟨n, rfl⟩
theorem eqInt64S (xs : List D) (hP : AllOf isInt64 xs) : Ent Tryz.prog 121 [.d (.sl false xs), .d (.sl false xs)] [] (.d (.b true)) [] := by
  refine ent_of tok mixed (f := 121) Tryz.func121 (by kernel_rfl) (keep := false) ?_
  repeat' ((conv => whnf) <;> (first | ((with_reducible refine isCall ?_) <;> (first | refine ⟨_, hx, ?_⟩ | (obtain ⟨x, hx⟩ := get_ex (ss := xs) (k := k) (lt_of_dec0 (by assumption)); have hs := hP.all x (get_mem hx); obtain ⟨a0, rfl⟩ := id hs; refine ⟨_, hx, ?_⟩) | exact ⟨rfl, ⟨k + 1, _, step_up (lt_of_dec0 (by assumption)) hP.len, lt_of_dec0 (by assumption), rfl⟩, mu_up (lt_of_dec0 (by assumption)) hP.len⟩ | fail)) | ((with_reducible refine isLoop ?_) <;> (first | (refine ⟨[5, 0, 1], [], fun s => ∃ (k : Nat) (n : Int), n = k ∧ k ≤ xs.length ∧ s = ⟨[(5, .d (.i .i64 n)), (0, .d (.sl false xs)), (1, .d (.sl false xs))], []⟩, fun s => match look 5 s.env with | some (.d (.i _ n)) => xs.length - n.toNat | _ => 0, rfl, ⟨0, _, rfl, Nat.zero_le _, rfl⟩, ?_⟩; rintro s ⟨k, n, rfl, hk, rfl⟩) | refine ⟨_, hx, ?_⟩ | (obtain ⟨x, hx⟩ := get_ex (ss := xs) (k := k) (lt_of_dec0 (by assumption)); have hs := hP.all x (get_mem hx); obtain ⟨a0, rfl⟩ := id hs; refine ⟨_, hx, ?_⟩) | exact ⟨rfl, ⟨k + 1, _, step_up (lt_of_dec0 (by assumption)) hP.len, lt_of_dec0 (by assumption), rfl⟩, mu_up (lt_of_dec0 (by assumption)) hP.len⟩ | fail)) | ((with_reducible refine isCut ?_) <;> (first | refine ⟨⟨none⟩, ?_⟩)) | ((first | with_reducible refine isEx ?_ | with_reducible refine isAnd ?_ | with_reducible refine isOr ?_) <;> (first | refine ⟨_, hx, ?_⟩ | (obtain ⟨x, hx⟩ := get_ex (ss := xs) (k := k) (lt_of_dec0 (by assumption)); have hs := hP.all x (get_mem hx); obtain ⟨a0, rfl⟩ := id hs; refine ⟨_, hx, ?_⟩) | exact ⟨rfl, ⟨k + 1, _, step_up (lt_of_dec0 (by assumption)) hP.len, lt_of_dec0 (by assumption), rfl⟩, mu_up (lt_of_dec0 (by assumption)) hP.len⟩ | ((with_reducible refine isSmall ?_) <;> (refine ⟨?_, ?_⟩; kernel_rfl)) | refine ⟨rfl, ?_⟩ | refine ⟨Int.natCast_nonneg _, ?_⟩)) | with_reducible refine Both.mk ?_ ?_ | rintro _ rfl | exact rfl | (split <;> (rename_i h; first | (simp only [beq_self_eq_true, eq_self, decide_true, Bool.not_true, Bool.false_eq_true] at h; done) | (try rw [h])))))
def isColumn (x : D) : Prop := ∃ (a0 : List UInt8) (a1 : Int) (a2 : Bool), x = .agg [.s a0, .i .i64 a1, .b a2]
def ownColumn (x : D) : Prop := ∃ (a0 : List UInt8) (a1 : Int) (a2 : Bool), x = .agg [.s a0, .i .i64 a1, .b a2]
theorem eraseColumn {x : D} (h : ownColumn x) : isColumn x.erase := by
  obtain ⟨a0, a1, a2, rfl⟩ := h
  exact ⟨_, _, _, rfl⟩
set_option maxHeartbeats 1000000 in
theorem eqColumn (x : D) (hP : isColumn x) : Ent Tryz.prog 137 [.d x, .d x] [] (.d (.b true)) [] := by
  obtain ⟨a0, a1, a2, rfl⟩ := hP
  refine ent_of tok mixed (f := 137) Tryz.func137 (by kernel_rfl) (keep := false) ?_
  repeat' ((conv => whnf) <;> (first | ((with_reducible refine isCall ?_) <;> (first | fail)) | ((with_reducible refine isCut ?_) <;> (first | refine ⟨⟨none⟩, ?_⟩)) | ((first | with_reducible refine isEx ?_ | with_reducible refine isAnd ?_ | with_reducible refine isOr ?_) <;> (first | ((with_reducible refine isSmall ?_) <;> (refine ⟨?_, ?_⟩; kernel_rfl)) | refine ⟨rfl, ?_⟩ | refine ⟨Int.natCast_nonneg _, ?_⟩)) | with_reducible refine Both.mk ?_ ?_ | rintro _ rfl | exact rfl | (split <;> (rename_i h; first | (simp only [beq_self_eq_true, eq_self, decide_true, Bool.not_true, Bool.false_eq_true] at h; done) | (try rw [h])))))
theorem eqColumnS (xs : List D) (hP : AllOf isColumn xs) : Ent Tryz.prog 120 [.d (.sl false xs), .d (.sl false xs)] [] (.d (.b true)) [] := by
  refine ent_of tok mixed (f := 120) Tryz.func120 (by kernel_rfl) (keep := false) ?_
  repeat' ((conv => whnf) <;> (first | ((with_reducible refine isCall ?_) <;> (first | (refine ⟨_, eqColumn _ hs, ?_⟩; rintro _ _ ⟨rfl, rfl⟩) | refine ⟨_, hx, ?_⟩ | (obtain ⟨x, hx⟩ := get_ex (ss := xs) (k := k) (lt_of_dec0 (by assumption)); have hs := hP.all x (get_mem hx); obtain ⟨a0, a1, a2, rfl⟩ := id hs; refine ⟨_, hx, ?_⟩) | exact ⟨rfl, ⟨k + 1, _, step_up (lt_of_dec0 (by assumption)) hP.len, lt_of_dec0 (by assumption), rfl⟩, mu_up (lt_of_dec0 (by assumption)) hP.len⟩ | fail)) | ((with_reducible refine isLoop ?_) <;> (first | (refine ⟨[5, 0, 1], [], fun s => ∃ (k : Nat) (n : Int), n = k ∧ k ≤ xs.length ∧ s = ⟨[(5, .d (.i .i64 n)), (0, .d (.sl false xs)), (1, .d (.sl false xs))], []⟩, fun s => match look 5 s.env with | some (.d (.i _ n)) => xs.length - n.toNat | _ => 0, rfl, ⟨0, _, rfl, Nat.zero_le _, rfl⟩, ?_⟩; rintro s ⟨k, n, rfl, hk, rfl⟩) | refine ⟨_, hx, ?_⟩ | (obtain ⟨x, hx⟩ := get_ex (ss := xs) (k := k) (lt_of_dec0 (by assumption)); have hs := hP.all x (get_mem hx); obtain ⟨a0, a1, a2, rfl⟩ := id hs; refine ⟨_, hx, ?_⟩) | exact ⟨rfl, ⟨k + 1, _, step_up (lt_of_dec0 (by assumption)) hP.len, lt_of_dec0 (by assumption), rfl⟩, mu_up (lt_of_dec0 (by assumption)) hP.len⟩ | fail)) | ((with_reducible refine isCut ?_) <;> (first | refine ⟨⟨none⟩, ?_⟩)) | ((first | with_reducible refine isEx ?_ | with_reducible refine isAnd ?_ | with_reducible refine isOr ?_) <;> (first | refine ⟨_, hx, ?_⟩ | (obtain ⟨x, hx⟩ := get_ex (ss := xs) (k := k) (lt_of_dec0 (by assumption)); have hs := hP.all x (get_mem hx); obtain ⟨a0, a1, a2, rfl⟩ := id hs; refine ⟨_, hx, ?_⟩) | exact ⟨rfl, ⟨k + 1, _, step_up (lt_of_dec0 (by assumption)) hP.len, lt_of_dec0 (by assumption), rfl⟩, mu_up (lt_of_dec0 (by assumption)) hP.len⟩ | ((with_reducible refine isSmall ?_) <;> (refine ⟨?_, ?_⟩; kernel_rfl)) | refine ⟨rfl, ?_⟩ | refine ⟨Int.natCast_nonneg _, ?_⟩)) | with_reducible refine Both.mk ?_ ?_ | rintro _ rfl | exact rfl | (split <;> (rename_i h; first | (simp only [beq_self_eq_true, eq_self, decide_true, Bool.not_true, Bool.false_eq_true] at h; done) | (try rw [h])))))
def isIndex (x : D) : Prop := ∃ (a0 : List D) (a1 : Bool), x = .agg [.sl false a0, .b a1] ∧ AllOf isInt64 a0
def ownIndex (x : D) : Prop := ∃ (a0 : List D) (a1 : Bool), x = .agg [.os 1 false a0, .b a1] ∧ AllOf ownInt64 a0
theorem eraseIndex {x : D} (h : ownIndex x) : isIndex x.erase := by
  obtain ⟨a0, a1, rfl, h0⟩ := h
  exact ⟨_, _, rfl, h0.erase fun _ => eraseInt64⟩
set_option maxHeartbeats 1000000 in
theorem eqIndex (x : D) (hP : isIndex x) : Ent Tryz.prog 138 [.d x, .d x] [] (.d (.b true)) [] := by
  obtain ⟨a0, a1, rfl, h0⟩ := hP
  refine ent_of tok mixed (f := 138) Tryz.func138 (by kernel_rfl) (keep := false) ?_
  repeat' ((conv => whnf) <;> (first | ((with_reducible refine isCall ?_) <;> (first | (refine ⟨_, eqInt64S _ h0, ?_⟩; rintro _ _ ⟨rfl, rfl⟩) | fail)) | ((with_reducible refine isCut ?_) <;> (first | refine ⟨⟨none⟩, ?_⟩)) | ((first | with_reducible refine isEx ?_ | with_reducible refine isAnd ?_ | with_reducible refine isOr ?_) <;> (first | ((with_reducible refine isSmall ?_) <;> (refine ⟨?_, ?_⟩; kernel_rfl)) | refine ⟨rfl, ?_⟩ | refine ⟨Int.natCast_nonneg _, ?_⟩)) | with_reducible refine Both.mk ?_ ?_ | rintro _ rfl | exact rfl | (split <;> (rename_i h; first | (simp only [beq_self_eq_true, eq_self, decide_true, Bool.not_true, Bool.false_eq_true] at h; done) | (try rw [h])))))
theorem eqIndexS (xs : List D) (hP : AllOf isIndex xs) : Ent Tryz.prog 122 [.d (.sl false xs), .d (.sl false xs)] [] (.d (.b true)) [] := by
  refine ent_of tok mixed (f := 122) Tryz.func122 (by kernel_rfl) (keep := false) ?_
  repeat' ((conv => whnf) <;> (first | ((with_reducible refine isCall ?_) <;> (first | (refine ⟨_, eqIndex _ hs, ?_⟩; rintro _ _ ⟨rfl, rfl⟩) | refine ⟨_, hx, ?_⟩ | (obtain ⟨x, hx⟩ := get_ex (ss := xs) (k := k) (lt_of_dec0 (by assumption)); have hs := hP.all x (get_mem hx); obtain ⟨a0, a1, rfl, h0⟩ := id hs; refine ⟨_, hx, ?_⟩) | exact ⟨rfl, ⟨k + 1, _, step_up (lt_of_dec0 (by assumption)) hP.len, lt_of_dec0 (by assumption), rfl⟩, mu_up (lt_of_dec0 (by assumption)) hP.len⟩ | fail)) | ((with_reducible refine isLoop ?_) <;> (first | (refine ⟨[5, 0, 1], [], fun s => ∃ (k : Nat) (n : Int), n = k ∧ k ≤ xs.length ∧ s = ⟨[(5, .d (.i .i64 n)), (0, .d (.sl false xs)), (1, .d (.sl false xs))], []⟩, fun s => match look 5 s.env with | some (.d (.i _ n)) => xs.length - n.toNat | _ => 0, rfl, ⟨0, _, rfl, Nat.zero_le _, rfl⟩, ?_⟩; rintro s ⟨k, n, rfl, hk, rfl⟩) | refine ⟨_, hx, ?_⟩ | (obtain ⟨x, hx⟩ := get_ex (ss := xs) (k := k) (lt_of_dec0 (by assumption)); have hs := hP.all x (get_mem hx); obtain ⟨a0, a1, rfl, h0⟩ := id hs; refine ⟨_, hx, ?_⟩) | exact ⟨rfl, ⟨k + 1, _, step_up (lt_of_dec0 (by assumption)) hP.len, lt_of_dec0 (by assumption), rfl⟩, mu_up (lt_of_dec0 (by assumption)) hP.len⟩ | fail)) | ((with_reducible refine isCut ?_) <;> (first | refine ⟨⟨none⟩, ?_⟩)) | ((first | with_reducible refine isEx ?_ | with_reducible refine isAnd ?_ | with_reducible refine isOr ?_) <;> (first | refine ⟨_, hx, ?_⟩ | (obtain ⟨x, hx⟩ := get_ex (ss := xs) (k := k) (lt_of_dec0 (by assumption)); have hs := hP.all x (get_mem hx); obtain ⟨a0, a1, rfl, h0⟩ := id hs; refine ⟨_, hx, ?_⟩) | exact ⟨rfl, ⟨k + 1, _, step_up (lt_of_dec0 (by assumption)) hP.len, lt_of_dec0 (by assumption), rfl⟩, mu_up (lt_of_dec0 (by assumption)) hP.len⟩ | ((with_reducible refine isSmall ?_) <;> (refine ⟨?_, ?_⟩; kernel_rfl)) | refine ⟨rfl, ?_⟩ | refine ⟨Int.natCast_nonneg _, ?_⟩)) | with_reducible refine Both.mk ?_ ?_ | rintro _ rfl | exact rfl | (split <;> (rename_i h; first | (simp only [beq_self_eq_true, eq_self, decide_true, Bool.not_true, Bool.false_eq_true] at h; done) | (try rw [h])))))
def isValue (x : D) : Prop := ∃ (a0 : Int) (a1 : Int) (a2 : List UInt8), x = .agg [.i .i64 a0, .i .i64 a1, .s a2]
def ownValue (x : D) : Prop := ∃ (a0 : Int) (a1 : Int) (a2 : List UInt8), x = .agg [.i .i64 a0, .i .i64 a1, .s a2]
theorem eraseValue {x : D} (h : ownValue x) : isValue x.erase := by
  obtain ⟨a0, a1, a2, rfl⟩ := h
  exact ⟨_, _, _, rfl⟩
set_option maxHeartbeats 1000000 in
theorem eqValue (x : D) (hP : isValue x) : Ent Tryz.prog 94 [.d x, .d x] [] (.d (.b true)) [] := by
  obtain ⟨a0, a1, a2, rfl⟩ := hP
  refine ent_of tok mixed (f := 94) Tryz.func94 (by kernel_rfl) (keep := false) ?_
  repeat' ((conv => whnf) <;> (first | ((with_reducible refine isCall ?_) <;> (first | fail)) | ((with_reducible refine isCut ?_) <;> (first | refine ⟨⟨none⟩, ?_⟩)) | ((first | with_reducible refine isEx ?_ | with_reducible refine isAnd ?_ | with_reducible refine isOr ?_) <;> (first | ((with_reducible refine isSmall ?_) <;> (refine ⟨?_, ?_⟩; kernel_rfl)) | refine ⟨rfl, ?_⟩ | refine ⟨Int.natCast_nonneg _, ?_⟩)) | with_reducible refine Both.mk ?_ ?_ | rintro _ rfl | exact rfl | (split <;> (rename_i h; first | (simp only [beq_self_eq_true, eq_self, decide_true, Bool.not_true, Bool.false_eq_true] at h; done) | (try rw [h])))))
theorem eqValueS (xs : List D) (hP : AllOf isValue xs) : Ent Tryz.prog 123 [.d (.sl false xs), .d (.sl false xs)] [] (.d (.b true)) [] := by
  refine ent_of tok mixed (f := 123) Tryz.func123 (by kernel_rfl) (keep := false) ?_
  repeat' ((conv => whnf) <;> (first | ((with_reducible refine isCall ?_) <;> (first | (refine ⟨_, eqValue _ hs, ?_⟩; rintro _ _ ⟨rfl, rfl⟩) | refine ⟨_, hx, ?_⟩ | (obtain ⟨x, hx⟩ := get_ex (ss := xs) (k := k) (lt_of_dec0 (by assumption)); have hs := hP.all x (get_mem hx); obtain ⟨a0, a1, a2, rfl⟩ := id hs; refine ⟨_, hx, ?_⟩) | exact ⟨rfl, ⟨k + 1, _, step_up (lt_of_dec0 (by assumption)) hP.len, lt_of_dec0 (by assumption), rfl⟩, mu_up (lt_of_dec0 (by assumption)) hP.len⟩ | fail)) | ((with_reducible refine isLoop ?_) <;> (first | (refine ⟨[5, 0, 1], [], fun s => ∃ (k : Nat) (n : Int), n = k ∧ k ≤ xs.length ∧ s = ⟨[(5, .d (.i .i64 n)), (0, .d (.sl false xs)), (1, .d (.sl false xs))], []⟩, fun s => match look 5 s.env with | some (.d (.i _ n)) => xs.length - n.toNat | _ => 0, rfl, ⟨0, _, rfl, Nat.zero_le _, rfl⟩, ?_⟩; rintro s ⟨k, n, rfl, hk, rfl⟩) | refine ⟨_, hx, ?_⟩ | (obtain ⟨x, hx⟩ := get_ex (ss := xs) (k := k) (lt_of_dec0 (by assumption)); have hs := hP.all x (get_mem hx); obtain ⟨a0, a1, a2, rfl⟩ := id hs; refine ⟨_, hx, ?_⟩) | exact ⟨rfl, ⟨k + 1, _, step_up (lt_of_dec0 (by assumption)) hP.len, lt_of_dec0 (by assumption), rfl⟩, mu_up (lt_of_dec0 (by assumption)) hP.len⟩ | fail)) | ((with_reducible refine isCut ?_) <;> (first | refine ⟨⟨none⟩, ?_⟩)) | ((first | with_reducible refine isEx ?_ | with_reducible refine isAnd ?_ | with_reducible refine isOr ?_) <;> (first | refine ⟨_, hx, ?_⟩ | (obtain ⟨x, hx⟩ := get_ex (ss := xs) (k := k) (lt_of_dec0 (by assumption)); have hs := hP.all x (get_mem hx); obtain ⟨a0, a1, a2, rfl⟩ := id hs; refine ⟨_, hx, ?_⟩) | exact ⟨rfl, ⟨k + 1, _, step_up (lt_of_dec0 (by assumption)) hP.len, lt_of_dec0 (by assumption), rfl⟩, mu_up (lt_of_dec0 (by assumption)) hP.len⟩ | ((with_reducible refine isSmall ?_) <;> (refine ⟨?_, ?_⟩; kernel_rfl)) | refine ⟨rfl, ?_⟩ | refine ⟨Int.natCast_nonneg _, ?_⟩)) | with_reducible refine Both.mk ?_ ?_ | rintro _ rfl | exact rfl | (split <;> (rename_i h; first | (simp only [beq_self_eq_true, eq_self, decide_true, Bool.not_true, Bool.false_eq_true] at h; done) | (try rw [h])))))
def isSchema (x : D) : Prop := ∃ (a0 : List UInt8) (a1 : List D) (a2 : List D) (a3 : List D), x = .agg [.s a0, .sl false a1, .sl false a2, .sl false a3] ∧ AllOf isColumn a1 ∧ AllOf isInt64 a2 ∧ AllOf isIndex a3
def ownSchema (x : D) : Prop := ∃ (a0 : List UInt8) (a1 : List D) (a2 : List D) (a3 : List D), x = .agg [.s a0, .os 3 false a1, .os 1 false a2, .os 2 true a3] ∧ AllOf ownColumn a1 ∧ AllOf ownInt64 a2 ∧ AllOf ownIndex a3
theorem eraseSchema {x : D} (h : ownSchema x) : isSchema x.erase := by
  obtain ⟨a0, a1, a2, a3, rfl, h1, h2, h3⟩ := h
  exact ⟨_, _, _, _, rfl, h1.erase fun _ => eraseColumn, h2.erase fun _ => eraseInt64, h3.erase fun _ => eraseIndex⟩
set_option maxHeartbeats 1000000 in
theorem eqSchema (x : D) (hP : isSchema x) : Ent Tryz.prog 92 [.d x, .d x] [] (.d (.b true)) [] := by
  obtain ⟨a0, a1, a2, a3, rfl, h1, h2, h3⟩ := hP
  refine ent_of tok mixed (f := 92) Tryz.func92 (by kernel_rfl) (keep := false) ?_
  repeat' ((conv => whnf) <;> (first | ((with_reducible refine isCall ?_) <;> (first | (refine ⟨_, eqColumnS _ h1, ?_⟩; rintro _ _ ⟨rfl, rfl⟩) | (refine ⟨_, eqInt64S _ h2, ?_⟩; rintro _ _ ⟨rfl, rfl⟩) | (refine ⟨_, eqIndexS _ h3, ?_⟩; rintro _ _ ⟨rfl, rfl⟩) | fail)) | ((with_reducible refine isCut ?_) <;> (first | refine ⟨⟨none⟩, ?_⟩)) | ((first | with_reducible refine isEx ?_ | with_reducible refine isAnd ?_ | with_reducible refine isOr ?_) <;> (first | ((with_reducible refine isSmall ?_) <;> (refine ⟨?_, ?_⟩; kernel_rfl)) | refine ⟨rfl, ?_⟩ | refine ⟨Int.natCast_nonneg _, ?_⟩)) | with_reducible refine Both.mk ?_ ?_ | rintro _ rfl | exact rfl | (split <;> (rename_i h; first | (simp only [beq_self_eq_true, eq_self, decide_true, Bool.not_true, Bool.false_eq_true] at h; done) | (try rw [h])))))
def isValueS (x : D) : Prop := ∃ (a0 : List D), x = .sl false a0 ∧ AllOf isValue a0
def ownValueS (x : D) : Prop := ∃ (a0 : List D), x = .os 3 false a0 ∧ AllOf ownValue a0
theorem eraseValueS {x : D} (h : ownValueS x) : isValueS x.erase := by
  obtain ⟨a0, rfl, h0⟩ := h
  exact ⟨_, rfl, h0.erase fun _ => eraseValue⟩
theorem eqValueSS (xs : List D) (hP : AllOf isValueS xs) : Ent Tryz.prog 93 [.d (.sl false xs), .d (.sl false xs)] [] (.d (.b true)) [] := by
  refine ent_of tok mixed (f := 93) Tryz.func93 (by kernel_rfl) (keep := false) ?_
  repeat' ((conv => whnf) <;> (first | ((with_reducible refine isCall ?_) <;> (first | (refine ⟨_, eqValueS a0 h0, ?_⟩; rintro _ _ ⟨rfl, rfl⟩) | refine ⟨_, hx, ?_⟩ | (obtain ⟨x, hx⟩ := get_ex (ss := xs) (k := k) (lt_of_dec0 (by assumption)); have hs := hP.all x (get_mem hx); obtain ⟨a0, rfl, h0⟩ := id hs; refine ⟨_, hx, ?_⟩) | exact ⟨rfl, ⟨k + 1, _, step_up (lt_of_dec0 (by assumption)) hP.len, lt_of_dec0 (by assumption), rfl⟩, mu_up (lt_of_dec0 (by assumption)) hP.len⟩ | fail)) | ((with_reducible refine isLoop ?_) <;> (first | (refine ⟨[5, 0, 1], [], fun s => ∃ (k : Nat) (n : Int), n = k ∧ k ≤ xs.length ∧ s = ⟨[(5, .d (.i .i64 n)), (0, .d (.sl false xs)), (1, .d (.sl false xs))], []⟩, fun s => match look 5 s.env with | some (.d (.i _ n)) => xs.length - n.toNat | _ => 0, rfl, ⟨0, _, rfl, Nat.zero_le _, rfl⟩, ?_⟩; rintro s ⟨k, n, rfl, hk, rfl⟩) | refine ⟨_, hx, ?_⟩ | (obtain ⟨x, hx⟩ := get_ex (ss := xs) (k := k) (lt_of_dec0 (by assumption)); have hs := hP.all x (get_mem hx); obtain ⟨a0, rfl, h0⟩ := id hs; refine ⟨_, hx, ?_⟩) | exact ⟨rfl, ⟨k + 1, _, step_up (lt_of_dec0 (by assumption)) hP.len, lt_of_dec0 (by assumption), rfl⟩, mu_up (lt_of_dec0 (by assumption)) hP.len⟩ | fail)) | ((with_reducible refine isCut ?_) <;> (first | refine ⟨⟨none⟩, ?_⟩)) | ((first | with_reducible refine isEx ?_ | with_reducible refine isAnd ?_ | with_reducible refine isOr ?_) <;> (first | refine ⟨_, hx, ?_⟩ | (obtain ⟨x, hx⟩ := get_ex (ss := xs) (k := k) (lt_of_dec0 (by assumption)); have hs := hP.all x (get_mem hx); obtain ⟨a0, rfl, h0⟩ := id hs; refine ⟨_, hx, ?_⟩) | exact ⟨rfl, ⟨k + 1, _, step_up (lt_of_dec0 (by assumption)) hP.len, lt_of_dec0 (by assumption), rfl⟩, mu_up (lt_of_dec0 (by assumption)) hP.len⟩ | ((with_reducible refine isSmall ?_) <;> (refine ⟨?_, ?_⟩; kernel_rfl)) | refine ⟨rfl, ?_⟩ | refine ⟨Int.natCast_nonneg _, ?_⟩)) | with_reducible refine Both.mk ?_ ?_ | rintro _ rfl | exact rfl | (split <;> (rename_i h; first | (simp only [beq_self_eq_true, eq_self, decide_true, Bool.not_true, Bool.false_eq_true] at h; done) | (try rw [h])))))
def isTable (x : D) : Prop := ∃ (a0 : List UInt8) (a1 : List D) (a2 : List D) (a3 : List D) (a4 : List D), x = .agg [.s a0, .sl false a1, .sl false a2, .sl false a3, .sl false a4] ∧ AllOf isColumn a1 ∧ AllOf isInt64 a2 ∧ AllOf isIndex a3 ∧ AllOf isValueS a4
def ownTable (x : D) : Prop := ∃ (a0 : List UInt8) (a1 : List D) (a2 : List D) (a3 : List D) (a4 : List D), x = .agg [.s a0, .os 3 false a1, .os 1 false a2, .os 2 true a3, .os 1 true a4] ∧ AllOf ownColumn a1 ∧ AllOf ownInt64 a2 ∧ AllOf ownIndex a3 ∧ AllOf ownValueS a4
theorem eraseTable {x : D} (h : ownTable x) : isTable x.erase := by
  obtain ⟨a0, a1, a2, a3, a4, rfl, h1, h2, h3, h4⟩ := h
  exact ⟨_, _, _, _, _, rfl, h1.erase fun _ => eraseColumn, h2.erase fun _ => eraseInt64, h3.erase fun _ => eraseIndex, h4.erase fun _ => eraseValueS⟩
set_option maxHeartbeats 1000000 in
theorem eqTable (x : D) (hP : isTable x) : Ent Tryz.prog 61 [.d x, .d x] [] (.d (.b true)) [] := by
  obtain ⟨a0, a1, a2, a3, a4, rfl, h1, h2, h3, h4⟩ := hP
  refine ent_of tok mixed (f := 61) Tryz.func61 (by kernel_rfl) (keep := false) ?_
  repeat' ((conv => whnf) <;> (first | ((with_reducible refine isCall ?_) <;> (first | (refine ⟨_, eqSchema _ ⟨_, _, _, _, rfl, h1, h2, h3⟩, ?_⟩; rintro _ _ ⟨rfl, rfl⟩) | (refine ⟨_, eqValueSS _ h4, ?_⟩; rintro _ _ ⟨rfl, rfl⟩) | fail)) | ((with_reducible refine isCut ?_) <;> (first | refine ⟨⟨none⟩, ?_⟩)) | ((first | with_reducible refine isEx ?_ | with_reducible refine isAnd ?_ | with_reducible refine isOr ?_) <;> (first | ((with_reducible refine isSmall ?_) <;> (refine ⟨?_, ?_⟩; kernel_rfl)) | refine ⟨rfl, ?_⟩ | refine ⟨Int.natCast_nonneg _, ?_⟩)) | with_reducible refine Both.mk ?_ ?_ | rintro _ rfl | exact rfl | (split <;> (rename_i h; first | (simp only [beq_self_eq_true, eq_self, decide_true, Bool.not_true, Bool.false_eq_true] at h; done) | (try rw [h])))))
theorem eqTableS (xs : List D) (hP : AllOf isTable xs) : Ent Tryz.prog 28 [.d (.sl false xs), .d (.sl false xs)] [] (.d (.b true)) [] := by
  refine ent_of tok mixed (f := 28) Tryz.func28 (by kernel_rfl) (keep := false) ?_
  repeat' ((conv => whnf) <;> (first | ((with_reducible refine isCall ?_) <;> (first | (refine ⟨_, eqTable _ hs, ?_⟩; rintro _ _ ⟨rfl, rfl⟩) | refine ⟨_, hx, ?_⟩ | (obtain ⟨x, hx⟩ := get_ex (ss := xs) (k := k) (lt_of_dec0 (by assumption)); have hs := hP.all x (get_mem hx); obtain ⟨a0, a1, a2, a3, a4, rfl, h1, h2, h3, h4⟩ := id hs; refine ⟨_, hx, ?_⟩) | exact ⟨rfl, ⟨k + 1, _, step_up (lt_of_dec0 (by assumption)) hP.len, lt_of_dec0 (by assumption), rfl⟩, mu_up (lt_of_dec0 (by assumption)) hP.len⟩ | fail)) | ((with_reducible refine isLoop ?_) <;> (first | (refine ⟨[5, 0, 1], [], fun s => ∃ (k : Nat) (n : Int), n = k ∧ k ≤ xs.length ∧ s = ⟨[(5, .d (.i .i64 n)), (0, .d (.sl false xs)), (1, .d (.sl false xs))], []⟩, fun s => match look 5 s.env with | some (.d (.i _ n)) => xs.length - n.toNat | _ => 0, rfl, ⟨0, _, rfl, Nat.zero_le _, rfl⟩, ?_⟩; rintro s ⟨k, n, rfl, hk, rfl⟩) | refine ⟨_, hx, ?_⟩ | (obtain ⟨x, hx⟩ := get_ex (ss := xs) (k := k) (lt_of_dec0 (by assumption)); have hs := hP.all x (get_mem hx); obtain ⟨a0, a1, a2, a3, a4, rfl, h1, h2, h3, h4⟩ := id hs; refine ⟨_, hx, ?_⟩) | exact ⟨rfl, ⟨k + 1, _, step_up (lt_of_dec0 (by assumption)) hP.len, lt_of_dec0 (by assumption), rfl⟩, mu_up (lt_of_dec0 (by assumption)) hP.len⟩ | fail)) | ((with_reducible refine isCut ?_) <;> (first | refine ⟨⟨none⟩, ?_⟩)) | ((first | with_reducible refine isEx ?_ | with_reducible refine isAnd ?_ | with_reducible refine isOr ?_) <;> (first | refine ⟨_, hx, ?_⟩ | (obtain ⟨x, hx⟩ := get_ex (ss := xs) (k := k) (lt_of_dec0 (by assumption)); have hs := hP.all x (get_mem hx); obtain ⟨a0, a1, a2, a3, a4, rfl, h1, h2, h3, h4⟩ := id hs; refine ⟨_, hx, ?_⟩) | exact ⟨rfl, ⟨k + 1, _, step_up (lt_of_dec0 (by assumption)) hP.len, lt_of_dec0 (by assumption), rfl⟩, mu_up (lt_of_dec0 (by assumption)) hP.len⟩ | ((with_reducible refine isSmall ?_) <;> (refine ⟨?_, ?_⟩; kernel_rfl)) | refine ⟨rfl, ?_⟩ | refine ⟨Int.natCast_nonneg _, ?_⟩)) | with_reducible refine Both.mk ?_ ?_ | rintro _ rfl | exact rfl | (split <;> (rename_i h; first | (simp only [beq_self_eq_true, eq_self, decide_true, Bool.not_true, Bool.false_eq_true] at h; done) | (try rw [h])))))
def isDb (x : D) : Prop := ∃ (a0 : List D), x = .agg [.sl false a0] ∧ AllOf isTable a0
def ownDb (x : D) : Prop := ∃ (a0 : List D), x = .agg [.os 5 true a0] ∧ AllOf ownTable a0
theorem eraseDb {x : D} (h : ownDb x) : isDb x.erase := by
  obtain ⟨a0, rfl, h0⟩ := h
  exact ⟨_, rfl, h0.erase fun _ => eraseTable⟩
set_option maxHeartbeats 1000000 in
theorem eqDb (x : D) (hP : isDb x) : Ent Tryz.prog 10 [.d x, .d x] [] (.d (.b true)) [] := by
  obtain ⟨a0, rfl, h0⟩ := hP
  refine ent_of tok mixed (f := 10) Tryz.func10 (by kernel_rfl) (keep := false) ?_
  repeat' ((conv => whnf) <;> (first | ((with_reducible refine isCall ?_) <;> (first | (refine ⟨_, eqTableS _ h0, ?_⟩; rintro _ _ ⟨rfl, rfl⟩) | fail)) | ((with_reducible refine isCut ?_) <;> (first | refine ⟨⟨none⟩, ?_⟩)) | ((first | with_reducible refine isEx ?_ | with_reducible refine isAnd ?_ | with_reducible refine isOr ?_) <;> (first | ((with_reducible refine isSmall ?_) <;> (refine ⟨?_, ?_⟩; kernel_rfl)) | refine ⟨rfl, ?_⟩ | refine ⟨Int.natCast_nonneg _, ?_⟩)) | with_reducible refine Both.mk ?_ ?_ | rintro _ rfl | exact rfl | (split <;> (rename_i h; first | (simp only [beq_self_eq_true, eq_self, decide_true, Bool.not_true, Bool.false_eq_true] at h; done) | (try rw [h])))))
def isItem (x : D) : Prop := ∃ (a0 : Int) (a1 : List UInt8), x = .agg [.i .i64 a0, .s a1]
def ownItem (x : D) : Prop := ∃ (a0 : Int) (a1 : List UInt8), x = .agg [.i .i64 a0, .s a1]
theorem eraseItem {x : D} (h : ownItem x) : isItem x.erase := by
  obtain ⟨a0, a1, rfl⟩ := h
  exact ⟨_, _, rfl⟩
set_option maxHeartbeats 1000000 in
theorem eqItem (x : D) (hP : isItem x) : Ent Tryz.prog 62 [.d x, .d x] [] (.d (.b true)) [] := by
  obtain ⟨a0, a1, rfl⟩ := hP
  refine ent_of tok mixed (f := 62) Tryz.func62 (by kernel_rfl) (keep := false) ?_
  repeat' ((conv => whnf) <;> (first | ((with_reducible refine isCall ?_) <;> (first | fail)) | ((with_reducible refine isCut ?_) <;> (first | refine ⟨⟨none⟩, ?_⟩)) | ((first | with_reducible refine isEx ?_ | with_reducible refine isAnd ?_ | with_reducible refine isOr ?_) <;> (first | ((with_reducible refine isSmall ?_) <;> (refine ⟨?_, ?_⟩; kernel_rfl)) | refine ⟨rfl, ?_⟩ | refine ⟨Int.natCast_nonneg _, ?_⟩)) | with_reducible refine Both.mk ?_ ?_ | rintro _ rfl | exact rfl | (split <;> (rename_i h; first | (simp only [beq_self_eq_true, eq_self, decide_true, Bool.not_true, Bool.false_eq_true] at h; done) | (try rw [h])))))
theorem eqItemS (xs : List D) (hP : AllOf isItem xs) : Ent Tryz.prog 29 [.d (.sl false xs), .d (.sl false xs)] [] (.d (.b true)) [] := by
  refine ent_of tok mixed (f := 29) Tryz.func29 (by kernel_rfl) (keep := false) ?_
  repeat' ((conv => whnf) <;> (first | ((with_reducible refine isCall ?_) <;> (first | (refine ⟨_, eqItem _ hs, ?_⟩; rintro _ _ ⟨rfl, rfl⟩) | refine ⟨_, hx, ?_⟩ | (obtain ⟨x, hx⟩ := get_ex (ss := xs) (k := k) (lt_of_dec0 (by assumption)); have hs := hP.all x (get_mem hx); obtain ⟨a0, a1, rfl⟩ := id hs; refine ⟨_, hx, ?_⟩) | exact ⟨rfl, ⟨k + 1, _, step_up (lt_of_dec0 (by assumption)) hP.len, lt_of_dec0 (by assumption), rfl⟩, mu_up (lt_of_dec0 (by assumption)) hP.len⟩ | fail)) | ((with_reducible refine isLoop ?_) <;> (first | (refine ⟨[5, 0, 1], [], fun s => ∃ (k : Nat) (n : Int), n = k ∧ k ≤ xs.length ∧ s = ⟨[(5, .d (.i .i64 n)), (0, .d (.sl false xs)), (1, .d (.sl false xs))], []⟩, fun s => match look 5 s.env with | some (.d (.i _ n)) => xs.length - n.toNat | _ => 0, rfl, ⟨0, _, rfl, Nat.zero_le _, rfl⟩, ?_⟩; rintro s ⟨k, n, rfl, hk, rfl⟩) | refine ⟨_, hx, ?_⟩ | (obtain ⟨x, hx⟩ := get_ex (ss := xs) (k := k) (lt_of_dec0 (by assumption)); have hs := hP.all x (get_mem hx); obtain ⟨a0, a1, rfl⟩ := id hs; refine ⟨_, hx, ?_⟩) | exact ⟨rfl, ⟨k + 1, _, step_up (lt_of_dec0 (by assumption)) hP.len, lt_of_dec0 (by assumption), rfl⟩, mu_up (lt_of_dec0 (by assumption)) hP.len⟩ | fail)) | ((with_reducible refine isCut ?_) <;> (first | refine ⟨⟨none⟩, ?_⟩)) | ((first | with_reducible refine isEx ?_ | with_reducible refine isAnd ?_ | with_reducible refine isOr ?_) <;> (first | refine ⟨_, hx, ?_⟩ | (obtain ⟨x, hx⟩ := get_ex (ss := xs) (k := k) (lt_of_dec0 (by assumption)); have hs := hP.all x (get_mem hx); obtain ⟨a0, a1, rfl⟩ := id hs; refine ⟨_, hx, ?_⟩) | exact ⟨rfl, ⟨k + 1, _, step_up (lt_of_dec0 (by assumption)) hP.len, lt_of_dec0 (by assumption), rfl⟩, mu_up (lt_of_dec0 (by assumption)) hP.len⟩ | ((with_reducible refine isSmall ?_) <;> (refine ⟨?_, ?_⟩; kernel_rfl)) | refine ⟨rfl, ?_⟩ | refine ⟨Int.natCast_nonneg _, ?_⟩)) | with_reducible refine Both.mk ?_ ?_ | rintro _ rfl | exact rfl | (split <;> (rename_i h; first | (simp only [beq_self_eq_true, eq_self, decide_true, Bool.not_true, Bool.false_eq_true] at h; done) | (try rw [h])))))
def isTerm (x : D) : Prop := ∃ (a0 : List UInt8) (a1 : List UInt8) (a2 : Int) (a3 : Int) (a4 : List UInt8), x = .agg [.s a0, .s a1, .i .i64 a2, .i .i64 a3, .s a4]
def ownTerm (x : D) : Prop := ∃ (a0 : List UInt8) (a1 : List UInt8) (a2 : Int) (a3 : Int) (a4 : List UInt8), x = .agg [.s a0, .s a1, .i .i64 a2, .i .i64 a3, .s a4]
theorem eraseTerm {x : D} (h : ownTerm x) : isTerm x.erase := by
  obtain ⟨a0, a1, a2, a3, a4, rfl⟩ := h
  exact ⟨_, _, _, _, _, rfl⟩
set_option maxHeartbeats 1000000 in
theorem eqTerm (x : D) (hP : isTerm x) : Ent Tryz.prog 63 [.d x, .d x] [] (.d (.b true)) [] := by
  obtain ⟨a0, a1, a2, a3, a4, rfl⟩ := hP
  refine ent_of tok mixed (f := 63) Tryz.func63 (by kernel_rfl) (keep := false) ?_
  repeat' ((conv => whnf) <;> (first | ((with_reducible refine isCall ?_) <;> (first | (refine ⟨_, eqValue _ ⟨_, _, _, rfl⟩, ?_⟩; rintro _ _ ⟨rfl, rfl⟩) | fail)) | ((with_reducible refine isCut ?_) <;> (first | refine ⟨⟨none⟩, ?_⟩)) | ((first | with_reducible refine isEx ?_ | with_reducible refine isAnd ?_ | with_reducible refine isOr ?_) <;> (first | ((with_reducible refine isSmall ?_) <;> (refine ⟨?_, ?_⟩; kernel_rfl)) | refine ⟨rfl, ?_⟩ | refine ⟨Int.natCast_nonneg _, ?_⟩)) | with_reducible refine Both.mk ?_ ?_ | rintro _ rfl | exact rfl | (split <;> (rename_i h; first | (simp only [beq_self_eq_true, eq_self, decide_true, Bool.not_true, Bool.false_eq_true] at h; done) | (try rw [h])))))
theorem eqTermS (xs : List D) (hP : AllOf isTerm xs) : Ent Tryz.prog 30 [.d (.sl false xs), .d (.sl false xs)] [] (.d (.b true)) [] := by
  refine ent_of tok mixed (f := 30) Tryz.func30 (by kernel_rfl) (keep := false) ?_
  repeat' ((conv => whnf) <;> (first | ((with_reducible refine isCall ?_) <;> (first | (refine ⟨_, eqTerm _ hs, ?_⟩; rintro _ _ ⟨rfl, rfl⟩) | refine ⟨_, hx, ?_⟩ | (obtain ⟨x, hx⟩ := get_ex (ss := xs) (k := k) (lt_of_dec0 (by assumption)); have hs := hP.all x (get_mem hx); obtain ⟨a0, a1, a2, a3, a4, rfl⟩ := id hs; refine ⟨_, hx, ?_⟩) | exact ⟨rfl, ⟨k + 1, _, step_up (lt_of_dec0 (by assumption)) hP.len, lt_of_dec0 (by assumption), rfl⟩, mu_up (lt_of_dec0 (by assumption)) hP.len⟩ | fail)) | ((with_reducible refine isLoop ?_) <;> (first | (refine ⟨[5, 0, 1], [], fun s => ∃ (k : Nat) (n : Int), n = k ∧ k ≤ xs.length ∧ s = ⟨[(5, .d (.i .i64 n)), (0, .d (.sl false xs)), (1, .d (.sl false xs))], []⟩, fun s => match look 5 s.env with | some (.d (.i _ n)) => xs.length - n.toNat | _ => 0, rfl, ⟨0, _, rfl, Nat.zero_le _, rfl⟩, ?_⟩; rintro s ⟨k, n, rfl, hk, rfl⟩) | refine ⟨_, hx, ?_⟩ | (obtain ⟨x, hx⟩ := get_ex (ss := xs) (k := k) (lt_of_dec0 (by assumption)); have hs := hP.all x (get_mem hx); obtain ⟨a0, a1, a2, a3, a4, rfl⟩ := id hs; refine ⟨_, hx, ?_⟩) | exact ⟨rfl, ⟨k + 1, _, step_up (lt_of_dec0 (by assumption)) hP.len, lt_of_dec0 (by assumption), rfl⟩, mu_up (lt_of_dec0 (by assumption)) hP.len⟩ | fail)) | ((with_reducible refine isCut ?_) <;> (first | refine ⟨⟨none⟩, ?_⟩)) | ((first | with_reducible refine isEx ?_ | with_reducible refine isAnd ?_ | with_reducible refine isOr ?_) <;> (first | refine ⟨_, hx, ?_⟩ | (obtain ⟨x, hx⟩ := get_ex (ss := xs) (k := k) (lt_of_dec0 (by assumption)); have hs := hP.all x (get_mem hx); obtain ⟨a0, a1, a2, a3, a4, rfl⟩ := id hs; refine ⟨_, hx, ?_⟩) | exact ⟨rfl, ⟨k + 1, _, step_up (lt_of_dec0 (by assumption)) hP.len, lt_of_dec0 (by assumption), rfl⟩, mu_up (lt_of_dec0 (by assumption)) hP.len⟩ | ((with_reducible refine isSmall ?_) <;> (refine ⟨?_, ?_⟩; kernel_rfl)) | refine ⟨rfl, ?_⟩ | refine ⟨Int.natCast_nonneg _, ?_⟩)) | with_reducible refine Both.mk ?_ ?_ | rintro _ rfl | exact rfl | (split <;> (rename_i h; first | (simp only [beq_self_eq_true, eq_self, decide_true, Bool.not_true, Bool.false_eq_true] at h; done) | (try rw [h])))))
def isQuery (x : D) : Prop := ∃ (a0 : List D) (a1 : List UInt8) (a2 : List UInt8) (a3 : List UInt8) (a4 : List UInt8) (a5 : List D) (a6 : List UInt8) (a7 : List UInt8) (a8 : Bool) (a9 : Int), x = .agg [.sl false a0, .s a1, .s a2, .s a3, .s a4, .sl false a5, .s a6, .s a7, .b a8, .i .i64 a9] ∧ AllOf isItem a0 ∧ AllOf isTerm a5
def ownQuery (x : D) : Prop := ∃ (a0 : List D) (a1 : List UInt8) (a2 : List UInt8) (a3 : List UInt8) (a4 : List UInt8) (a5 : List D) (a6 : List UInt8) (a7 : List UInt8) (a8 : Bool) (a9 : Int), x = .agg [.os 2 false a0, .s a1, .s a2, .s a3, .s a4, .os 5 false a5, .s a6, .s a7, .b a8, .i .i64 a9] ∧ AllOf ownItem a0 ∧ AllOf ownTerm a5
theorem eraseQuery {x : D} (h : ownQuery x) : isQuery x.erase := by
  obtain ⟨a0, a1, a2, a3, a4, a5, a6, a7, a8, a9, rfl, h0, h5⟩ := h
  exact ⟨_, _, _, _, _, _, _, _, _, _, rfl, h0.erase fun _ => eraseItem, h5.erase fun _ => eraseTerm⟩
set_option maxHeartbeats 1000000 in
theorem eqQuery (x : D) (hP : isQuery x) : Ent Tryz.prog 11 [.d x, .d x] [] (.d (.b true)) [] := by
  obtain ⟨a0, a1, a2, a3, a4, a5, a6, a7, a8, a9, rfl, h0, h5⟩ := hP
  refine ent_of tok mixed (f := 11) Tryz.func11 (by kernel_rfl) (keep := false) ?_
  repeat' ((conv => whnf) <;> (first | ((with_reducible refine isCall ?_) <;> (first | (refine ⟨_, eqItemS _ h0, ?_⟩; rintro _ _ ⟨rfl, rfl⟩) | (refine ⟨_, eqTermS _ h5, ?_⟩; rintro _ _ ⟨rfl, rfl⟩) | fail)) | ((with_reducible refine isCut ?_) <;> (first | refine ⟨⟨none⟩, ?_⟩)) | ((first | with_reducible refine isEx ?_ | with_reducible refine isAnd ?_ | with_reducible refine isOr ?_) <;> (first | ((with_reducible refine isSmall ?_) <;> (refine ⟨?_, ?_⟩; kernel_rfl)) | refine ⟨rfl, ?_⟩ | refine ⟨Int.natCast_nonneg _, ?_⟩)) | with_reducible refine Both.mk ?_ ?_ | rintro _ rfl | exact rfl | (split <;> (rename_i h; first | (simp only [beq_self_eq_true, eq_self, decide_true, Bool.not_true, Bool.false_eq_true] at h; done) | (try rw [h])))))
end Go.Pm.Tryz
namespace Go.Pm.Tryz
open Go
def valSh : Sh := .agg [.int .i64, .int .i64, .str]
def colSh : Sh := .agg [.str, .int .i64, .bool]
def idxSh : Sh := .agg [.sl (.int .i64), .bool]
def tabSh : Sh := .agg [.str, .sl colSh, .sl (.int .i64), .sl idxSh, .sl (.sl valSh)]
def itemSh : Sh := .agg [.int .i64, .str]
def termSh : Sh := .agg [.str, .str, .int .i64, .int .i64, .str]
def qrySh : Sh := .agg [.sl itemSh, .str, .str, .str, .str, .sl termSh, .str, .str, .bool, .int .i64]
theorem val_of {y : D} (h : valSh.of y) : ∃ v : Val, y = valD v ∧ fitVal v := by
  simp only [valSh, Sh.of, ofL] at h
  obtain ⟨cs, rfl, x0, r0, rfl, ⟨a, rfl, _⟩, x1, r1, rfl, ⟨b, rfl, _⟩, x2, r2, rfl, ⟨c, rfl, hc⟩, rfl⟩ := h
  exact ⟨⟨a, b, c⟩, rfl, hc⟩
theorem col_of {y : D} (h : colSh.of y) : ∃ v : Col, y = colD v ∧ v.name.length ≤ maxLen := by
  simp only [colSh, Sh.of, ofL] at h
  obtain ⟨cs, rfl, x0, r0, rfl, ⟨a, rfl, ha⟩, x1, r1, rfl, ⟨b, rfl, _⟩, x2, r2, rfl, ⟨c, rfl⟩, rfl⟩ := h
  exact ⟨⟨a, b, c⟩, rfl, ha⟩
theorem int_of1 {y : D} (h : (Sh.int .i64).of y) : ∃ n : Int, y = i64D n ∧ True := by
  simp only [Sh.of] at h
  obtain ⟨n, rfl, _⟩ := h
  exact ⟨n, rfl, trivial⟩
theorem idx_of {y : D} (h : idxSh.of y) : ∃ v : Idx, y = idxD v ∧ v.cols.length ≤ maxLen := by
  simp only [idxSh, Sh.of, ofL] at h
  obtain ⟨cs, rfl, x0, r0, rfl, ⟨a, rfl, ha, hl⟩, x1, r1, rfl, ⟨b, rfl⟩, rfl⟩ := h
  obtain ⟨ns, rfl, _⟩ := ex_map (f := i64D) (q := fun _ => True) fun y hy => int_of1 (ha y hy)
  exact ⟨⟨ns, b⟩, rfl, by simpa using hl⟩
theorem row_of {y : D} (h : (Sh.sl valSh).of y) : ∃ r : List Val, y = rowD r ∧ fitRow r := by
  simp only [Sh.of] at h
  obtain ⟨xs, rfl, hx, hl⟩ := h
  obtain ⟨vs, rfl, hv⟩ := ex_map (f := valD) (q := fitVal) fun y hy => val_of (hx y hy)
  exact ⟨vs, rfl, by simpa using hl, hv⟩
theorem tab_of {y : D} (h : tabSh.of y) : ∃ t : Tab, y = tabD t ∧ t.fit2 := by
  simp only [tabSh, Sh.of, ofL] at h
  obtain ⟨cs, rfl, x0, r0, rfl, ⟨nm, rfl, hnm⟩, x1, r1, rfl, ⟨cl, rfl, hcl, lcl⟩, x2, r2, rfl, ⟨ks, rfl, hks, lks⟩, x3, r3, rfl, ⟨is, rfl, his, lis⟩, x4, r4, rfl, ⟨rs, rfl, hrs, lrs⟩, rfl⟩ := h
  obtain ⟨cl, rfl, qcl⟩ := ex_map (f := colD) (q := fun v => v.name.length ≤ maxLen) fun y hy => col_of (hcl y hy)
  obtain ⟨ks, rfl, _⟩ := ex_map (f := i64D) (q := fun _ => True) fun y hy => int_of1 (hks y hy)
  obtain ⟨is, rfl, qis⟩ := ex_map (f := idxD) (q := fun v => v.cols.length ≤ maxLen) fun y hy => idx_of (his y hy)
  obtain ⟨rs, rfl, qrs⟩ := ex_map (f := rowD) (q := fitRow) fun y hy => row_of (by simpa only [Sh.of] using hrs y hy)
  exact ⟨⟨⟨nm, cl, ks, is⟩, rs⟩, rfl, ⟨hnm, by simpa using lcl, qcl, by simpa using lks, by simpa using lis, qis⟩, by simpa using lrs, qrs⟩
theorem db_of {y : D} (h : (Sh.agg [.sl tabSh]).of y) : ∃ ts : List Tab, y = dbArg ts ∧ ts.length ≤ maxLen ∧ ∀ t, t ∈ ts → t.fit2 := by
  simp only [Sh.of, ofL] at h
  obtain ⟨cs, rfl, x0, r0, rfl, ⟨ts, rfl, hts, lts⟩, rfl⟩ := h
  obtain ⟨ts, rfl, q⟩ := ex_map (f := tabD) (q := Tab.fit2) fun y hy => tab_of (hts y hy)
  exact ⟨ts, rfl, by simpa using lts, q⟩
theorem item_of {y : D} (h : itemSh.of y) : ∃ v : Item, y = itemD v ∧ fitItem v := by
  simp only [itemSh, Sh.of, ofL] at h
  obtain ⟨cs, rfl, x0, r0, rfl, ⟨a, rfl, _⟩, x1, r1, rfl, ⟨b, rfl, hb⟩, rfl⟩ := h
  exact ⟨⟨a, b⟩, rfl, hb⟩
theorem term_of {y : D} (h : termSh.of y) : ∃ v : Term, y = termD v ∧ fitTerm v := by
  simp only [termSh, Sh.of, ofL] at h
  obtain ⟨cs, rfl, x0, r0, rfl, ⟨a, rfl, ha⟩, x1, r1, rfl, ⟨b, rfl, hb⟩, x2, r2, rfl, ⟨c, rfl, _⟩, x3, r3, rfl, ⟨d, rfl, _⟩, x4, r4, rfl, ⟨e, rfl, he⟩, rfl⟩ := h
  exact ⟨⟨a, b, ⟨c, d, e⟩⟩, rfl, ha, hb, he⟩
theorem qry_of {y : D} (h : qrySh.of y) : ∃ q : Qry, y = qryD q ∧ fitQry q := by
  simp only [qrySh, Sh.of, ofL] at h
  obtain ⟨cs, rfl, x0, r0, rfl, ⟨is, rfl, his, lis⟩, x1, r1, rfl, ⟨a1, rfl, h1⟩, x2, r2, rfl, ⟨a2, rfl, h2⟩, x3, r3, rfl, ⟨a3, rfl, h3⟩, x4, r4, rfl, ⟨a4, rfl, h4⟩, x5, r5, rfl, ⟨ws, rfl, hws, lws⟩, x6, r6, rfl, ⟨a6, rfl, h6⟩, x7, r7, rfl, ⟨a7, rfl, h7⟩, x8, r8, rfl, ⟨a8, rfl⟩, x9, r9, rfl, ⟨a9, rfl, _⟩, rfl⟩ := h
  obtain ⟨is, rfl, qis⟩ := ex_map (f := itemD) (q := fitItem) fun y hy => item_of (his y hy)
  obtain ⟨ws, rfl, qws⟩ := ex_map (f := termD) (q := fitTerm) fun y hy => term_of (hws y hy)
  exact ⟨⟨is, a1, a2, a3, a4, ws, a6, a7, a8, a9⟩, rfl, by simpa using lis, qis, h1, h2, h3, h4, by simpa using lws, qws, h6, h7⟩
end Go.Pm.Tryz
