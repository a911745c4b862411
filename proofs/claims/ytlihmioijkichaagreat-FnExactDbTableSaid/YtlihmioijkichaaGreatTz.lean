/-
How great the tables' data are; copies of them (printed by szto.py).
-/
import Derived.Test.YtlihmioijkichaaGreatFt
namespace Go.Pm
open Go
theorem deep_rep {w : World} {X : Nat → Prop} {J : Nat → Option Place} {p : Place} {sz : Nat} {xs : List D} (h : (Ob.arr sz false xs).rep w X J p) : (Ob.arr sz true xs).rep w X J p := by
  obtain ⟨h0, a, cap, h1, h2, h3⟩ := h
  refine ⟨h0, a, cap, h1, h2, ?_⟩
  rcases h3 with h3 | ⟨g1, g2, g3, g4, _⟩
  · exact .inl h3
  · exact .inr ⟨g1, g2, g3, g4, fun h => by cases h⟩
theorem Mem.deep {X0 : Nat → Prop} {J : Nat → Option Place} {obj obj' : Nat → Option Ob} {w : World} (m : Mem X0 J obj w) (h : ∀ k, obj' k = obj k ∨ ∃ sz xs, obj k = some (.arr sz false xs) ∧ obj' k = some (.arr sz true xs)) : Mem X0 J obj' w where
  ob k o ho := by
    rcases h k with e | ⟨sz, xs, e1, e2⟩
    · rw [e] at ho; exact m.ob k o ho
    · rw [e2] at ho; cases ho
      obtain ⟨p, hp, hr⟩ := m.ob k _ e1
      exact ⟨p, hp, deep_rep hr⟩
  dom k p hp := by
    obtain ⟨o, ho⟩ := m.dom k p hp
    rcases h k with e | ⟨sz, xs, e1, e2⟩
    · exact ⟨o, e.trans ho⟩
    · exact ⟨_, e2⟩
  sep := m.sep
  nd := m.nd
  x0 := m.x0
/-- An own array whose elements may own nothing is one whose elements own blocks, too. -/
theorem ent_deep {P : Program} {f : FuncId} {args : List AV} {objs : List Ob} {sz : Nat} {xs : List D} {R : AV} (h : EntQ P f args objs fun R' O => R' = R ∧ ∃ dp, O = [.arr sz dp xs]) : Ent P f args objs R [.arr sz true xs] where
  enters := h.enters
  calls X0 J w vs hr hm := (h.calls X0 J w vs hr hm).mono fun e w' ⟨R', O, v, J', ⟨hR, dp, hO⟩, he, hrep, hm', hk, h1, h2⟩ => by
    subst hR hO
    refine ⟨_, [.arr sz true xs], v, J', ⟨rfl, rfl⟩, he, hrep, hm'.deep fun k => ?_, hk, h1, h2⟩
    cases dp with
    | true => exact .inl rfl
    | false =>
      cases k with
      | zero => exact .inr ⟨sz, xs, rfl, rfl⟩
      | succ k => exact .inl rfl
/-- The same of arrays among several blocks. -/
theorem ent_deepL {P : Program} {f : FuncId} {args : List AV} {objs O1 : List Ob} {R : AV} (h : EntQ P f args objs fun R' O => R' = R ∧ ∀ k : Nat, O1[k]? = O[k]? ∨ ∃ sz xs, O[k]? = some (.arr sz false xs) ∧ O1[k]? = some (.arr sz true xs)) : Ent P f args objs R O1 where
  enters := h.enters
  calls X0 J w vs hr hm := (h.calls X0 J w vs hr hm).mono fun e w' ⟨R', O, v, J', ⟨hR, hO⟩, he, hrep, hm', hk, h1, h2⟩ => by
    subst hR
    exact ⟨_, O1, v, J', ⟨rfl, rfl⟩, he, hrep, hm'.deep hO, hk, h1, h2⟩
end Go.Pm
namespace Go.Pm.Tryz
open Go Go.Proofs
set_option linter.unusedVariables false
set_option linter.unusedSimpArgs false
set_option maxRecDepth 100000
theorem sub_small {a : Int} {n : Nat} (h0 : 0 ≤ a) (h1 : a ≤ 1048576) (hn : n ≤ maxLen) : IntKind.i64.wrap (a - (n : Int)) = a - n := by
  have : maxLen = 9223372036854775807 := rfl
  exact wrap_i64_id _ (by omega) (by omega)
def wValue (_ : Val) : Nat := 0
def wColumn (_ : Col) : Nat := 0
def wsum {α : Type} (w : α → Nat) (xs : List α) : Nat := (xs.map w).sum
def wl {α : Type} (w : α → Nat) (xs : List α) : Nat := xs.length + wsum w xs
theorem wsum_zero {α : Type} {w : α → Nat} {xs : List α} : wsum w (xs.take 0) = 0 := rfl
theorem wsum_up {α : Type} {w : α → Nat} {xs : List α} {k : Nat} {x : α} (h : xs[k]? = some x) : wsum w (xs.take (k + 1)) = wsum w (xs.take k) + w x := by
  simp only [wsum, take_up h, List.map_append, List.sum_append, List.map_cons, List.map_nil, List.sum_cons, List.sum_nil]; omega
theorem wsum_mem {α : Type} {w : α → Nat} : ∀ {xs : List α} {x : α}, x ∈ xs → w x ≤ wsum w xs
  | y :: ys, x, h => by
    simp only [wsum, List.map_cons, List.sum_cons]
    rcases List.mem_cons.1 h with rfl | h
    · omega
    · have := wsum_mem (w := w) h
      simp only [wsum] at this; omega
def wRow (r : List Val) : Nat := wl wValue r
def wIdx (i : Idx) : Nat := i.cols.length
def wSch (s : Schema) : Nat := wl wColumn s.cols + s.keys.length + wl wIdx s.idxs
def wTab (t : Tab) : Nat := wSch t.sch + wl wRow t.rows
def fitVal (v : Val) : Prop := v.text.length ≤ maxLen
def fitCol (c : Col) : Prop := c.name.length ≤ maxLen
def fitRow (r : List Val) : Prop := r.length ≤ maxLen ∧ ∀ v, v ∈ r → fitVal v
def fitIdx (i : Idx) : Prop := i.cols.length ≤ maxLen
def szRow (r : List Val) : Prop := r.length ≤ 1048576
def szIdx (i : Idx) : Prop := i.cols.length ≤ 1048576
structure szSch (s : Schema) : Prop where
  cols : s.cols.length ≤ 1048576
  keys : s.keys.length ≤ 1048576
  idxs : s.idxs.length ≤ 1048576
  lists : ∀ i, i ∈ s.idxs → szIdx i
structure szTab (t : Tab) : Prop where
  sch : szSch t.sch
  rows : t.rows.length ≤ 1048576
  row : ∀ r, r ∈ t.rows → szRow r
theorem sz_sch {s : Schema} (h : wSch s ≤ 1048576) : szSch s := by
  unfold wSch wl at h
  exact ⟨by omega, by omega, by omega, fun i hi => by have := wsum_mem (w := wIdx) hi; show i.cols.length ≤ 1048576; unfold wIdx at *; omega⟩
theorem sz_tab {t : Tab} (h : wTab t ≤ 1048576) : szTab t := by
  unfold wTab wl at h
  exact ⟨sz_sch (by omega), by omega, fun r hr => by have := wsum_mem (w := wRow) hr; show r.length ≤ 1048576; have e : wRow r = r.length + wsum wValue r := rfl; omega⟩
theorem sz_tabs {ts : List Tab} (h : wl wTab ts ≤ 1048576) : ts.length ≤ 1048576 ∧ ∀ t, t ∈ ts → szTab t := by
  unfold wl at h
  exact ⟨by omega, fun t ht => sz_tab (by have := wsum_mem (w := wTab) ht; omega)⟩
structure Tab.fit2 (t : Tab) : Prop where
  sch : t.sch.fits
  rows : t.rows.length ≤ maxLen
  row : ∀ r, r ∈ t.rows → fitRow r
def filled {α : Type} (g : α → D) (z : D) (xs : List α) (k : Nat) : List D := (xs.take k).map g ++ List.replicate (xs.length - k) z
theorem filled_zero {α : Type} (g : α → D) (z : D) (xs : List α) : List.replicate xs.length z = filled g z xs 0 := by simp [filled]
theorem filled_all {α : Type} (g : α → D) (z : D) (xs : List α) : filled g z xs xs.length = xs.map g := by simp [filled]
theorem filled_up {α : Type} {g : α → D} {z : D} {xs : List α} {k : Nat} {x : α} (h : xs[k]? = some x) : (filled g z xs k).set k (g x) = filled g z xs (k + 1) := by
  obtain ⟨hk, rfl⟩ := List.getElem?_eq_some_iff.1 h
  unfold filled
  rw [List.set_append_right _ _ (by simp; omega)]
  rw [List.take_succ_eq_append_getElem hk, List.map_append, List.append_assoc]
  congr 1
  have e : xs.length - k = (xs.length - (k + 1)) + 1 := by omega
  rw [e, List.replicate_succ]
  simp [Nat.min_eq_left (Nat.le_of_lt hk)]
theorem filled_len {α : Type} {g : α → D} {z : D} {xs : List α} {k : Nat} (h : k ≤ xs.length) : (filled g z xs k).length = xs.length := by simp [filled]; omega
theorem filled_get {α : Type} {g : α → D} {z : D} {xs : List α} {k : Nat} (h : k < xs.length) : (filled g z xs k)[k]? = some z := by
  have e : ((xs.take k).map g).length = k := by rw [List.length_map, List.length_take]; omega
  unfold filled
  rw [List.getElem?_append_right (by omega), e, Nat.sub_self, List.getElem?_replicate, if_pos (by omega)]
theorem szColumn (x : Col) (hf : x.name.length ≤ maxLen) (left : Int) (h0 : 0 ≤ left) (h1 : left ≤ 1048576) : EntQ Tryz.prog 269 [.d (colD x), .d (.i .i64 left)] [] (fun R O => ∃ r, R = .d (.i .i64 r) ∧ O = [] ∧ r ≤ left ∧ (0 ≤ r → r + ((wColumn x : Nat) : Int) ≤ left)) := by
  have e1 := sub_small (n := x.name.length) h0 h1 hf
  refine ent_of tok mixed (f := 269) Tryz.func269 (by kernel_rfl) (keep := false) ?_
  repeat' ((conv => whnf) <;> (first
    | ((with_reducible refine isCall ?_) <;> (first
        | fail))
    | ((with_reducible refine isLoop ?_) <;> (first
        | fail))
    | ((with_reducible refine isCut ?_) <;> (first
        | refine ⟨⟨none⟩, ?_⟩))
    | ((first | with_reducible refine isEx ?_ | with_reducible refine isAnd ?_ | with_reducible refine isOr ?_) <;> (first
        | ((with_reducible refine isSmall ?_) <;> (refine ⟨?_, ?_⟩; kernel_rfl))
        | refine ⟨rfl, ?_⟩
        | refine ⟨Int.natCast_nonneg _, ?_⟩))
    | with_reducible refine Both.mk ?_ ?_
    | rintro _ rfl
    | exact rfl
    | (split <;> (rename_i h; first | (simp only [beq_self_eq_true, eq_self, decide_true, Bool.not_true, Bool.false_eq_true] at h; done) | (try rw [h])))))
  all_goals (conv => whnf)
  all_goals first
    | exact ⟨_, rfl, rfl, by omega, fun h => absurd h (by decide)⟩
    | exact ⟨_, rfl, rfl, by omega, fun _ => by show _ + ((0 : Nat) : Int) ≤ _; omega⟩
    | trace_state
theorem szValue (x : Val) (hf : x.text.length ≤ maxLen) (left : Int) (h0 : 0 ≤ left) (h1 : left ≤ 1048576) : EntQ Tryz.prog 203 [.d (valD x), .d (.i .i64 left)] [] (fun R O => ∃ r, R = .d (.i .i64 r) ∧ O = [] ∧ r ≤ left ∧ (0 ≤ r → r + ((wValue x : Nat) : Int) ≤ left)) := by
  have e1 := sub_small (n := x.text.length) h0 h1 hf
  refine ent_of tok mixed (f := 203) Tryz.func203 (by kernel_rfl) (keep := false) ?_
  repeat' ((conv => whnf) <;> (first
    | ((with_reducible refine isCall ?_) <;> (first
        | fail))
    | ((with_reducible refine isLoop ?_) <;> (first
        | fail))
    | ((with_reducible refine isCut ?_) <;> (first
        | refine ⟨⟨none⟩, ?_⟩))
    | ((first | with_reducible refine isEx ?_ | with_reducible refine isAnd ?_ | with_reducible refine isOr ?_) <;> (first
        | ((with_reducible refine isSmall ?_) <;> (refine ⟨?_, ?_⟩; kernel_rfl))
        | refine ⟨rfl, ?_⟩
        | refine ⟨Int.natCast_nonneg _, ?_⟩))
    | with_reducible refine Both.mk ?_ ?_
    | rintro _ rfl
    | exact rfl
    | (split <;> (rename_i h; first | (simp only [beq_self_eq_true, eq_self, decide_true, Bool.not_true, Bool.false_eq_true] at h; done) | (try rw [h])))))
  all_goals (conv => whnf)
  all_goals first
    | exact ⟨_, rfl, rfl, by omega, fun h => absurd h (by decide)⟩
    | exact ⟨_, rfl, rfl, by omega, fun _ => by show _ + ((0 : Nat) : Int) ≤ _; omega⟩
    | trace_state
theorem szInt64S (xs : List Int) (hl : xs.length ≤ maxLen) (left : Int) (h0 : 0 ≤ left) (h1 : left ≤ 1048576) : EntQ Tryz.prog 215 [.d (.sl false (xs.map i64D)), .d (.i .i64 left)] [] (fun R O => ∃ r, R = .d (.i .i64 r) ∧ O = [] ∧ r ≤ left ∧ (0 ≤ r → r + ((xs.length : Nat) : Int) ≤ left)) := by
  have e1 := sub_small (n := (xs.map i64D).length) h0 h1 (by rw [List.length_map]; exact hl)
  have hxl : (xs.map i64D).length = xs.length := List.length_map ..
  refine ent_of tok mixed (f := 215) Tryz.func215 (by kernel_rfl) (keep := false) ?_
  repeat' ((conv => whnf) <;> (first
    | ((with_reducible refine isCall ?_) <;> (first
        | fail))
    | ((with_reducible refine isLoop ?_) <;> (first
        | fail))
    | ((with_reducible refine isCut ?_) <;> (first
        | refine ⟨⟨none⟩, ?_⟩))
    | ((first | with_reducible refine isEx ?_ | with_reducible refine isAnd ?_ | with_reducible refine isOr ?_) <;> (first
        | ((with_reducible refine isSmall ?_) <;> (refine ⟨?_, ?_⟩; kernel_rfl))
        | refine ⟨rfl, ?_⟩
        | refine ⟨Int.natCast_nonneg _, ?_⟩))
    | with_reducible refine Both.mk ?_ ?_
    | rintro _ rfl
    | exact rfl
    | (split <;> (rename_i h; first | (simp only [beq_self_eq_true, eq_self, decide_true, Bool.not_true, Bool.false_eq_true] at h; done) | (try rw [h])))))
  all_goals (conv => whnf)
  all_goals first
    | exact ⟨_, rfl, rfl, by omega, fun h => absurd h (by decide)⟩
    | exact ⟨_, rfl, rfl, by omega, fun h => by omega⟩
    | trace_state
theorem szIndex (x : Idx) (hf : fitIdx x) (left : Int) (h0 : 0 ≤ left) (h1 : left ≤ 1048576) : EntQ Tryz.prog 270 [.d (idxD x), .d (.i .i64 left)] [] (fun R O => ∃ r, R = .d (.i .i64 r) ∧ O = [] ∧ r ≤ left ∧ (0 ≤ r → r + ((wIdx x : Nat) : Int) ≤ left)) := by
  have c1 := szInt64S x.cols hf left h0 h1
  refine ent_of tok mixed (f := 270) Tryz.func270 (by kernel_rfl) (keep := false) ?_
  repeat' ((conv => whnf) <;> (first
    | ((with_reducible refine isCall ?_) <;> (first
        | (refine ⟨_, c1, ?_⟩; rintro _ _ ⟨r, rfl, rfl, hr, hro⟩)
        | fail))
    | ((with_reducible refine isLoop ?_) <;> (first
        | fail))
    | ((with_reducible refine isCut ?_) <;> (first
        | refine ⟨⟨none⟩, ?_⟩))
    | ((first | with_reducible refine isEx ?_ | with_reducible refine isAnd ?_ | with_reducible refine isOr ?_) <;> (first
        | ((with_reducible refine isSmall ?_) <;> (refine ⟨?_, ?_⟩; kernel_rfl))
        | refine ⟨rfl, ?_⟩
        | refine ⟨Int.natCast_nonneg _, ?_⟩))
    | with_reducible refine Both.mk ?_ ?_
    | rintro _ rfl
    | exact rfl
    | (split <;> (rename_i h; first | (simp only [beq_self_eq_true, eq_self, decide_true, Bool.not_true, Bool.false_eq_true] at h; done) | (try rw [h])))))
  all_goals (conv => whnf)
  all_goals first
    | exact ⟨_, rfl, rfl, by omega, fun h => absurd h (by decide)⟩
    | exact ⟨_, rfl, rfl, hr, hro⟩
    | trace_state
set_option maxHeartbeats 1000000 in
theorem szColumnS (xs : List (Col)) (hl : xs.length ≤ maxLen) (hf : ∀ x, x ∈ xs → fitCol x) (left : Int) (h0 : 0 ≤ left) (h1 : left ≤ 1048576) : EntQ Tryz.prog 214 [.d (.sl false (xs.map colD)), .d (.i .i64 left)] [] (fun R O => ∃ r, R = .d (.i .i64 r) ∧ O = [] ∧ r ≤ left ∧ (0 ≤ r → r + ((wl wColumn xs : Nat) : Int) ≤ left)) := by
  have e1 := sub_small (n := (xs.map colD).length) h0 h1 (by rw [List.length_map]; exact hl)
  have hxl : (xs.map colD).length = xs.length := List.length_map ..
  refine ent_of tok mixed (f := 214) Tryz.func214 (by kernel_rfl) (keep := false) ?_
  repeat' ((conv => whnf) <;> (first
    | ((with_reducible refine isCall ?_) <;> (first
        | (refine ⟨_, c1, ?_⟩; rintro _ _ ⟨r, rfl, rfl, hr, hro⟩)
        | ((with_reducible refine isGet (xs := xs.map colD) (i := ((k : Nat) : Int).toNat) ?_); obtain ⟨x, hx⟩ := get_ex (ss := xs) (k := k) (lt_of_dec (by assumption)); have c1 := szColumn x (hf x (get_mem hx)) l hl2.1 (by omega); refine ⟨_, get_map' hx, ?_⟩)
        | fail))
    | ((with_reducible refine isLoop ?_) <;> (first
        | (refine ⟨[5, 1, 0], [], fun s => ∃ (k : Nat) (n l : Int), n = k ∧ k ≤ xs.length ∧ (0 ≤ l ∧ l + ((xs.length + wsum wColumn (xs.take k) : Nat) : Int) ≤ left) ∧ s = ⟨[(5, .d (.i .i64 n)), (1, .d (.i .i64 l)), (0, .d (.sl false (xs.map colD)))], []⟩, fun s => match look 5 s.env with | some (.d (.i _ n)) => xs.length - n.toNat | _ => 0, rfl, ⟨0, _, _, rfl, Nat.zero_le _, (by have := of_decide_eq_false (by assumption : decide (IntKind.i64.wrap (left - ((xs.map colD).length : Int)) < 0) = false); rw [wsum_zero]; omega), rfl⟩, ?_⟩; rintro s ⟨k, n, l, rfl, hk, hl2, rfl⟩)
        | ((with_reducible refine isGet (xs := xs.map colD) (i := ((k : Nat) : Int).toNat) ?_); obtain ⟨x, hx⟩ := get_ex (ss := xs) (k := k) (lt_of_dec (by assumption)); have c1 := szColumn x (hf x (get_mem hx)) l hl2.1 (by omega); refine ⟨_, get_map' hx, ?_⟩)
        | fail))
    | ((with_reducible refine isCut ?_) <;> (first
        | refine ⟨⟨none⟩, ?_⟩))
    | ((first | with_reducible refine isEx ?_ | with_reducible refine isAnd ?_ | with_reducible refine isOr ?_) <;> (first
        | ((with_reducible refine isGet (xs := xs.map colD) (i := ((k : Nat) : Int).toNat) ?_); obtain ⟨x, hx⟩ := get_ex (ss := xs) (k := k) (lt_of_dec (by assumption)); have c1 := szColumn x (hf x (get_mem hx)) l hl2.1 (by omega); refine ⟨_, get_map' hx, ?_⟩)
        | ((with_reducible refine isSmall ?_) <;> (refine ⟨?_, ?_⟩; kernel_rfl))
        | refine ⟨rfl, ?_⟩
        | refine ⟨Int.natCast_nonneg _, ?_⟩))
    | with_reducible refine Both.mk ?_ ?_
    | rintro _ rfl
    | exact rfl
    | (split <;> (rename_i h; first | (simp only [beq_self_eq_true, eq_self, decide_true, Bool.not_true, Bool.false_eq_true] at h; done) | (try rw [h])))))
  all_goals (conv => whnf)
  all_goals first
    | exact ⟨_, rfl, rfl, by omega, fun h => absurd h (by decide)⟩
    | (have hp := of_decide_eq_false (by assumption : decide (r < 0) = false)
       have hq := hro (by omega)
       exact ⟨⟨k + 1, _, _, step_up (get_lt hx) hl, get_lt hx, (by rw [wsum_up hx]; omega), rfl⟩, mu_up (get_lt hx) hl⟩)
    | (have e : k = xs.length := by have := of_decide_eq_false h; omega
       rw [e, List.take_length] at hl2
       exact ⟨_, rfl, rfl, by omega, fun h => hl2.2⟩)
    | trace_state
set_option maxHeartbeats 1000000 in
theorem szValueS (xs : List (Val)) (hl : xs.length ≤ maxLen) (hf : ∀ x, x ∈ xs → fitVal x) (left : Int) (h0 : 0 ≤ left) (h1 : left ≤ 1048576) : EntQ Tryz.prog 149 [.d (.sl false (xs.map valD)), .d (.i .i64 left)] [] (fun R O => ∃ r, R = .d (.i .i64 r) ∧ O = [] ∧ r ≤ left ∧ (0 ≤ r → r + ((wl wValue xs : Nat) : Int) ≤ left)) := by
  have e1 := sub_small (n := (xs.map valD).length) h0 h1 (by rw [List.length_map]; exact hl)
  have hxl : (xs.map valD).length = xs.length := List.length_map ..
  refine ent_of tok mixed (f := 149) Tryz.func149 (by kernel_rfl) (keep := false) ?_
  repeat' ((conv => whnf) <;> (first
    | ((with_reducible refine isCall ?_) <;> (first
        | (refine ⟨_, c1, ?_⟩; rintro _ _ ⟨r, rfl, rfl, hr, hro⟩)
        | ((with_reducible refine isGet (xs := xs.map valD) (i := ((k : Nat) : Int).toNat) ?_); obtain ⟨x, hx⟩ := get_ex (ss := xs) (k := k) (lt_of_dec (by assumption)); have c1 := szValue x (hf x (get_mem hx)) l hl2.1 (by omega); refine ⟨_, get_map' hx, ?_⟩)
        | fail))
    | ((with_reducible refine isLoop ?_) <;> (first
        | (refine ⟨[5, 1, 0], [], fun s => ∃ (k : Nat) (n l : Int), n = k ∧ k ≤ xs.length ∧ (0 ≤ l ∧ l + ((xs.length + wsum wValue (xs.take k) : Nat) : Int) ≤ left) ∧ s = ⟨[(5, .d (.i .i64 n)), (1, .d (.i .i64 l)), (0, .d (.sl false (xs.map valD)))], []⟩, fun s => match look 5 s.env with | some (.d (.i _ n)) => xs.length - n.toNat | _ => 0, rfl, ⟨0, _, _, rfl, Nat.zero_le _, (by have := of_decide_eq_false (by assumption : decide (IntKind.i64.wrap (left - ((xs.map valD).length : Int)) < 0) = false); rw [wsum_zero]; omega), rfl⟩, ?_⟩; rintro s ⟨k, n, l, rfl, hk, hl2, rfl⟩)
        | ((with_reducible refine isGet (xs := xs.map valD) (i := ((k : Nat) : Int).toNat) ?_); obtain ⟨x, hx⟩ := get_ex (ss := xs) (k := k) (lt_of_dec (by assumption)); have c1 := szValue x (hf x (get_mem hx)) l hl2.1 (by omega); refine ⟨_, get_map' hx, ?_⟩)
        | fail))
    | ((with_reducible refine isCut ?_) <;> (first
        | refine ⟨⟨none⟩, ?_⟩))
    | ((first | with_reducible refine isEx ?_ | with_reducible refine isAnd ?_ | with_reducible refine isOr ?_) <;> (first
        | ((with_reducible refine isGet (xs := xs.map valD) (i := ((k : Nat) : Int).toNat) ?_); obtain ⟨x, hx⟩ := get_ex (ss := xs) (k := k) (lt_of_dec (by assumption)); have c1 := szValue x (hf x (get_mem hx)) l hl2.1 (by omega); refine ⟨_, get_map' hx, ?_⟩)
        | ((with_reducible refine isSmall ?_) <;> (refine ⟨?_, ?_⟩; kernel_rfl))
        | refine ⟨rfl, ?_⟩
        | refine ⟨Int.natCast_nonneg _, ?_⟩))
    | with_reducible refine Both.mk ?_ ?_
    | rintro _ rfl
    | exact rfl
    | (split <;> (rename_i h; first | (simp only [beq_self_eq_true, eq_self, decide_true, Bool.not_true, Bool.false_eq_true] at h; done) | (try rw [h])))))
  all_goals (conv => whnf)
  all_goals first
    | exact ⟨_, rfl, rfl, by omega, fun h => absurd h (by decide)⟩
    | (have hp := of_decide_eq_false (by assumption : decide (r < 0) = false)
       have hq := hro (by omega)
       exact ⟨⟨k + 1, _, _, step_up (get_lt hx) hl, get_lt hx, (by rw [wsum_up hx]; omega), rfl⟩, mu_up (get_lt hx) hl⟩)
    | (have e : k = xs.length := by have := of_decide_eq_false h; omega
       rw [e, List.take_length] at hl2
       exact ⟨_, rfl, rfl, by omega, fun h => hl2.2⟩)
    | trace_state
set_option maxHeartbeats 1000000 in
theorem szIndexS (xs : List (Idx)) (hl : xs.length ≤ maxLen) (hf : ∀ x, x ∈ xs → fitIdx x) (left : Int) (h0 : 0 ≤ left) (h1 : left ≤ 1048576) : EntQ Tryz.prog 216 [.d (.sl false (xs.map idxD)), .d (.i .i64 left)] [] (fun R O => ∃ r, R = .d (.i .i64 r) ∧ O = [] ∧ r ≤ left ∧ (0 ≤ r → r + ((wl wIdx xs : Nat) : Int) ≤ left)) := by
  have e1 := sub_small (n := (xs.map idxD).length) h0 h1 (by rw [List.length_map]; exact hl)
  have hxl : (xs.map idxD).length = xs.length := List.length_map ..
  refine ent_of tok mixed (f := 216) Tryz.func216 (by kernel_rfl) (keep := false) ?_
  repeat' ((conv => whnf) <;> (first
    | ((with_reducible refine isCall ?_) <;> (first
        | (refine ⟨_, c1, ?_⟩; rintro _ _ ⟨r, rfl, rfl, hr, hro⟩)
        | ((with_reducible refine isGet (xs := xs.map idxD) (i := ((k : Nat) : Int).toNat) ?_); obtain ⟨x, hx⟩ := get_ex (ss := xs) (k := k) (lt_of_dec (by assumption)); have c1 := szIndex x (hf x (get_mem hx)) l hl2.1 (by omega); refine ⟨_, get_map' hx, ?_⟩)
        | fail))
    | ((with_reducible refine isLoop ?_) <;> (first
        | (refine ⟨[5, 1, 0], [], fun s => ∃ (k : Nat) (n l : Int), n = k ∧ k ≤ xs.length ∧ (0 ≤ l ∧ l + ((xs.length + wsum wIdx (xs.take k) : Nat) : Int) ≤ left) ∧ s = ⟨[(5, .d (.i .i64 n)), (1, .d (.i .i64 l)), (0, .d (.sl false (xs.map idxD)))], []⟩, fun s => match look 5 s.env with | some (.d (.i _ n)) => xs.length - n.toNat | _ => 0, rfl, ⟨0, _, _, rfl, Nat.zero_le _, (by have := of_decide_eq_false (by assumption : decide (IntKind.i64.wrap (left - ((xs.map idxD).length : Int)) < 0) = false); rw [wsum_zero]; omega), rfl⟩, ?_⟩; rintro s ⟨k, n, l, rfl, hk, hl2, rfl⟩)
        | ((with_reducible refine isGet (xs := xs.map idxD) (i := ((k : Nat) : Int).toNat) ?_); obtain ⟨x, hx⟩ := get_ex (ss := xs) (k := k) (lt_of_dec (by assumption)); have c1 := szIndex x (hf x (get_mem hx)) l hl2.1 (by omega); refine ⟨_, get_map' hx, ?_⟩)
        | fail))
    | ((with_reducible refine isCut ?_) <;> (first
        | refine ⟨⟨none⟩, ?_⟩))
    | ((first | with_reducible refine isEx ?_ | with_reducible refine isAnd ?_ | with_reducible refine isOr ?_) <;> (first
        | ((with_reducible refine isGet (xs := xs.map idxD) (i := ((k : Nat) : Int).toNat) ?_); obtain ⟨x, hx⟩ := get_ex (ss := xs) (k := k) (lt_of_dec (by assumption)); have c1 := szIndex x (hf x (get_mem hx)) l hl2.1 (by omega); refine ⟨_, get_map' hx, ?_⟩)
        | ((with_reducible refine isSmall ?_) <;> (refine ⟨?_, ?_⟩; kernel_rfl))
        | refine ⟨rfl, ?_⟩
        | refine ⟨Int.natCast_nonneg _, ?_⟩))
    | with_reducible refine Both.mk ?_ ?_
    | rintro _ rfl
    | exact rfl
    | (split <;> (rename_i h; first | (simp only [beq_self_eq_true, eq_self, decide_true, Bool.not_true, Bool.false_eq_true] at h; done) | (try rw [h])))))
  all_goals (conv => whnf)
  all_goals first
    | exact ⟨_, rfl, rfl, by omega, fun h => absurd h (by decide)⟩
    | (have hp := of_decide_eq_false (by assumption : decide (r < 0) = false)
       have hq := hro (by omega)
       exact ⟨⟨k + 1, _, _, step_up (get_lt hx) hl, get_lt hx, (by rw [wsum_up hx]; omega), rfl⟩, mu_up (get_lt hx) hl⟩)
    | (have e : k = xs.length := by have := of_decide_eq_false h; omega
       rw [e, List.take_length] at hl2
       exact ⟨_, rfl, rfl, by omega, fun h => hl2.2⟩)
    | trace_state
theorem szRowOf (x : List Val) (hf : fitRow x) (left : Int) (h0 : 0 ≤ left) (h1 : left ≤ 1048576) : EntQ Tryz.prog 149 [.d (rowD x), .d (.i .i64 left)] [] (fun R O => ∃ r, R = .d (.i .i64 r) ∧ O = [] ∧ r ≤ left ∧ (0 ≤ r → r + ((wRow x : Nat) : Int) ≤ left)) := szValueS x hf.1 hf.2 left h0 h1
set_option maxHeartbeats 1000000 in
theorem szValueSS (xs : List (List Val)) (hl : xs.length ≤ maxLen) (hf : ∀ x, x ∈ xs → fitRow x) (left : Int) (h0 : 0 ≤ left) (h1 : left ≤ 1048576) : EntQ Tryz.prog 174 [.d (.sl false (xs.map rowD)), .d (.i .i64 left)] [] (fun R O => ∃ r, R = .d (.i .i64 r) ∧ O = [] ∧ r ≤ left ∧ (0 ≤ r → r + ((wl wRow xs : Nat) : Int) ≤ left)) := by
  have e1 := sub_small (n := (xs.map rowD).length) h0 h1 (by rw [List.length_map]; exact hl)
  have hxl : (xs.map rowD).length = xs.length := List.length_map ..
  refine ent_of tok mixed (f := 174) Tryz.func174 (by kernel_rfl) (keep := false) ?_
  repeat' ((conv => whnf) <;> (first
    | ((with_reducible refine isCall ?_) <;> (first
        | (refine ⟨_, c1, ?_⟩; rintro _ _ ⟨r, rfl, rfl, hr, hro⟩)
        | ((with_reducible refine isGet (xs := xs.map rowD) (i := ((k : Nat) : Int).toNat) ?_); obtain ⟨x, hx⟩ := get_ex (ss := xs) (k := k) (lt_of_dec (by assumption)); have c1 := szRowOf x (hf x (get_mem hx)) l hl2.1 (by omega); refine ⟨_, get_map' hx, ?_⟩)
        | fail))
    | ((with_reducible refine isLoop ?_) <;> (first
        | (refine ⟨[5, 1, 0], [], fun s => ∃ (k : Nat) (n l : Int), n = k ∧ k ≤ xs.length ∧ (0 ≤ l ∧ l + ((xs.length + wsum wRow (xs.take k) : Nat) : Int) ≤ left) ∧ s = ⟨[(5, .d (.i .i64 n)), (1, .d (.i .i64 l)), (0, .d (.sl false (xs.map rowD)))], []⟩, fun s => match look 5 s.env with | some (.d (.i _ n)) => xs.length - n.toNat | _ => 0, rfl, ⟨0, _, _, rfl, Nat.zero_le _, (by have := of_decide_eq_false (by assumption : decide (IntKind.i64.wrap (left - ((xs.map rowD).length : Int)) < 0) = false); rw [wsum_zero]; omega), rfl⟩, ?_⟩; rintro s ⟨k, n, l, rfl, hk, hl2, rfl⟩)
        | ((with_reducible refine isGet (xs := xs.map rowD) (i := ((k : Nat) : Int).toNat) ?_); obtain ⟨x, hx⟩ := get_ex (ss := xs) (k := k) (lt_of_dec (by assumption)); have c1 := szRowOf x (hf x (get_mem hx)) l hl2.1 (by omega); refine ⟨_, get_map' hx, ?_⟩)
        | fail))
    | ((with_reducible refine isCut ?_) <;> (first
        | refine ⟨⟨none⟩, ?_⟩))
    | ((first | with_reducible refine isEx ?_ | with_reducible refine isAnd ?_ | with_reducible refine isOr ?_) <;> (first
        | ((with_reducible refine isGet (xs := xs.map rowD) (i := ((k : Nat) : Int).toNat) ?_); obtain ⟨x, hx⟩ := get_ex (ss := xs) (k := k) (lt_of_dec (by assumption)); have c1 := szRowOf x (hf x (get_mem hx)) l hl2.1 (by omega); refine ⟨_, get_map' hx, ?_⟩)
        | ((with_reducible refine isSmall ?_) <;> (refine ⟨?_, ?_⟩; kernel_rfl))
        | refine ⟨rfl, ?_⟩
        | refine ⟨Int.natCast_nonneg _, ?_⟩))
    | with_reducible refine Both.mk ?_ ?_
    | rintro _ rfl
    | exact rfl
    | (split <;> (rename_i h; first | (simp only [beq_self_eq_true, eq_self, decide_true, Bool.not_true, Bool.false_eq_true] at h; done) | (try rw [h])))))
  all_goals (conv => whnf)
  all_goals first
    | exact ⟨_, rfl, rfl, by omega, fun h => absurd h (by decide)⟩
    | (have hp := of_decide_eq_false (by assumption : decide (r < 0) = false)
       have hq := hro (by omega)
       exact ⟨⟨k + 1, _, _, step_up (get_lt hx) hl, get_lt hx, (by rw [wsum_up hx]; omega), rfl⟩, mu_up (get_lt hx) hl⟩)
    | (have e : k = xs.length := by have := of_decide_eq_false h; omega
       rw [e, List.take_length] at hl2
       exact ⟨_, rfl, rfl, by omega, fun h => hl2.2⟩)
    | trace_state
set_option maxHeartbeats 1000000 in
theorem szSchema (x : Schema) (hf : x.fits) (left : Int) (h0 : 0 ≤ left) (h1 : left ≤ 1048576) : EntQ Tryz.prog 148 [.d (schemaD x), .d (.i .i64 left)] [] (fun R O => ∃ r, R = .d (.i .i64 r) ∧ O = [] ∧ r ≤ left ∧ (0 ≤ r → r + ((wSch x : Nat) : Int) ≤ left)) := by
  have e1 := sub_small (n := x.name.length) h0 h1 hf.name
  refine ent_of tok mixed (f := 148) Tryz.func148 (by kernel_rfl) (keep := false) ?_
  repeat' ((conv => whnf) <;> (first
    | ((with_reducible refine isCall ?_) <;> (first
        | (refine ⟨_, szColumnS x.cols hf.cols hf.names _ (Int.not_lt.1 (of_decide_eq_false (by assumption))) (by omega), ?_⟩; rintro _ _ ⟨r1, rfl, rfl, hr1, ho1⟩)
        | (refine ⟨_, szInt64S x.keys hf.keys _ (Int.not_lt.1 (of_decide_eq_false (by assumption))) (by omega), ?_⟩; rintro _ _ ⟨r2, rfl, rfl, hr2, ho2⟩)
        | (refine ⟨_, szIndexS x.idxs hf.idxs hf.lists _ (Int.not_lt.1 (of_decide_eq_false (by assumption))) (by omega), ?_⟩; rintro _ _ ⟨r3, rfl, rfl, hr3, ho3⟩)
        | fail))
    | ((with_reducible refine isLoop ?_) <;> (first
        | fail))
    | ((with_reducible refine isCut ?_) <;> (first
        | refine ⟨⟨none⟩, ?_⟩))
    | ((first | with_reducible refine isEx ?_ | with_reducible refine isAnd ?_ | with_reducible refine isOr ?_) <;> (first
        | ((with_reducible refine isSmall ?_) <;> (refine ⟨?_, ?_⟩; kernel_rfl))
        | refine ⟨rfl, ?_⟩
        | refine ⟨Int.natCast_nonneg _, ?_⟩))
    | with_reducible refine Both.mk ?_ ?_
    | rintro _ rfl
    | exact rfl
    | (split <;> (rename_i h; first | (simp only [beq_self_eq_true, eq_self, decide_true, Bool.not_true, Bool.false_eq_true] at h; done) | (try rw [h])))))
  all_goals (conv => whnf)
  all_goals first
    | exact ⟨_, rfl, rfl, by omega, fun h => absurd h (by decide)⟩
    | exact ⟨_, rfl, rfl, by omega, fun h => by have q1 := ho1 (by omega); have q2 := ho2 (by omega); have q3 := ho3 (by omega); unfold wSch; omega⟩
    | trace_state
set_option maxHeartbeats 1000000 in
theorem szTable (x : Tab) (hf : x.fit2) (left : Int) (h0 : 0 ≤ left) (h1 : left ≤ 1048576) : EntQ Tryz.prog 98 [.d (tabD x), .d (.i .i64 left)] [] (fun R O => ∃ r, R = .d (.i .i64 r) ∧ O = [] ∧ r ≤ left ∧ (0 ≤ r → r + ((wTab x : Nat) : Int) ≤ left)) := by
  refine ent_of tok mixed (f := 98) Tryz.func98 (by kernel_rfl) (keep := false) ?_
  repeat' ((conv => whnf) <;> (first
    | ((with_reducible refine isCall ?_) <;> (first
        | (refine ⟨_, szSchema x.sch hf.sch left h0 h1, ?_⟩; rintro _ _ ⟨r1, rfl, rfl, hr1, ho1⟩)
        | (refine ⟨_, szValueSS x.rows hf.rows hf.row _ (Int.not_lt.1 (of_decide_eq_false (by assumption))) (by omega), ?_⟩; rintro _ _ ⟨r2, rfl, rfl, hr2, ho2⟩)
        | fail))
    | ((with_reducible refine isLoop ?_) <;> (first
        | fail))
    | ((with_reducible refine isCut ?_) <;> (first
        | refine ⟨⟨none⟩, ?_⟩))
    | ((first | with_reducible refine isEx ?_ | with_reducible refine isAnd ?_ | with_reducible refine isOr ?_) <;> (first
        | ((with_reducible refine isSmall ?_) <;> (refine ⟨?_, ?_⟩; kernel_rfl))
        | refine ⟨rfl, ?_⟩
        | refine ⟨Int.natCast_nonneg _, ?_⟩))
    | with_reducible refine Both.mk ?_ ?_
    | rintro _ rfl
    | exact rfl
    | (split <;> (rename_i h; first | (simp only [beq_self_eq_true, eq_self, decide_true, Bool.not_true, Bool.false_eq_true] at h; done) | (try rw [h])))))
  all_goals (conv => whnf)
  all_goals first
    | exact ⟨_, rfl, rfl, by omega, fun h => absurd h (by decide)⟩
    | exact ⟨_, rfl, rfl, by omega, fun h => by have q1 := ho1 (by omega); have q2 := ho2 (by omega); unfold wTab; omega⟩
    | trace_state
set_option maxHeartbeats 1000000 in
theorem szTableS (xs : List (Tab)) (hl : xs.length ≤ maxLen) (hf : ∀ x, x ∈ xs → Tab.fit2 x) (left : Int) (h0 : 0 ≤ left) (h1 : left ≤ 1048576) : EntQ Tryz.prog 42 [.d (.sl false (xs.map tabD)), .d (.i .i64 left)] [] (fun R O => ∃ r, R = .d (.i .i64 r) ∧ O = [] ∧ r ≤ left ∧ (0 ≤ r → r + ((wl wTab xs : Nat) : Int) ≤ left)) := by
  have e1 := sub_small (n := (xs.map tabD).length) h0 h1 (by rw [List.length_map]; exact hl)
  have hxl : (xs.map tabD).length = xs.length := List.length_map ..
  refine ent_of tok mixed (f := 42) Tryz.func42 (by kernel_rfl) (keep := false) ?_
  repeat' ((conv => whnf) <;> (first
    | ((with_reducible refine isCall ?_) <;> (first
        | (refine ⟨_, c1, ?_⟩; rintro _ _ ⟨r, rfl, rfl, hr, hro⟩)
        | ((with_reducible refine isGet (xs := xs.map tabD) (i := ((k : Nat) : Int).toNat) ?_); obtain ⟨x, hx⟩ := get_ex (ss := xs) (k := k) (lt_of_dec (by assumption)); have c1 := szTable x (hf x (get_mem hx)) l hl2.1 (by omega); refine ⟨_, get_map' hx, ?_⟩)
        | fail))
    | ((with_reducible refine isLoop ?_) <;> (first
        | (refine ⟨[5, 1, 0], [], fun s => ∃ (k : Nat) (n l : Int), n = k ∧ k ≤ xs.length ∧ (0 ≤ l ∧ l + ((xs.length + wsum wTab (xs.take k) : Nat) : Int) ≤ left) ∧ s = ⟨[(5, .d (.i .i64 n)), (1, .d (.i .i64 l)), (0, .d (.sl false (xs.map tabD)))], []⟩, fun s => match look 5 s.env with | some (.d (.i _ n)) => xs.length - n.toNat | _ => 0, rfl, ⟨0, _, _, rfl, Nat.zero_le _, (by have := of_decide_eq_false (by assumption : decide (IntKind.i64.wrap (left - ((xs.map tabD).length : Int)) < 0) = false); rw [wsum_zero]; omega), rfl⟩, ?_⟩; rintro s ⟨k, n, l, rfl, hk, hl2, rfl⟩)
        | ((with_reducible refine isGet (xs := xs.map tabD) (i := ((k : Nat) : Int).toNat) ?_); obtain ⟨x, hx⟩ := get_ex (ss := xs) (k := k) (lt_of_dec (by assumption)); have c1 := szTable x (hf x (get_mem hx)) l hl2.1 (by omega); refine ⟨_, get_map' hx, ?_⟩)
        | fail))
    | ((with_reducible refine isCut ?_) <;> (first
        | refine ⟨⟨none⟩, ?_⟩))
    | ((first | with_reducible refine isEx ?_ | with_reducible refine isAnd ?_ | with_reducible refine isOr ?_) <;> (first
        | ((with_reducible refine isGet (xs := xs.map tabD) (i := ((k : Nat) : Int).toNat) ?_); obtain ⟨x, hx⟩ := get_ex (ss := xs) (k := k) (lt_of_dec (by assumption)); have c1 := szTable x (hf x (get_mem hx)) l hl2.1 (by omega); refine ⟨_, get_map' hx, ?_⟩)
        | ((with_reducible refine isSmall ?_) <;> (refine ⟨?_, ?_⟩; kernel_rfl))
        | refine ⟨rfl, ?_⟩
        | refine ⟨Int.natCast_nonneg _, ?_⟩))
    | with_reducible refine Both.mk ?_ ?_
    | rintro _ rfl
    | exact rfl
    | (split <;> (rename_i h; first | (simp only [beq_self_eq_true, eq_self, decide_true, Bool.not_true, Bool.false_eq_true] at h; done) | (try rw [h])))))
  all_goals (conv => whnf)
  all_goals first
    | exact ⟨_, rfl, rfl, by omega, fun h => absurd h (by decide)⟩
    | (have hp := of_decide_eq_false (by assumption : decide (r < 0) = false)
       have hq := hro (by omega)
       exact ⟨⟨k + 1, _, _, step_up (get_lt hx) hl, get_lt hx, (by rw [wsum_up hx]; omega), rfl⟩, mu_up (get_lt hx) hl⟩)
    | (have e : k = xs.length := by have := of_decide_eq_false h; omega
       rw [e, List.take_length] at hl2
       exact ⟨_, rfl, rfl, by omega, fun h => hl2.2⟩)
    | trace_state
theorem szDb (xs : List Tab) (hl : xs.length ≤ maxLen) (hf : ∀ x, x ∈ xs → x.fit2) : EntQ Tryz.prog 9 [.d (.agg [.sl false (xs.map tabD)]), .d (.i .i64 1048576)] [] (fun R O => ∃ r, R = .d (.i .i64 r) ∧ O = [] ∧ (0 ≤ r → wl wTab xs ≤ 1048576)) := by
  have c1 := szTableS xs hl hf 1048576 (by decide) (by decide)
  refine ent_of tok mixed (f := 9) Tryz.func9 (by kernel_rfl) (keep := false) ?_
  repeat' ((conv => whnf) <;> (first
    | ((with_reducible refine isCall ?_) <;> (first
        | (refine ⟨_, c1, ?_⟩; rintro _ _ ⟨r, rfl, rfl, hr, hro⟩)
        | fail))
    | ((with_reducible refine isLoop ?_) <;> (first
        | fail))
    | ((with_reducible refine isCut ?_) <;> (first
        | refine ⟨⟨none⟩, ?_⟩))
    | ((first | with_reducible refine isEx ?_ | with_reducible refine isAnd ?_ | with_reducible refine isOr ?_) <;> (first
        | ((with_reducible refine isSmall ?_) <;> (refine ⟨?_, ?_⟩; kernel_rfl))
        | refine ⟨rfl, ?_⟩
        | refine ⟨Int.natCast_nonneg _, ?_⟩))
    | with_reducible refine Both.mk ?_ ?_
    | rintro _ rfl
    | exact rfl
    | (split <;> (rename_i h; first | (simp only [beq_self_eq_true, eq_self, decide_true, Bool.not_true, Bool.false_eq_true] at h; done) | (try rw [h])))))
  all_goals (conv => whnf)
  all_goals first
    | exact ⟨_, rfl, rfl, fun h => absurd h (by decide)⟩
    | exact ⟨_, rfl, rfl, fun h => by have := hro h; omega⟩
    | trace_state
theorem toColumn (x : Col) : Ent Tryz.prog 274 [.d (colD x)] [] (.d (colD x)) [] := by
  refine ent_of tok mixed (f := 274) Tryz.func274 (by kernel_rfl) (keep := false) ?_
  repeat' ((conv => whnf) <;> (first
    | ((with_reducible refine isCall ?_) <;> (first
        | fail))
    | ((with_reducible refine isLoop ?_) <;> (first
        | fail))
    | ((with_reducible refine isCut ?_) <;> (first
        | refine ⟨⟨none⟩, ?_⟩))
    | ((first | with_reducible refine isEx ?_ | with_reducible refine isAnd ?_ | with_reducible refine isOr ?_) <;> (first
        | ((with_reducible refine isSmall ?_) <;> (refine ⟨?_, ?_⟩; kernel_rfl))
        | refine ⟨rfl, ?_⟩
        | refine ⟨Int.natCast_nonneg _, ?_⟩))
    | with_reducible refine Both.mk ?_ ?_
    | rintro _ rfl
    | exact rfl
    | (split <;> (rename_i h; first | (simp only [beq_self_eq_true, eq_self, decide_true, Bool.not_true, Bool.false_eq_true] at h; done) | (try rw [h])))))
theorem toValue (x : Val) : Ent Tryz.prog 207 [.d (valD x)] [] (.d (valD x)) [] := by
  refine ent_of tok mixed (f := 207) Tryz.func207 (by kernel_rfl) (keep := false) ?_
  repeat' ((conv => whnf) <;> (first
    | ((with_reducible refine isCall ?_) <;> (first
        | fail))
    | ((with_reducible refine isLoop ?_) <;> (first
        | fail))
    | ((with_reducible refine isCut ?_) <;> (first
        | refine ⟨⟨none⟩, ?_⟩))
    | ((first | with_reducible refine isEx ?_ | with_reducible refine isAnd ?_ | with_reducible refine isOr ?_) <;> (first
        | ((with_reducible refine isSmall ?_) <;> (refine ⟨?_, ?_⟩; kernel_rfl))
        | refine ⟨rfl, ?_⟩
        | refine ⟨Int.natCast_nonneg _, ?_⟩))
    | with_reducible refine Both.mk ?_ ?_
    | rintro _ rfl
    | exact rfl
    | (split <;> (rename_i h; first | (simp only [beq_self_eq_true, eq_self, decide_true, Bool.not_true, Bool.false_eq_true] at h; done) | (try rw [h])))))
set_option maxHeartbeats 4000000 in
theorem toInt64S (xs : List (Int)) (hl : xs.length ≤ 1048576) : Ent Tryz.prog 224 [.d (.sl false (xs.map i64D))] [] (.own 0) [.arr 1 false (xs.map i64D)] := by
  have hm : xs.length ≤ maxLen := Nat.le_trans hl (by decide)
  have hxl : (xs.map i64D).length = xs.length := List.length_map ..
  refine ent_of (cx := ⟨tab, [], []⟩) tok mixed (f := 224) Tryz.func224 (by kernel_rfl) (keep := true) ?_
  repeat' ((conv => whnf) <;> (first
    | ((with_reducible refine isCall ?_) <;> (first
        | ((with_reducible refine isGet (xs := xs.map i64D) (i := ((k : Nat) : Int).toNat) ?_); obtain ⟨x, hx⟩ := get_ex (ss := xs) (k := k) (lt_of_dec (by assumption)); refine ⟨_, get_map' hx, ?_⟩)
        | refine ⟨⟨rfl, Int.natCast_nonneg _, (by rw [List.length_map]; show (xs.length : Int) * ((8 : Nat) : Int) ≤ 281474976710656; omega), (by rw [List.length_map]; have : ((maxLen : Nat) : Int) = 9223372036854775807 := rfl; omega)⟩, ?_⟩
        | refine ⟨⟨(by rw [hz]; show k < _; rw [filled_len hk]; exact get_lt hx), rfl⟩, ?_⟩
        | refine ⟨⟨Int.natCast_nonneg _, (by rw [hz, filled_len hk]; have := get_lt hx; omega)⟩, ?_⟩
        | fail))
    | ((with_reducible refine isLoop ?_) <;> (first
        | (refine ⟨[4, 3, 0], [10007], fun s => ∃ (k : Nat) (n : Int) (zs : List D), n = k ∧ k ≤ xs.length ∧ zs = filled i64D (.i .i64 (Int.ofNat 0)) xs k ∧ s = ⟨[(4, .d (.i .i64 n)), (3, .own 10007), (0, .d (.sl false (xs.map i64D)))], [(10007, .arr 1 false zs)]⟩, fun s => match look 4 s.env with | some (.d (.i _ n)) => xs.length - n.toNat | _ => 0, rfl, ⟨0, _, _, rfl, Nat.zero_le _, ?_, rfl⟩, ?_⟩; rotate_left; rintro s ⟨k, n, zs, rfl, hk, hz, rfl⟩)
        | ((with_reducible refine isGet (xs := xs.map i64D) (i := ((k : Nat) : Int).toNat) ?_); obtain ⟨x, hx⟩ := get_ex (ss := xs) (k := k) (lt_of_dec (by assumption)); refine ⟨_, get_map' hx, ?_⟩)
        | refine ⟨⟨rfl, Int.natCast_nonneg _, (by rw [List.length_map]; show (xs.length : Int) * ((8 : Nat) : Int) ≤ 281474976710656; omega), (by rw [List.length_map]; have : ((maxLen : Nat) : Int) = 9223372036854775807 := rfl; omega)⟩, ?_⟩
        | refine ⟨⟨(by rw [hz]; show k < _; rw [filled_len hk]; exact get_lt hx), rfl⟩, ?_⟩
        | refine ⟨⟨Int.natCast_nonneg _, (by rw [hz, filled_len hk]; have := get_lt hx; omega)⟩, ?_⟩
        | fail))
    | ((with_reducible refine isCut ?_) <;> (first
        | refine ⟨⟨none⟩, ?_⟩))
    | ((first | with_reducible refine isEx ?_ | with_reducible refine isAnd ?_ | with_reducible refine isOr ?_) <;> (first
        | ((with_reducible refine isGet (xs := xs.map i64D) (i := ((k : Nat) : Int).toNat) ?_); obtain ⟨x, hx⟩ := get_ex (ss := xs) (k := k) (lt_of_dec (by assumption)); refine ⟨_, get_map' hx, ?_⟩)
        | refine ⟨⟨rfl, Int.natCast_nonneg _, (by rw [List.length_map]; show (xs.length : Int) * ((8 : Nat) : Int) ≤ 281474976710656; omega), (by rw [List.length_map]; have : ((maxLen : Nat) : Int) = 9223372036854775807 := rfl; omega)⟩, ?_⟩
        | refine ⟨⟨(by rw [hz]; show k < _; rw [filled_len hk]; exact get_lt hx), rfl⟩, ?_⟩
        | refine ⟨⟨Int.natCast_nonneg _, (by rw [hz, filled_len hk]; have := get_lt hx; omega)⟩, ?_⟩
        | ((with_reducible refine isSmall ?_) <;> (refine ⟨?_, ?_⟩; kernel_rfl))
        | refine ⟨rfl, ?_⟩
        | refine ⟨Int.natCast_nonneg _, ?_⟩))
    | with_reducible refine Both.mk ?_ ?_
    | rintro _ rfl
    | exact rfl
    | (split <;> (rename_i h; first | (simp only [beq_self_eq_true, eq_self, decide_true, Bool.not_true, Bool.false_eq_true] at h; done) | (try rw [h])))))
  all_goals (conv => whnf)
  all_goals first
    | exact ⟨⟨k + 1, _, _, step_up (get_lt hx) hm, get_lt hx, (by rw [hz]; exact filled_up hx), rfl⟩, mu_up (get_lt hx) hm⟩
    | (have e : k = xs.length := by have := of_decide_eq_false h; omega
       rw [hz, e, filled_all]; rfl)
    | (show List.replicate (xs.map i64D).length _ = _
       rw [List.length_map]; exact filled_zero _ _ _)
    | trace_state
set_option maxHeartbeats 4000000 in
theorem toColumnS (xs : List (Col)) (hl : xs.length ≤ 1048576) : Ent Tryz.prog 223 [.d (.sl false (xs.map colD))] [] (.own 0) [.arr 3 false (xs.map colD)] := by
  have hm : xs.length ≤ maxLen := Nat.le_trans hl (by decide)
  have hxl : (xs.map colD).length = xs.length := List.length_map ..
  refine ent_of (cx := ⟨tab, [], []⟩) tok mixed (f := 223) Tryz.func223 (by kernel_rfl) (keep := true) ?_
  repeat' ((conv => whnf) <;> (first
    | ((with_reducible refine isCall ?_) <;> (first
        | (refine ⟨_, toColumn x, ?_⟩; rintro _ _ ⟨rfl, rfl⟩)
        | ((with_reducible refine isGet (xs := xs.map colD) (i := ((k : Nat) : Int).toNat) ?_); obtain ⟨x, hx⟩ := get_ex (ss := xs) (k := k) (lt_of_dec (by assumption)); refine ⟨_, get_map' hx, ?_⟩)
        | refine ⟨⟨rfl, Int.natCast_nonneg _, (by rw [List.length_map]; show (xs.length : Int) * ((32 : Nat) : Int) ≤ 281474976710656; omega), (by rw [List.length_map]; have : ((maxLen : Nat) : Int) = 9223372036854775807 := rfl; omega)⟩, ?_⟩
        | refine ⟨⟨(by rw [hz]; show k < _; rw [filled_len hk]; exact get_lt hx), rfl⟩, ?_⟩
        | refine ⟨⟨Int.natCast_nonneg _, (by rw [hz, filled_len hk]; have := get_lt hx; omega)⟩, ?_⟩
        | fail))
    | ((with_reducible refine isLoop ?_) <;> (first
        | (refine ⟨[4, 3, 0], [10007], fun s => ∃ (k : Nat) (n : Int) (zs : List D), n = k ∧ k ≤ xs.length ∧ zs = filled colD (.agg [.s [], .i .i64 (Int.ofNat 0), .b false]) xs k ∧ s = ⟨[(4, .d (.i .i64 n)), (3, .own 10007), (0, .d (.sl false (xs.map colD)))], [(10007, .arr 3 false zs)]⟩, fun s => match look 4 s.env with | some (.d (.i _ n)) => xs.length - n.toNat | _ => 0, rfl, ⟨0, _, _, rfl, Nat.zero_le _, ?_, rfl⟩, ?_⟩; rotate_left; rintro s ⟨k, n, zs, rfl, hk, hz, rfl⟩)
        | ((with_reducible refine isGet (xs := xs.map colD) (i := ((k : Nat) : Int).toNat) ?_); obtain ⟨x, hx⟩ := get_ex (ss := xs) (k := k) (lt_of_dec (by assumption)); refine ⟨_, get_map' hx, ?_⟩)
        | refine ⟨⟨rfl, Int.natCast_nonneg _, (by rw [List.length_map]; show (xs.length : Int) * ((32 : Nat) : Int) ≤ 281474976710656; omega), (by rw [List.length_map]; have : ((maxLen : Nat) : Int) = 9223372036854775807 := rfl; omega)⟩, ?_⟩
        | refine ⟨⟨(by rw [hz]; show k < _; rw [filled_len hk]; exact get_lt hx), rfl⟩, ?_⟩
        | refine ⟨⟨Int.natCast_nonneg _, (by rw [hz, filled_len hk]; have := get_lt hx; omega)⟩, ?_⟩
        | fail))
    | ((with_reducible refine isCut ?_) <;> (first
        | refine ⟨⟨none⟩, ?_⟩))
    | ((first | with_reducible refine isEx ?_ | with_reducible refine isAnd ?_ | with_reducible refine isOr ?_) <;> (first
        | ((with_reducible refine isGet (xs := xs.map colD) (i := ((k : Nat) : Int).toNat) ?_); obtain ⟨x, hx⟩ := get_ex (ss := xs) (k := k) (lt_of_dec (by assumption)); refine ⟨_, get_map' hx, ?_⟩)
        | refine ⟨⟨rfl, Int.natCast_nonneg _, (by rw [List.length_map]; show (xs.length : Int) * ((32 : Nat) : Int) ≤ 281474976710656; omega), (by rw [List.length_map]; have : ((maxLen : Nat) : Int) = 9223372036854775807 := rfl; omega)⟩, ?_⟩
        | refine ⟨⟨(by rw [hz]; show k < _; rw [filled_len hk]; exact get_lt hx), rfl⟩, ?_⟩
        | refine ⟨⟨Int.natCast_nonneg _, (by rw [hz, filled_len hk]; have := get_lt hx; omega)⟩, ?_⟩
        | ((with_reducible refine isSmall ?_) <;> (refine ⟨?_, ?_⟩; kernel_rfl))
        | refine ⟨rfl, ?_⟩
        | refine ⟨Int.natCast_nonneg _, ?_⟩))
    | with_reducible refine Both.mk ?_ ?_
    | rintro _ rfl
    | exact rfl
    | (split <;> (rename_i h; first | (simp only [beq_self_eq_true, eq_self, decide_true, Bool.not_true, Bool.false_eq_true] at h; done) | (try rw [h])))))
  all_goals (conv => whnf)
  all_goals first
    | exact ⟨⟨k + 1, _, _, step_up (get_lt hx) hm, get_lt hx, (by rw [hz]; exact filled_up hx), rfl⟩, mu_up (get_lt hx) hm⟩
    | (have e : k = xs.length := by have := of_decide_eq_false h; omega
       rw [hz, e, filled_all]; rfl)
    | (show List.replicate (xs.map colD).length _ = _
       rw [List.length_map]; exact filled_zero _ _ _)
    | trace_state
set_option maxHeartbeats 4000000 in
theorem toValueS (xs : List (Val)) (hl : xs.length ≤ 1048576) : Ent Tryz.prog 154 [.d (.sl false (xs.map valD))] [] (.own 0) [.arr 3 false (xs.map valD)] := by
  have hm : xs.length ≤ maxLen := Nat.le_trans hl (by decide)
  have hxl : (xs.map valD).length = xs.length := List.length_map ..
  refine ent_of (cx := ⟨tab, [], []⟩) tok mixed (f := 154) Tryz.func154 (by kernel_rfl) (keep := true) ?_
  repeat' ((conv => whnf) <;> (first
    | ((with_reducible refine isCall ?_) <;> (first
        | (refine ⟨_, toValue x, ?_⟩; rintro _ _ ⟨rfl, rfl⟩)
        | ((with_reducible refine isGet (xs := xs.map valD) (i := ((k : Nat) : Int).toNat) ?_); obtain ⟨x, hx⟩ := get_ex (ss := xs) (k := k) (lt_of_dec (by assumption)); refine ⟨_, get_map' hx, ?_⟩)
        | refine ⟨⟨rfl, Int.natCast_nonneg _, (by rw [List.length_map]; show (xs.length : Int) * ((32 : Nat) : Int) ≤ 281474976710656; omega), (by rw [List.length_map]; have : ((maxLen : Nat) : Int) = 9223372036854775807 := rfl; omega)⟩, ?_⟩
        | refine ⟨⟨(by rw [hz]; show k < _; rw [filled_len hk]; exact get_lt hx), rfl⟩, ?_⟩
        | refine ⟨⟨Int.natCast_nonneg _, (by rw [hz, filled_len hk]; have := get_lt hx; omega)⟩, ?_⟩
        | fail))
    | ((with_reducible refine isLoop ?_) <;> (first
        | (refine ⟨[4, 3, 0], [10007], fun s => ∃ (k : Nat) (n : Int) (zs : List D), n = k ∧ k ≤ xs.length ∧ zs = filled valD (.agg [.i .i64 (Int.ofNat 0), .i .i64 (Int.ofNat 0), .s []]) xs k ∧ s = ⟨[(4, .d (.i .i64 n)), (3, .own 10007), (0, .d (.sl false (xs.map valD)))], [(10007, .arr 3 false zs)]⟩, fun s => match look 4 s.env with | some (.d (.i _ n)) => xs.length - n.toNat | _ => 0, rfl, ⟨0, _, _, rfl, Nat.zero_le _, ?_, rfl⟩, ?_⟩; rotate_left; rintro s ⟨k, n, zs, rfl, hk, hz, rfl⟩)
        | ((with_reducible refine isGet (xs := xs.map valD) (i := ((k : Nat) : Int).toNat) ?_); obtain ⟨x, hx⟩ := get_ex (ss := xs) (k := k) (lt_of_dec (by assumption)); refine ⟨_, get_map' hx, ?_⟩)
        | refine ⟨⟨rfl, Int.natCast_nonneg _, (by rw [List.length_map]; show (xs.length : Int) * ((32 : Nat) : Int) ≤ 281474976710656; omega), (by rw [List.length_map]; have : ((maxLen : Nat) : Int) = 9223372036854775807 := rfl; omega)⟩, ?_⟩
        | refine ⟨⟨(by rw [hz]; show k < _; rw [filled_len hk]; exact get_lt hx), rfl⟩, ?_⟩
        | refine ⟨⟨Int.natCast_nonneg _, (by rw [hz, filled_len hk]; have := get_lt hx; omega)⟩, ?_⟩
        | fail))
    | ((with_reducible refine isCut ?_) <;> (first
        | refine ⟨⟨none⟩, ?_⟩))
    | ((first | with_reducible refine isEx ?_ | with_reducible refine isAnd ?_ | with_reducible refine isOr ?_) <;> (first
        | ((with_reducible refine isGet (xs := xs.map valD) (i := ((k : Nat) : Int).toNat) ?_); obtain ⟨x, hx⟩ := get_ex (ss := xs) (k := k) (lt_of_dec (by assumption)); refine ⟨_, get_map' hx, ?_⟩)
        | refine ⟨⟨rfl, Int.natCast_nonneg _, (by rw [List.length_map]; show (xs.length : Int) * ((32 : Nat) : Int) ≤ 281474976710656; omega), (by rw [List.length_map]; have : ((maxLen : Nat) : Int) = 9223372036854775807 := rfl; omega)⟩, ?_⟩
        | refine ⟨⟨(by rw [hz]; show k < _; rw [filled_len hk]; exact get_lt hx), rfl⟩, ?_⟩
        | refine ⟨⟨Int.natCast_nonneg _, (by rw [hz, filled_len hk]; have := get_lt hx; omega)⟩, ?_⟩
        | ((with_reducible refine isSmall ?_) <;> (refine ⟨?_, ?_⟩; kernel_rfl))
        | refine ⟨rfl, ?_⟩
        | refine ⟨Int.natCast_nonneg _, ?_⟩))
    | with_reducible refine Both.mk ?_ ?_
    | rintro _ rfl
    | exact rfl
    | (split <;> (rename_i h; first | (simp only [beq_self_eq_true, eq_self, decide_true, Bool.not_true, Bool.false_eq_true] at h; done) | (try rw [h])))))
  all_goals (conv => whnf)
  all_goals first
    | exact ⟨⟨k + 1, _, _, step_up (get_lt hx) hm, get_lt hx, (by rw [hz]; exact filled_up hx), rfl⟩, mu_up (get_lt hx) hm⟩
    | (have e : k = xs.length := by have := of_decide_eq_false h; omega
       rw [hz, e, filled_all]; rfl)
    | (show List.replicate (xs.map valD).length _ = _
       rw [List.length_map]; exact filled_zero _ _ _)
    | trace_state
theorem toIndex (x : Idx) (hs : szIdx x) : Ent Tryz.prog 275 [.d (idxD x)] [] (.agg [.own 0, .d (.b x.uniq)]) [.arr 1 false (x.cols.map i64D)] := by
  have c1 := toInt64S x.cols hs
  refine ent_of (cx := ⟨tab, [], []⟩) tok mixed (f := 275) Tryz.func275 (by kernel_rfl) (keep := true) ?_
  repeat' ((conv => whnf) <;> (first
    | ((with_reducible refine isCall ?_) <;> (first
        | (refine ⟨_, c1, ?_⟩; rintro _ _ ⟨rfl, rfl⟩)
        | fail))
    | ((with_reducible refine isLoop ?_) <;> (first
        | fail))
    | ((with_reducible refine isCut ?_) <;> (first
        | refine ⟨⟨none⟩, ?_⟩))
    | ((first | with_reducible refine isEx ?_ | with_reducible refine isAnd ?_ | with_reducible refine isOr ?_) <;> (first
        | ((with_reducible refine isSmall ?_) <;> (refine ⟨?_, ?_⟩; kernel_rfl))
        | refine ⟨rfl, ?_⟩
        | refine ⟨Int.natCast_nonneg _, ?_⟩))
    | with_reducible refine Both.mk ?_ ?_
    | rintro _ rfl
    | exact rfl
    | (split <;> (rename_i h; first | (simp only [beq_self_eq_true, eq_self, decide_true, Bool.not_true, Bool.false_eq_true] at h; done) | (try rw [h])))))
set_option maxHeartbeats 4000000 in
theorem toIndexS (xs : List (Idx)) (hl : xs.length ≤ 1048576) (hs : ∀ x, x ∈ xs → szIdx x) : Ent Tryz.prog 225 [.d (.sl false (xs.map idxD))] [] (.own 0) [.arr 2 true (xs.map idxO)] := by
  refine ent_deep ?_
  have hm : xs.length ≤ maxLen := Nat.le_trans hl (by decide)
  have hxl : (xs.map idxD).length = xs.length := List.length_map ..
  refine ent_of (cx := ⟨tab, [], []⟩) tok mixed (f := 225) Tryz.func225 (by kernel_rfl) (keep := true) ?_
  repeat' ((conv => whnf) <;> (first
    | ((with_reducible refine isCall ?_) <;> (first
        | (refine ⟨_, toIndex x (hs x (get_mem hx)), ?_⟩; rintro _ _ ⟨rfl, rfl⟩)
        | ((with_reducible refine isGet (xs := xs.map idxD) (i := ((k : Nat) : Int).toNat) ?_); obtain ⟨x, hx⟩ := get_ex (ss := xs) (k := k) (lt_of_dec (by assumption)); have hzk := filled_get (g := idxO) (z := .agg [.sl false [], .b false]) (get_lt hx); rw [← hz] at hzk; refine ⟨_, get_map' hx, ?_⟩)
        | refine ⟨⟨rfl, Int.natCast_nonneg _, (by rw [List.length_map]; show (xs.length : Int) * ((32 : Nat) : Int) ≤ 281474976710656; omega), (by rw [List.length_map]; have : ((maxLen : Nat) : Int) = 9223372036854775807 := rfl; omega)⟩, ?_⟩
        | refine ⟨_, hzk, ?_⟩
        | refine ⟨⟨Int.natCast_nonneg _, (by rw [hz, filled_len hk]; have := get_lt hx; omega)⟩, ?_⟩
        | fail))
    | ((with_reducible refine isLoop ?_) <;> (first
        | (refine ⟨[4, 3, 0], [10007], fun s => ∃ (k : Nat) (n : Int) (dp : Bool) (zs : List D), n = k ∧ k ≤ xs.length ∧ zs = filled idxO (.agg [.sl false [], .b false]) xs k ∧ s = ⟨[(4, .d (.i .i64 n)), (3, .own 10007), (0, .d (.sl false (xs.map idxD)))], [(10007, .arr 2 dp zs)]⟩, fun s => match look 4 s.env with | some (.d (.i _ n)) => xs.length - n.toNat | _ => 0, rfl, ⟨0, _, _, _, rfl, Nat.zero_le _, ?_, rfl⟩, ?_⟩; rotate_left; rintro s ⟨k, n, dp, zs, rfl, hk, hz, rfl⟩; cases dp)
        | ((with_reducible refine isGet (xs := xs.map idxD) (i := ((k : Nat) : Int).toNat) ?_); obtain ⟨x, hx⟩ := get_ex (ss := xs) (k := k) (lt_of_dec (by assumption)); have hzk := filled_get (g := idxO) (z := .agg [.sl false [], .b false]) (get_lt hx); rw [← hz] at hzk; refine ⟨_, get_map' hx, ?_⟩)
        | refine ⟨⟨rfl, Int.natCast_nonneg _, (by rw [List.length_map]; show (xs.length : Int) * ((32 : Nat) : Int) ≤ 281474976710656; omega), (by rw [List.length_map]; have : ((maxLen : Nat) : Int) = 9223372036854775807 := rfl; omega)⟩, ?_⟩
        | refine ⟨_, hzk, ?_⟩
        | refine ⟨⟨Int.natCast_nonneg _, (by rw [hz, filled_len hk]; have := get_lt hx; omega)⟩, ?_⟩
        | fail))
    | ((with_reducible refine isCut ?_) <;> (first
        | refine ⟨⟨none⟩, ?_⟩))
    | ((first | with_reducible refine isEx ?_ | with_reducible refine isAnd ?_ | with_reducible refine isOr ?_) <;> (first
        | ((with_reducible refine isGet (xs := xs.map idxD) (i := ((k : Nat) : Int).toNat) ?_); obtain ⟨x, hx⟩ := get_ex (ss := xs) (k := k) (lt_of_dec (by assumption)); have hzk := filled_get (g := idxO) (z := .agg [.sl false [], .b false]) (get_lt hx); rw [← hz] at hzk; refine ⟨_, get_map' hx, ?_⟩)
        | refine ⟨⟨rfl, Int.natCast_nonneg _, (by rw [List.length_map]; show (xs.length : Int) * ((32 : Nat) : Int) ≤ 281474976710656; omega), (by rw [List.length_map]; have : ((maxLen : Nat) : Int) = 9223372036854775807 := rfl; omega)⟩, ?_⟩
        | refine ⟨_, hzk, ?_⟩
        | refine ⟨⟨Int.natCast_nonneg _, (by rw [hz, filled_len hk]; have := get_lt hx; omega)⟩, ?_⟩
        | ((with_reducible refine isSmall ?_) <;> (refine ⟨?_, ?_⟩; kernel_rfl))
        | refine ⟨rfl, ?_⟩
        | refine ⟨Int.natCast_nonneg _, ?_⟩))
    | with_reducible refine Both.mk ?_ ?_
    | rintro _ rfl
    | exact rfl
    | (split <;> (rename_i h; first | (simp only [beq_self_eq_true, eq_self, decide_true, Bool.not_true, Bool.false_eq_true] at h; done) | (try rw [h])))))
  all_goals (conv => whnf)
  all_goals first
    | exact ⟨⟨k + 1, _, _, _, step_up (get_lt hx) hm, get_lt hx, (by rw [hz]; exact filled_up hx), rfl⟩, mu_up (get_lt hx) hm⟩
    | (have e : k = xs.length := by have := of_decide_eq_false h; omega
       refine ⟨true, ?_⟩
       rw [hz, e, filled_all]; rfl)
    | (have e : k = xs.length := by have := of_decide_eq_false h; omega
       refine ⟨false, ?_⟩
       rw [hz, e, filled_all]; rfl)
    | (show List.replicate (xs.map idxD).length _ = _
       rw [List.length_map]; exact filled_zero _ _ _)
    | trace_state
theorem toRowOf (x : List Val) (hs : szRow x) : Ent Tryz.prog 154 [.d (rowD x)] [] (.own 0) [.arr 3 false (x.map valD)] := toValueS x hs
set_option maxHeartbeats 4000000 in
theorem toValueSS (xs : List (List Val)) (hl : xs.length ≤ 1048576) (hs : ∀ x, x ∈ xs → szRow x) : Ent Tryz.prog 180 [.d (.sl false (xs.map rowD))] [] (.own 0) [.arr 1 true (xs.map rowO)] := by
  refine ent_deep ?_
  have hm : xs.length ≤ maxLen := Nat.le_trans hl (by decide)
  have hxl : (xs.map rowD).length = xs.length := List.length_map ..
  refine ent_of (cx := ⟨tab, [], []⟩) tok mixed (f := 180) Tryz.func180 (by kernel_rfl) (keep := true) ?_
  repeat' ((conv => whnf) <;> (first
    | ((with_reducible refine isCall ?_) <;> (first
        | (refine ⟨_, toRowOf x (hs x (get_mem hx)), ?_⟩; rintro _ _ ⟨rfl, rfl⟩)
        | ((with_reducible refine isGet (xs := xs.map rowD) (i := ((k : Nat) : Int).toNat) ?_); obtain ⟨x, hx⟩ := get_ex (ss := xs) (k := k) (lt_of_dec (by assumption)); have hzk := filled_get (g := rowO) (z := .sl false []) (get_lt hx); rw [← hz] at hzk; refine ⟨_, get_map' hx, ?_⟩)
        | refine ⟨⟨rfl, Int.natCast_nonneg _, (by rw [List.length_map]; show (xs.length : Int) * ((24 : Nat) : Int) ≤ 281474976710656; omega), (by rw [List.length_map]; have : ((maxLen : Nat) : Int) = 9223372036854775807 := rfl; omega)⟩, ?_⟩
        | refine ⟨_, hzk, ?_⟩
        | refine ⟨⟨Int.natCast_nonneg _, (by rw [hz, filled_len hk]; have := get_lt hx; omega)⟩, ?_⟩
        | fail))
    | ((with_reducible refine isLoop ?_) <;> (first
        | (refine ⟨[4, 3, 0], [10007], fun s => ∃ (k : Nat) (n : Int) (dp : Bool) (zs : List D), n = k ∧ k ≤ xs.length ∧ zs = filled rowO (.sl false []) xs k ∧ s = ⟨[(4, .d (.i .i64 n)), (3, .own 10007), (0, .d (.sl false (xs.map rowD)))], [(10007, .arr 1 dp zs)]⟩, fun s => match look 4 s.env with | some (.d (.i _ n)) => xs.length - n.toNat | _ => 0, rfl, ⟨0, _, _, _, rfl, Nat.zero_le _, ?_, rfl⟩, ?_⟩; rotate_left; rintro s ⟨k, n, dp, zs, rfl, hk, hz, rfl⟩; cases dp)
        | ((with_reducible refine isGet (xs := xs.map rowD) (i := ((k : Nat) : Int).toNat) ?_); obtain ⟨x, hx⟩ := get_ex (ss := xs) (k := k) (lt_of_dec (by assumption)); have hzk := filled_get (g := rowO) (z := .sl false []) (get_lt hx); rw [← hz] at hzk; refine ⟨_, get_map' hx, ?_⟩)
        | refine ⟨⟨rfl, Int.natCast_nonneg _, (by rw [List.length_map]; show (xs.length : Int) * ((24 : Nat) : Int) ≤ 281474976710656; omega), (by rw [List.length_map]; have : ((maxLen : Nat) : Int) = 9223372036854775807 := rfl; omega)⟩, ?_⟩
        | refine ⟨_, hzk, ?_⟩
        | refine ⟨⟨Int.natCast_nonneg _, (by rw [hz, filled_len hk]; have := get_lt hx; omega)⟩, ?_⟩
        | fail))
    | ((with_reducible refine isCut ?_) <;> (first
        | refine ⟨⟨none⟩, ?_⟩))
    | ((first | with_reducible refine isEx ?_ | with_reducible refine isAnd ?_ | with_reducible refine isOr ?_) <;> (first
        | ((with_reducible refine isGet (xs := xs.map rowD) (i := ((k : Nat) : Int).toNat) ?_); obtain ⟨x, hx⟩ := get_ex (ss := xs) (k := k) (lt_of_dec (by assumption)); have hzk := filled_get (g := rowO) (z := .sl false []) (get_lt hx); rw [← hz] at hzk; refine ⟨_, get_map' hx, ?_⟩)
        | refine ⟨⟨rfl, Int.natCast_nonneg _, (by rw [List.length_map]; show (xs.length : Int) * ((24 : Nat) : Int) ≤ 281474976710656; omega), (by rw [List.length_map]; have : ((maxLen : Nat) : Int) = 9223372036854775807 := rfl; omega)⟩, ?_⟩
        | refine ⟨_, hzk, ?_⟩
        | refine ⟨⟨Int.natCast_nonneg _, (by rw [hz, filled_len hk]; have := get_lt hx; omega)⟩, ?_⟩
        | ((with_reducible refine isSmall ?_) <;> (refine ⟨?_, ?_⟩; kernel_rfl))
        | refine ⟨rfl, ?_⟩
        | refine ⟨Int.natCast_nonneg _, ?_⟩))
    | with_reducible refine Both.mk ?_ ?_
    | rintro _ rfl
    | exact rfl
    | (split <;> (rename_i h; first | (simp only [beq_self_eq_true, eq_self, decide_true, Bool.not_true, Bool.false_eq_true] at h; done) | (try rw [h])))))
  all_goals (conv => whnf)
  all_goals first
    | exact ⟨⟨k + 1, _, _, _, step_up (get_lt hx) hm, get_lt hx, (by rw [hz]; exact filled_up hx), rfl⟩, mu_up (get_lt hx) hm⟩
    | (have e : k = xs.length := by have := of_decide_eq_false h; omega
       refine ⟨true, ?_⟩
       rw [hz, e, filled_all]; rfl)
    | (have e : k = xs.length := by have := of_decide_eq_false h; omega
       refine ⟨false, ?_⟩
       rw [hz, e, filled_all]; rfl)
    | (show List.replicate (xs.map rowD).length _ = _
       rw [List.length_map]; exact filled_zero _ _ _)
    | trace_state
set_option maxHeartbeats 1000000 in
theorem toSchema (x : Schema) (hs : szSch x) : Ent Tryz.prog 153 [.d (schemaD x)] [] (.agg [.d (.s x.name), .own 0, .own 1, .own 2]) [.arr 3 false (x.cols.map colD), .arr 1 false (x.keys.map i64D), .arr 2 true (x.idxs.map idxO)] := by
  have c1 := toColumnS x.cols hs.cols
  have c2 := toInt64S x.keys hs.keys
  have c3 := toIndexS x.idxs hs.idxs hs.lists
  refine ent_of (cx := ⟨tab, [], []⟩) tok mixed (f := 153) Tryz.func153 (by kernel_rfl) (keep := true) ?_
  repeat' ((conv => whnf) <;> (first
    | ((with_reducible refine isCall ?_) <;> (first
        | (refine ⟨_, c1, ?_⟩; rintro _ _ ⟨rfl, rfl⟩)
        | (refine ⟨_, c2, ?_⟩; rintro _ _ ⟨rfl, rfl⟩)
        | (refine ⟨_, c3, ?_⟩; rintro _ _ ⟨rfl, rfl⟩)
        | fail))
    | ((with_reducible refine isLoop ?_) <;> (first
        | fail))
    | ((with_reducible refine isCut ?_) <;> (first
        | refine ⟨⟨none⟩, ?_⟩))
    | ((first | with_reducible refine isEx ?_ | with_reducible refine isAnd ?_ | with_reducible refine isOr ?_) <;> (first
        | ((with_reducible refine isSmall ?_) <;> (refine ⟨?_, ?_⟩; kernel_rfl))
        | refine ⟨rfl, ?_⟩
        | refine ⟨Int.natCast_nonneg _, ?_⟩))
    | with_reducible refine Both.mk ?_ ?_
    | rintro _ rfl
    | exact rfl
    | (split <;> (rename_i h; first | (simp only [beq_self_eq_true, eq_self, decide_true, Bool.not_true, Bool.false_eq_true] at h; done) | (try rw [h])))))
set_option maxHeartbeats 1000000 in
theorem toTable (x : Tab) (hs : szTab x) : Ent Tryz.prog 101 [.d (tabD x)] [] (.agg [.d (.s x.sch.name), .own 0, .own 1, .own 2, .own 3]) [.arr 3 false (x.sch.cols.map colD), .arr 1 false (x.sch.keys.map i64D), .arr 2 true (x.sch.idxs.map idxO), .arr 1 true (x.rows.map rowO)] := by
  have c1 := toSchema x.sch hs.sch
  have c2 := toValueSS x.rows hs.rows hs.row
  refine ent_of (cx := ⟨tab, [], []⟩) tok mixed (f := 101) Tryz.func101 (by kernel_rfl) (keep := true) ?_
  repeat' ((conv => whnf) <;> (first
    | ((with_reducible refine isCall ?_) <;> (first
        | (refine ⟨_, c1, ?_⟩; rintro _ _ ⟨rfl, rfl⟩)
        | (refine ⟨_, c2, ?_⟩; rintro _ _ ⟨rfl, rfl⟩)
        | fail))
    | ((with_reducible refine isLoop ?_) <;> (first
        | fail))
    | ((with_reducible refine isCut ?_) <;> (first
        | refine ⟨⟨none⟩, ?_⟩))
    | ((first | with_reducible refine isEx ?_ | with_reducible refine isAnd ?_ | with_reducible refine isOr ?_) <;> (first
        | ((with_reducible refine isSmall ?_) <;> (refine ⟨?_, ?_⟩; kernel_rfl))
        | refine ⟨rfl, ?_⟩
        | refine ⟨Int.natCast_nonneg _, ?_⟩))
    | with_reducible refine Both.mk ?_ ?_
    | rintro _ rfl
    | exact rfl
    | (split <;> (rename_i h; first | (simp only [beq_self_eq_true, eq_self, decide_true, Bool.not_true, Bool.false_eq_true] at h; done) | (try rw [h])))))
set_option maxHeartbeats 4000000 in
theorem toTableS (xs : List (Tab)) (hl : xs.length ≤ 1048576) (hs : ∀ x, x ∈ xs → szTab x) : Ent Tryz.prog 46 [.d (.sl false (xs.map tabD))] [] (.own 0) [.arr 5 true (xs.map tabO)] := by
  refine ent_deep ?_
  have hm : xs.length ≤ maxLen := Nat.le_trans hl (by decide)
  have hxl : (xs.map tabD).length = xs.length := List.length_map ..
  refine ent_of (cx := ⟨tab, [], []⟩) tok mixed (f := 46) Tryz.func46 (by kernel_rfl) (keep := true) ?_
  repeat' ((conv => whnf) <;> (first
    | ((with_reducible refine isCall ?_) <;> (first
        | (refine ⟨_, toTable x (hs x (get_mem hx)), ?_⟩; rintro _ _ ⟨rfl, rfl⟩)
        | ((with_reducible refine isGet (xs := xs.map tabD) (i := ((k : Nat) : Int).toNat) ?_); obtain ⟨x, hx⟩ := get_ex (ss := xs) (k := k) (lt_of_dec (by assumption)); have hzk := filled_get (g := tabO) (z := .agg [.s [], .sl false [], .sl false [], .sl false [], .sl false []]) (get_lt hx); rw [← hz] at hzk; refine ⟨_, get_map' hx, ?_⟩)
        | refine ⟨⟨rfl, Int.natCast_nonneg _, (by rw [List.length_map]; show (xs.length : Int) * ((112 : Nat) : Int) ≤ 281474976710656; omega), (by rw [List.length_map]; have : ((maxLen : Nat) : Int) = 9223372036854775807 := rfl; omega)⟩, ?_⟩
        | refine ⟨_, hzk, ?_⟩
        | refine ⟨⟨Int.natCast_nonneg _, (by rw [hz, filled_len hk]; have := get_lt hx; omega)⟩, ?_⟩
        | fail))
    | ((with_reducible refine isLoop ?_) <;> (first
        | (refine ⟨[4, 3, 0], [10007], fun s => ∃ (k : Nat) (n : Int) (dp : Bool) (zs : List D), n = k ∧ k ≤ xs.length ∧ zs = filled tabO (.agg [.s [], .sl false [], .sl false [], .sl false [], .sl false []]) xs k ∧ s = ⟨[(4, .d (.i .i64 n)), (3, .own 10007), (0, .d (.sl false (xs.map tabD)))], [(10007, .arr 5 dp zs)]⟩, fun s => match look 4 s.env with | some (.d (.i _ n)) => xs.length - n.toNat | _ => 0, rfl, ⟨0, _, _, _, rfl, Nat.zero_le _, ?_, rfl⟩, ?_⟩; rotate_left; rintro s ⟨k, n, dp, zs, rfl, hk, hz, rfl⟩; cases dp)
        | ((with_reducible refine isGet (xs := xs.map tabD) (i := ((k : Nat) : Int).toNat) ?_); obtain ⟨x, hx⟩ := get_ex (ss := xs) (k := k) (lt_of_dec (by assumption)); have hzk := filled_get (g := tabO) (z := .agg [.s [], .sl false [], .sl false [], .sl false [], .sl false []]) (get_lt hx); rw [← hz] at hzk; refine ⟨_, get_map' hx, ?_⟩)
        | refine ⟨⟨rfl, Int.natCast_nonneg _, (by rw [List.length_map]; show (xs.length : Int) * ((112 : Nat) : Int) ≤ 281474976710656; omega), (by rw [List.length_map]; have : ((maxLen : Nat) : Int) = 9223372036854775807 := rfl; omega)⟩, ?_⟩
        | refine ⟨_, hzk, ?_⟩
        | refine ⟨⟨Int.natCast_nonneg _, (by rw [hz, filled_len hk]; have := get_lt hx; omega)⟩, ?_⟩
        | fail))
    | ((with_reducible refine isCut ?_) <;> (first
        | refine ⟨⟨none⟩, ?_⟩))
    | ((first | with_reducible refine isEx ?_ | with_reducible refine isAnd ?_ | with_reducible refine isOr ?_) <;> (first
        | ((with_reducible refine isGet (xs := xs.map tabD) (i := ((k : Nat) : Int).toNat) ?_); obtain ⟨x, hx⟩ := get_ex (ss := xs) (k := k) (lt_of_dec (by assumption)); have hzk := filled_get (g := tabO) (z := .agg [.s [], .sl false [], .sl false [], .sl false [], .sl false []]) (get_lt hx); rw [← hz] at hzk; refine ⟨_, get_map' hx, ?_⟩)
        | refine ⟨⟨rfl, Int.natCast_nonneg _, (by rw [List.length_map]; show (xs.length : Int) * ((112 : Nat) : Int) ≤ 281474976710656; omega), (by rw [List.length_map]; have : ((maxLen : Nat) : Int) = 9223372036854775807 := rfl; omega)⟩, ?_⟩
        | refine ⟨_, hzk, ?_⟩
        | refine ⟨⟨Int.natCast_nonneg _, (by rw [hz, filled_len hk]; have := get_lt hx; omega)⟩, ?_⟩
        | ((with_reducible refine isSmall ?_) <;> (refine ⟨?_, ?_⟩; kernel_rfl))
        | refine ⟨rfl, ?_⟩
        | refine ⟨Int.natCast_nonneg _, ?_⟩))
    | with_reducible refine Both.mk ?_ ?_
    | rintro _ rfl
    | exact rfl
    | (split <;> (rename_i h; first | (simp only [beq_self_eq_true, eq_self, decide_true, Bool.not_true, Bool.false_eq_true] at h; done) | (try rw [h])))))
  all_goals (conv => whnf)
  all_goals first
    | exact ⟨⟨k + 1, _, _, _, step_up (get_lt hx) hm, get_lt hx, (by rw [hz]; exact filled_up hx), rfl⟩, mu_up (get_lt hx) hm⟩
    | (have e : k = xs.length := by have := of_decide_eq_false h; omega
       refine ⟨true, ?_⟩
       rw [hz, e, filled_all]; rfl)
    | (have e : k = xs.length := by have := of_decide_eq_false h; omega
       refine ⟨false, ?_⟩
       rw [hz, e, filled_all]; rfl)
    | (show List.replicate (xs.map tabD).length _ = _
       rw [List.length_map]; exact filled_zero _ _ _)
    | trace_state
theorem toDb (xs : List Tab) (hl : xs.length ≤ 1048576) (hs : ∀ x, x ∈ xs → szTab x) : Ent Tryz.prog 11 [.d (.agg [.sl false (xs.map tabD)])] [] (.agg [.own 0]) [.arr 5 true (xs.map tabO)] := by
  have c1 := toTableS xs hl hs
  refine ent_of (cx := ⟨tab, [], []⟩) tok mixed (f := 11) Tryz.func11 (by kernel_rfl) (keep := true) ?_
  repeat' ((conv => whnf) <;> (first
    | ((with_reducible refine isCall ?_) <;> (first
        | (refine ⟨_, c1, ?_⟩; rintro _ _ ⟨rfl, rfl⟩)
        | fail))
    | ((with_reducible refine isLoop ?_) <;> (first
        | fail))
    | ((with_reducible refine isCut ?_) <;> (first
        | refine ⟨⟨none⟩, ?_⟩))
    | ((first | with_reducible refine isEx ?_ | with_reducible refine isAnd ?_ | with_reducible refine isOr ?_) <;> (first
        | ((with_reducible refine isSmall ?_) <;> (refine ⟨?_, ?_⟩; kernel_rfl))
        | refine ⟨rfl, ?_⟩
        | refine ⟨Int.natCast_nonneg _, ?_⟩))
    | with_reducible refine Both.mk ?_ ?_
    | rintro _ rfl
    | exact rfl
    | (split <;> (rename_i h; first | (simp only [beq_self_eq_true, eq_self, decide_true, Bool.not_true, Bool.false_eq_true] at h; done) | (try rw [h])))))
end Go.Pm.Tryz
