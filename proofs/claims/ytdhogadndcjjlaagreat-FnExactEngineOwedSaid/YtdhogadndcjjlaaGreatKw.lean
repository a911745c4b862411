/-
The program's EngineOwed returns what the reference's returns, for all arguments.
-/
import Derived.Test.YtdhogadndcjjlaaGreatKwn
namespace Go.Pm.Tryz
open Go Go.Proofs
set_option linter.unusedVariables false
set_option linter.unusedSimpArgs false
set_option maxRecDepth 100000
def rowOf (c : List (List Val)) (id : Int) : List Val := (c.find? fun r => decide (numA r 0 = id)).getD []
def nameOf (a c d : List (List Val)) (y : List Val) : List UInt8 := match (defM a d (txtA (rowOf c (numA y 1)) 1)).steps[(numA y 2).toNat]? with
  | none => []
  | some t => match decide (numA y 3 = 1) with | true => t.undo | false => t.act
def owedV (a c d : List (List Val)) (y : List Val) : D := .agg [.i .i64 (numA y 0), .i .i64 (numA y 1), .i .i64 (numA y 2), .b (decide (numA y 3 = 1)), .i .i64 (numA y 4), .s (nameOf a c d y), .b (decide (numA y 5 = 1)), .i .i64 (numA y 6), .i .i64 (numA y 7)]
noncomputable def owedM (s : Sto) : List D := match engOk s with | true => (rowsAt s.tabs 1).map (owedV (rowsAt s.tabs 0) (rowsAt s.tabs 2) (rowsAt s.tabs 3)) | false => []
structure OwedAt (a c d : List (List Val)) (y : List Val) (k : Nat) (r : List Val) (t : Step) : Prop where
  row : c[k]? = some r
  id : numA r 0 = numA y 1
  isDef : defIs a (txtA r 1) = true
  ge : 0 ≤ numA y 2
  step : (defM a d (txtA r 1)).steps[(numA y 2).toNat]? = some t
section
variable {a b c d : List (List Val)} {y r : List Val} {k : Nat} {t : Step}
theorem waits_pos {e : Def} {s : Saga} (h : sagaOk1 e s = true) (hw : s.waits = true) : 0 ≤ s.pos ∧ s.pos < e.steps.length := by
  unfold sagaOk1 at h
  split at h
  · simp only [Bool.and_eq_true, inside, decide_eq_true_eq] at h; omega
  · split at h
    · rw [Bool.and_eq_true] at h; exact back_pos h.1
    · repeat' split at h
      all_goals simp [quiet, hw] at h
theorem owed_at (hE : EngP a b c d) (hI : implOk a b c d) (hy : b[k]? = some y) : ∃ k2 r t, OwedAt a c d y k2 r t := by
  obtain ⟨r, h1, h2, h3, h4⟩ := (owe_iff hE y).1 (List.all_eq_true.1 hI.outs y (get_mem hy))
  obtain ⟨k2, hk2⟩ := List.getElem?_of_mem h1
  have hh := List.all_eq_true.1 hI.sagas r h1
  unfold headB at hh
  simp only [Bool.and_eq_true] at hh
  obtain ⟨⟨⟨g1, g2⟩, g3⟩, g4⟩ := hh
  obtain ⟨p1, p2⟩ := waits_pos g3 (show (sagaR r).waits = true from h3)
  unfold owedB comEq at h4
  simp only [Bool.and_eq_true, decide_eq_true_eq] at h4
  have e : numA y 2 = (sagaR r).pos := h4.1.1.1.1
  obtain ⟨t, ht⟩ := step_at (d := defM a d (txtA r 1)) (s := sagaR r) p1 p2
  exact ⟨k2, r, t, hk2, h2, g1, by omega, by rw [e]; exact ht⟩
theorem kept_at (hE : EngP a b c d) (hr : c[k]? = some r) : decide (idxP (idK (numA r 0)) (c.map keptR) 0 < 0) = false ∧ keptF (c.map keptR) (numA r 0) = keptR r := by
  have hn : ¬ idxP (idK (numA r 0)) (c.map keptR) 0 < 0 := fun h => by
    have := idx_none _ _ h (keptR r) (List.mem_map_of_mem (get_mem hr))
    exact of_decide_eq_false this rfl
  obtain ⟨j, x, h1, h2, h3⟩ := idx_some _ _ hn
  rw [List.getElem?_map] at h2
  cases hj : c[j]? with
  | none => rw [hj] at h2; cases h2
  | some r2 =>
    rw [hj] at h2; cases h2
    have := one_of (ids_one hE) (get_mem hj) (get_mem hr) (of_decide_eq_true h3)
    subst this
    refine ⟨decide_eq_false hn, ?_⟩
    unfold keptF
    rw [decide_eq_false hn]
    simp only
    rw [h1, List.getD_eq_getElem?_getD, show ((0 + j : Nat) : Int).toNat = j by omega, List.getElem?_map, hj]; rfl
theorem specRowAt (hE : EngP a b c d) (hr : c[k]? = some r) : Ent Tryz.prog 43 [.d (tabD ⟨sagasS, c⟩), .d (.i .i64 (numA r 0))] [] (.d (.i .i64 (k : Int))) [] := by
  have h := specIdRow ⟨sagasS, c⟩ hE.sagas (numA r 0)
  have he : pickM r (⟨sagasS, c⟩ : Tab).sch.keys = [intV (numA r 0)] := by
    show [r.getD 0 vz] = _
    rw [cell_int (t := ⟨sagasS, c⟩) hE.sagas (i := 0) hr rfl]
  obtain ⟨e1, e2⟩ := at_of (t := ⟨sagasS, c⟩) hE.sagas hr he
  rw [e2, e1] at h
  exact h
theorem row_of2 (hE : EngP a b c d) (hr : c[k]? = some r) (hid : numA r 0 = numA y 1) : rowOf c (numA y 1) = r := by
  unfold rowOf
  cases hf : c.find? fun r => decide (numA r 0 = numA y 1) with
  | none => exact absurd hid (by simpa using List.find?_eq_none.1 hf r (get_mem hr))
  | some r2 =>
    have h1 := List.find?_some hf
    exact one_of (ids_one hE) (List.mem_of_find?_eq_some hf) (get_mem hr) ((of_decide_eq_true h1).trans hid.symm)
theorem name_t (hE : EngP a b c d) (h : OwedAt a c d y k r t) (hw : decide (numA y 3 = 1) = true) : nameOf a c d y = t.undo := by
  unfold nameOf
  rw [row_of2 hE h.row h.id, h.step, hw]
theorem name_f (hE : EngP a b c d) (h : OwedAt a c d y k r t) (hw : decide (numA y 3 = 1) = false) : nameOf a c d y = t.act := by
  unfold nameOf
  rw [row_of2 hE h.row h.id, h.step, hw]
theorem owed_up (hy : b[k]? = some y) {xs : List D} (h : xs = (b.take k).map (owedV a c d)) {w : Bool} (hw : decide (numA y 3 = 1) = w) {nm : List UInt8} (hn : nameOf a c d y = nm) :
    xs ++ [.agg [.i .i64 (numA y 0), .i .i64 (numA y 1), .i .i64 (numA y 2), .b w, .i .i64 (numA y 4), .s nm, .b (decide (numA y 5 = 1)), .i .i64 (numA y 6), .i .i64 (numA y 7)]] = (b.take (k + 1)).map (owedV a c d) := by
  subst hw hn
  rw [h, take_up hy, List.map_append]; rfl
end
set_option maxHeartbeats 8000000 in
theorem specEngineOwed (s : Sto) (hs : s.fits) : Ent Tryz.prog 18 [.d (stoD s)] [] (.own 0) [.arr 9 false (owedM s)] := by
  have c1 := specEngineRight s hs
  obtain ⟨o, ho⟩ : ∃ o, o = owedM s := ⟨_, rfl⟩
  rw [← ho]
  unfold owedM at ho
  cases h : engOk s with
  | false =>
    rw [h] at c1 ho
    have e : o = [] := ho
    subst e
    refine ent_of (cx := ⟨tab, [], []⟩) tok mixed (f := 18) Tryz.func18 (by kernel_rfl) (keep := true) ?_
    repeat' ((conv => whnf) <;> (first | ((with_reducible refine isCall ?_) <;> (first | (refine ⟨_, c1, ?_⟩; rintro _ _ ⟨rfl, rfl⟩) | fail)) | ((with_reducible refine isCut ?_) <;> (first | refine ⟨⟨none⟩, ?_⟩)) | ((first | with_reducible refine isEx ?_ | with_reducible refine isAnd ?_ | with_reducible refine isOr ?_) <;> (first | ((with_reducible refine isSmall ?_) <;> (refine ⟨?_, ?_⟩; kernel_rfl)) | refine ⟨rfl, ?_⟩ | refine ⟨Int.natCast_nonneg _, ?_⟩)) | with_reducible refine Both.mk ?_ ?_ | rintro _ rfl | exact rfl | (split <;> (rename_i h; first | (simp only [beq_self_eq_true, eq_self, decide_true, Bool.not_true, Bool.false_eq_true] at h; done) | (try rw [h])))))
  | true =>
    obtain ⟨a, b, c, d, h1, hE, hI⟩ := eng_ok h
    rw [h] at c1 ho
    obtain ⟨disk, tabs, seq, next⟩ := s
    dsimp only at h1 ho
    subst h1
    have ho : o = b.map (owedV a c d) := ho
    have hlb : b.length ≤ maxLen := Nat.le_trans hE.outs.most (by decide)
    have hl60 : b.length ≤ 60 := hE.outs.most
    refine ent_of (cx := ⟨tab, [], []⟩) tok mixed (f := 18) Tryz.func18 (by kernel_rfl) (keep := true) ?_
    repeat' ((conv => whnf) <;> (first | ((with_reducible refine isCall ?_) <;> (first | (refine ⟨_, c1, ?_⟩; rintro _ _ ⟨rfl, rfl⟩) | (refine ⟨_, c2, ?_⟩; rintro _ _ ⟨rfl, rfl⟩) | (refine ⟨_, c3, ?_⟩; rintro _ _ ⟨rfl, rfl⟩) | (refine ⟨_, c4, ?_⟩; rintro _ _ ⟨rfl, rfl⟩) | (refine ⟨_, get_map' hO.row, ?_⟩) | (refine ⟨_, get_map' hO.step, ?_⟩) | (refine ⟨_, get_map' (cell_at hyl rfl), ?_⟩) | (refine ⟨_, get_map' (cell_at hrl rfl), ?_⟩) | (refine ⟨_, rfl, ?_⟩) | (refine ⟨Int.natCast_nonneg _, ?_⟩) | (refine ⟨hO.ge, ?_⟩) | (refine ⟨by decide, ?_⟩) | (refine ⟨⟨by decide, rfl, rfl, room_add (by rw [hxs]; simp only [List.length_map, List.length_take]; omega) (by decide)⟩, ?_⟩) | fail)) | ((with_reducible refine isLoop ?_) <;> (first | (refine ⟨[1, 3, 4], [10001, 10010], fun st => ∃ (k : Nat) (i : Int) (xs : List D), i = k ∧ k ≤ b.length ∧ xs = (b.take k).map (owedV a c d) ∧ st = ⟨[(1, .ptr 10001 0), (3, .own 10010), (4, .d (.i .i64 i))], [(10001, .var (stoC ⟨disk, engTs a b c d, seq, next⟩)), (10010, .arr 9 false xs)]⟩, fun s' => match look 4 s'.env with | some (.d (.i _ n)) => b.length - n.toNat | _ => 0, rfl, ⟨0, _, _, rfl, Nat.zero_le _, rfl, rfl⟩, ?_⟩; rintro st ⟨k, i, xs, rfl, hk, hxs, rfl⟩) | (refine ⟨_, get_map' hO.row, ?_⟩) | (refine ⟨_, get_map' hO.step, ?_⟩) | (refine ⟨_, get_map' (cell_at hyl rfl), ?_⟩) | (refine ⟨_, get_map' (cell_at hrl rfl), ?_⟩) | (refine ⟨_, rfl, ?_⟩) | (refine ⟨Int.natCast_nonneg _, ?_⟩) | (refine ⟨hO.ge, ?_⟩) | (refine ⟨by decide, ?_⟩) | (refine ⟨⟨by decide, rfl, rfl, room_add (by rw [hxs]; simp only [List.length_map, List.length_take]; omega) (by decide)⟩, ?_⟩) | fail)) | ((with_reducible refine isCut ?_) <;> (first | refine ⟨⟨none⟩, ?_⟩)) | ((first | with_reducible refine isEx ?_ | with_reducible refine isAnd ?_ | with_reducible refine isOr ?_) <;> (first | ((with_reducible refine isGet (xs := b.map rowD) (i := ((k : Nat) : Int).toNat) ?_); obtain ⟨y, hy⟩ := get_ex (ss := b) (k := k) (lt_of_dec (by assumption)); have hyl : y.length = 8 := row_len hE.outs hy; obtain ⟨k2, r, t, hO⟩ := owed_at hE hI hy; have c2 := specComR y hyl; have c3 := specRowAt hE hO.row; rw [hO.id] at c3; have c4 := specDef hE (txtA r 1); have hrl : r.length = 9 := row_len hE.sagas hO.row; refine ⟨_, get_map' hy, ?_⟩) | (refine ⟨_, get_map' hO.row, ?_⟩) | (refine ⟨_, get_map' hO.step, ?_⟩) | (refine ⟨_, get_map' (cell_at hyl rfl), ?_⟩) | (refine ⟨_, get_map' (cell_at hrl rfl), ?_⟩) | (refine ⟨_, rfl, ?_⟩) | (refine ⟨Int.natCast_nonneg _, ?_⟩) | (refine ⟨hO.ge, ?_⟩) | (refine ⟨by decide, ?_⟩) | (refine ⟨⟨by decide, rfl, rfl, room_add (by rw [hxs]; simp only [List.length_map, List.length_take]; omega) (by decide)⟩, ?_⟩) | ((with_reducible refine isSmall ?_) <;> (refine ⟨?_, ?_⟩; kernel_rfl)) | refine ⟨rfl, ?_⟩ | refine ⟨Int.natCast_nonneg _, ?_⟩)) | with_reducible refine Both.mk ?_ ?_ | rintro _ rfl | exact rfl | (split <;> (rename_i h; first | (simp only [beq_self_eq_true, eq_self, decide_true, Bool.not_true, Bool.false_eq_true] at h; done) | (try rw [h])))))
    all_goals try (conv => whnf)
    all_goals first
      | exact ⟨⟨k + 1, _, _, step_up (get_lt hy) hlb, get_lt hy, owed_up hy hxs h (name_t hE hO h), rfl⟩, mu_up (get_lt hy) hlb⟩
      | exact ⟨⟨k + 1, _, _, step_up (get_lt hy) hlb, get_lt hy, owed_up hy hxs h (name_f hE hO h), rfl⟩, mu_up (get_lt hy) hlb⟩
      | (have := of_decide_eq_false h
         rw [List.length_map] at this
         rw [List.take_of_length_le (by dsimp only at this; omega)] at hxs
         rw [hxs, ho]; rfl)
      | trace_state
theorem OwedAt.kept {a b c d : List (List Val)} {y r : List Val} {k : Nat} {t : Step} (hE : EngP a b c d) (h : OwedAt a c d y k r t) (ds : List Def) (xs : List D) : Ent Tryz.prog 44 [.ptr 0 0, .d (.i .i64 (numA y 1))] [.var [.d (.sl false (ds.map defD)), .d (.sl false ((c.map keptR).map keptD)), .own 1], .arr 8 false xs] (.tup [.d (keptD (keptR r)), .d (.b true)]) [.var [.d (.sl false (ds.map defD)), .d (.sl false ((c.map keptR).map keptD)), .own 1], .arr 8 false xs] := by
  have h1 := sagaOf2 ds (c.map keptR) xs (by rw [List.length_map]; exact Nat.le_trans hE.sagas.most (by decide)) (numA y 1)
  obtain ⟨e1, e2⟩ := kept_at hE h.row
  rw [h.id] at e1 e2
  rw [e1, e2] at h1
  exact h1
set_option maxHeartbeats 8000000 in
theorem implEngineOwed (s : Sto) (hs : s.fits) : Ent Tryz.prog 19 [.d (stoD s)] [] (.own 0) [.arr 9 false (owedM s)] := by
  have c1 := implReadR s hs
  obtain ⟨o, ho⟩ : ∃ o, o = owedM s := ⟨_, rfl⟩
  rw [← ho]
  unfold owedM at ho
  refine ent_ofN (cx := ⟨tab, [], []⟩) tok mixed (f := 19) Tryz.func19 (by kernel_rfl) (keep := true) (nm := [.slot 20002 9 false 2]) ?_
  repeat' ((conv => whnf) <;> (first | ((with_reducible refine isCall ?_) <;> (first | (refine ⟨_, c1, ?_⟩; rintro _ _ (⟨h1, a, b, c, d, h2, hE, h3, rfl, rfl⟩ | ⟨h1, (⟨rfl, rfl⟩ | ⟨x, y, ys, rfl, rfl⟩)⟩)) | (refine ⟨_, c2, ?_⟩; rintro _ _ ⟨rfl, rfl⟩) | (refine ⟨_, c3, ?_⟩; rintro _ _ ⟨rfl, rfl⟩) | (refine ⟨⟨Int.natCast_nonneg _, of_decide_eq_true (by assumption)⟩, ?_⟩) | (refine ⟨_, get_map' hO.step, ?_⟩) | (refine ⟨Int.natCast_nonneg _, ?_⟩) | (refine ⟨hO.ge, ?_⟩) | (refine ⟨⟨by decide, rfl, rfl, room_add (by rw [hxs]; simp only [List.length_map, List.length_take]; omega) (by decide)⟩, ?_⟩) | fail)) | ((with_reducible refine isLoop ?_) <;> (first | (refine ⟨[3, 5, 25, 26, 27], [10016, 20016, 10021], fun st => ∃ (k : Nat) (i : Int) (xs : List D), i = k ∧ k ≤ b.length ∧ xs = (b.take k).map (owedV a c d) ∧ st = ⟨[(3, .ptr 10016 0), (5, .own 10021), (25, .own 20016), (26, .d (.i .i64 (((b.map oweR).map oweD).length : Int))), (27, .d (.i .i64 i))], [(10016, .var [.d (.sl false ((a.map (defRow d)).map defD)), .d (.sl false ((c.map keptR).map keptD)), .own 20016]), (20016, .arr 8 false ((b.map oweR).map oweD)), (10021, .arr 9 false xs)]⟩, fun s' => match look 27 s'.env with | some (.d (.i _ n)) => b.length - n.toNat | _ => 0, rfl, ⟨0, _, _, rfl, Nat.zero_le _, rfl, rfl⟩, ?_⟩; rintro st ⟨k, i, xs, rfl, hk, hxs, rfl⟩; have hlb : b.length ≤ maxLen := Nat.le_trans hE.outs.most (by decide); have hl60 : b.length ≤ 60 := hE.outs.most) | (refine ⟨⟨Int.natCast_nonneg _, of_decide_eq_true (by assumption)⟩, ?_⟩) | (refine ⟨_, get_map' hO.step, ?_⟩) | (refine ⟨Int.natCast_nonneg _, ?_⟩) | (refine ⟨hO.ge, ?_⟩) | (refine ⟨⟨by decide, rfl, rfl, room_add (by rw [hxs]; simp only [List.length_map, List.length_take]; omega) (by decide)⟩, ?_⟩) | fail)) | ((with_reducible refine isCut ?_) <;> (first | refine ⟨⟨none⟩, ?_⟩)) | ((first | with_reducible refine isEx ?_ | with_reducible refine isAnd ?_ | with_reducible refine isOr ?_) <;> (first | ((with_reducible refine isGet (xs := (b.map oweR).map oweD) (i := ((k : Nat) : Int).toNat) ?_); obtain ⟨y, hy⟩ := get_ex (ss := b) (k := k) (by have := of_decide_eq_true (by assumption : decide ((k : Int) < (((b.map oweR).map oweD).length : Int)) = true); rw [List.length_map, List.length_map] at this; omega); obtain ⟨k2, r, t, hO⟩ := owed_at hE h3 hy; have c2 := hO.kept hE (a.map (defRow d)) ((b.map oweR).map oweD); have c3 := defE2 hE (c.map keptR) ((b.map oweR).map oweD) (txtA r 1); refine ⟨_, get_map' (f := oweD) (show (b.map oweR)[k]? = some (oweR y) by rw [List.getElem?_map, hy]; rfl), ?_⟩) | (refine ⟨⟨Int.natCast_nonneg _, of_decide_eq_true (by assumption)⟩, ?_⟩) | (refine ⟨_, get_map' hO.step, ?_⟩) | (refine ⟨Int.natCast_nonneg _, ?_⟩) | (refine ⟨hO.ge, ?_⟩) | (refine ⟨⟨by decide, rfl, rfl, room_add (by rw [hxs]; simp only [List.length_map, List.length_take]; omega) (by decide)⟩, ?_⟩) | ((with_reducible refine isSmall ?_) <;> (refine ⟨?_, ?_⟩; kernel_rfl)) | refine ⟨rfl, ?_⟩ | refine ⟨Int.natCast_nonneg _, ?_⟩)) | with_reducible refine Both.mk ?_ ?_ | rintro _ rfl | exact rfl | (split <;> (rename_i h; first | (simp only [beq_self_eq_true, eq_self, decide_true, Bool.not_true, Bool.false_eq_true] at h; done) | (try rw [h])))))
  all_goals try (conv => whnf)
  all_goals first
    | (rw [h1] at ho; rw [ho]; rfl)
    | exact ⟨⟨k + 1, _, _, step_up (get_lt hy) hlb, get_lt hy, owed_up hy hxs h (name_t hE hO h), rfl⟩, mu_up (get_lt hy) hlb⟩
    | exact ⟨⟨k + 1, _, _, step_up (get_lt hy) hlb, get_lt hy, owed_up hy hxs h (name_f hE hO h), rfl⟩, mu_up (get_lt hy) hlb⟩
    | (have := of_decide_eq_false h
       rw [List.length_map, List.length_map] at this
       rw [h1, h2] at ho
       rw [List.take_of_length_le (by omega)] at hxs
       rw [hxs, show o = b.map (owedV a c d) from ho]; rfl)
    | trace_state
theorem loose_owedV {a c d : List (List Val)} : ∀ bs : List (List Val), looseL (bs.map (owedV a c d)) = true
  | [] => rfl
  | y :: bs => loose_owedV bs
theorem cnt_owedV {a c d : List (List Val)} : ∀ bs : List (List Val), cntL (bs.map (owedV a c d)) = 9 * bs.length
  | [] => rfl
  | y :: bs => by simp only [List.map_cons, cntL, owedV, cntD, cnt_owedV bs, List.length_cons]; omega
theorem owed_list (s : Sto) : owedM s = [] ∨ ∃ a b c d : List (List Val), b.length ≤ 60 ∧ owedM s = b.map (owedV a c d) := by
  unfold owedM
  cases h : engOk s with
  | false => exact .inl rfl
  | true =>
    obtain ⟨a, b, c, d, h1, hE, _⟩ := eng_ok h
    refine .inr ⟨a, b, c, d, hE.outs.most, ?_⟩
    simp only
    rw [h1]; rfl
theorem loose_owed (s : Sto) : looseL (owedM s) = true := by
  rcases owed_list s with h | ⟨a, b, c, d, _, h⟩
  · rw [h]; rfl
  · rw [h]; exact loose_owedV b
theorem mark_owed (s : Sto) : AllOf isOwed (owedM s) ∧ ∃ (q : Int) (m : List D), 0 ≤ q ∧ Ent Tryz.prog 21 [.own 0, .d (.i .i64 1)] [.arr 9 false (owedM s)] (.d (.i .i64 q)) [.arr 9 false m] ∧ Ent Tryz.prog 22 [.d (.sl false m), .d (.i .i64 1)] [] (.d (.i .i64 q)) [] := by
  have h1 : AllOf isOwed (owedM s) ∧ cntL (owedM s) ≤ 540 := by
    rcases owed_list s with h | ⟨a, b, c, d, hl, h⟩
    · rw [h]; exact ⟨⟨Nat.zero_le _, fun x hx => absurd hx List.not_mem_nil⟩, Nat.zero_le _⟩
    · rw [h, cnt_owedV]
      exact ⟨⟨by rw [List.length_map]; exact le_max2 (by omega), fun x hx => by obtain ⟨y, _, rfl⟩ := List.mem_map.1 hx; exact ⟨_, _, _, _, _, _, _, _, _, rfl⟩⟩, by omega⟩
  obtain ⟨h1, h2⟩ := h1
  have f1 : Fine (owedM s) 1 := ⟨by decide, by omega⟩
  have hq := f1.out
  exact ⟨h1, _, _, by omega, markOwedS _ h1 1 (by decide), heldOwedS _ h1 1 f1⟩
set_option maxHeartbeats 8000000 in
theorem engineOwedLaw (s : Sto) (hf : s.fit2) : Ent Tryz.prog 5 [.d (stoD s)] [] (.d (.b true)) [] := by
  have c0 := szStore s hf 1048576 (by decide) (by decide)
  by_cases hw : wSto s ≤ 1048576
  · have hz := sz_sto hw
    have hs := sto_fits hw hf
    have c1 := specEngineOwed s hs
    have c2 := implEngineOwed s hs
    have c3 := toStore s hz
    have c4 := eq_sto hz
    obtain ⟨p, m1, m2, m3, hp, c5⟩ := mark_sto hw
    obtain ⟨h1, q, m, hq, c7, c8⟩ := mark_owed s
    have c6 := eqOwedS _ h1
    unfold stoD at c1 c2 c4
    rw [← erase_tabs] at c1 c2 c4
    have hno : ((AV.own 0).loose && flatObs [.arr 9 false (owedM s)]) = false → False := fun h => by simp only [AV.loose, flatObs, loose_owed] at h; cases h
    generalize owedM s = o at *
    have hpos : ¬ q < 0 := by omega
    have kpos : ¬ p < 0 := by omega
    refine ent_of (cx := ⟨tab, [15, 21], []⟩) tok mixed (f := 5) Tryz.func5 (by kernel_rfl) (keep := false) ?_
    repeat' ((conv => whnf) <;> (first | ((with_reducible refine isCall ?_) <;> (first | (refine ⟨_, c0, ?_⟩; rintro _ _ ⟨r, rfl, rfl, hr0, hr⟩) | (refine ⟨_, c3, ?_⟩; rintro _ _ ⟨rfl, rfl⟩) | (refine ⟨_, c1, ?_⟩; rintro _ _ ⟨rfl, rfl⟩) | (refine ⟨_, c2, ?_⟩; rintro _ _ ⟨rfl, rfl⟩) | (refine ⟨_, c4, ?_⟩; rintro _ _ ⟨rfl, rfl⟩) | (refine ⟨_, c5, ?_⟩; rintro _ _ ⟨rfl, rfl⟩) | (refine ⟨_, c6, ?_⟩; rintro _ _ ⟨rfl, rfl⟩) | (refine ⟨_, c7, ?_⟩; rintro _ _ ⟨rfl, rfl⟩) | (refine ⟨_, c8, ?_⟩; rintro _ _ ⟨rfl, rfl⟩) | fail)) | ((with_reducible refine isCut ?_) <;> (first | refine ⟨⟨none⟩, ?_⟩)) | ((first | with_reducible refine isEx ?_ | with_reducible refine isAnd ?_ | with_reducible refine isOr ?_) <;> (first | ((with_reducible refine isSmall ?_) <;> (refine ⟨?_, ?_⟩; kernel_rfl)) | refine ⟨rfl, ?_⟩ | refine ⟨Int.natCast_nonneg _, ?_⟩)) | with_reducible refine Both.mk ?_ ?_ | (exfalso; refine hno ?_; assumption) | (exfalso; exact absurd (of_decide_eq_true (by assumption)) hpos) | (exfalso; exact absurd (of_decide_eq_true (by assumption)) kpos) | rintro _ rfl | exact rfl | (split <;> (rename_i h; first | (simp only [beq_self_eq_true, eq_self, decide_true, Bool.not_true, Bool.false_eq_true] at h; done) | (try rw [h])))))
    all_goals (conv => whnf)
    all_goals trace_state
  ·
    refine ent_of tok mixed (f := 5) Tryz.func5 (by kernel_rfl) (keep := false) ?_
    repeat' ((conv => whnf) <;> (first | ((with_reducible refine isCall ?_) <;> (first | (refine ⟨_, c0, ?_⟩; rintro _ _ ⟨r, rfl, rfl, hr0, hr⟩) | fail)) | ((with_reducible refine isCut ?_) <;> (first | refine ⟨⟨none⟩, ?_⟩)) | ((first | with_reducible refine isEx ?_ | with_reducible refine isAnd ?_ | with_reducible refine isOr ?_) <;> (first | ((with_reducible refine isSmall ?_) <;> (refine ⟨?_, ?_⟩; kernel_rfl)) | refine ⟨rfl, ?_⟩ | refine ⟨Int.natCast_nonneg _, ?_⟩)) | with_reducible refine Both.mk ?_ ?_ | (exfalso; have p1 := Int.not_lt.1 (of_decide_eq_false (by assumption : decide (r < 0) = false)); have q1 := hr p1; exact hw (by omega)) | rintro _ rfl | exact rfl | (split <;> (rename_i h; first | (simp only [beq_self_eq_true, eq_self, decide_true, Bool.not_true, Bool.false_eq_true] at h; done) | (try rw [h])))))
    all_goals (conv => whnf)
    all_goals trace_state
end Go.Pm.Tryz
namespace Go.Proofs.YtdhogadndcjjlaaGreat.fnExactEngineOwed
open Go Go.Proofs Go.ChangeShapes Go.WideShapes Go.ChangeAt Go.RowKit Go.Pm
set_option linter.unusedVariables false
set_option maxRecDepth 100000
theorem own : ownKnob Tryz.prog.godebug = none := by kernel_rfl
theorem kids : Kids Tryz.prog (· < Tryz.prog.types.size) := kids_rows (by kernel_rfl) (by kernel_rfl)
theorem full : ∀ t e, t < Tryz.prog.types.size → Tryz.prog.underlying t = some (.slice e) → 0 < Tryz.prog.cellsOf e := slices_full_of Tryz.prog (by kernel_rfl)
theorem sh30 : shOf Tryz.prog 9 30 = some (Go.Pm.Tryz.stoSh) := by kernel_rfl
theorem lifted (os : Os) (started : os.Started) (H : Type) (enc : TypeId × Value → H) :
    ReturnsInHanded {} Tryz.checked os 5 .any (Rows.fnExactEngineOwedSpec.pre6 enc Tryz.prog Tryz.f5 Rows.fnExactEngineOwedRow.domain false) (Rows.fnExactEngineOwedSpec.post enc Tryz.prog Tryz.f5 false true false false) := by
  refine returnsInHanded_of_change_sized (C := Tryz.checked) own started (by kernel_rfl) Tryz.func5
    (ChangeSpec.witness6 (enc := enc) (C := Tryz.checked) false ⟨#[], #[.agg #[.slice none 0 0, .slice none 0 0, .slice none 0 0, .int .i64 0, .int .i64 0]], []⟩ 8 (by kernel_rfl) (by kernel_rfl) (by kernel_rfl) (by kernel_rfl)) ?_
  intro W base args ds gs before hval0 hW hcnd hsz0 _
  have hval : ∀ (j : Nat) t v, Tryz.f5.params[j]? = some t → args[j]? = some v → Value.okWide Tryz.prog W .any base t v := hval0
  have hW' := hW
  obtain ⟨p, q, hA0, hV, rfl, hfz, hnd⟩ := hW
  have hA : DataW.TrodAll enc Tryz.prog W 0 (fun _ => true) true Tryz.f5.params.toList args.toList ds p := hA0
  rw [Tryz.params5] at hA hval
  obtain ⟨rfl, rfl⟩ := trodVars_none hV
  have hA1 := hA
  obtain ⟨v0, d0, rfl, rfl, h0⟩ := trodAll_one hA
  obtain ⟨x0, hx0, hrep0⟩ := arg_rep (X := noX) (fun b h => h) sh30 (hval 0 30 v0 rfl rfl) h0
  obtain ⟨s, rfl, hf⟩ := Go.Pm.Tryz.sto_of hx0
  refine (law_calls (Go.Pm.Tryz.engineOwedLaw s hf) (W := W) (args := #[v0]) ?_).mono fun e W' ⟨he, bel⟩ => ?_
  · simp only [AV.repL, AV.rep]; exact ⟨v0, [], rfl, hrep0, rfl⟩
  subst he
  exact ⟨_, rfl, _, _, _, [], _, [], hW', trodAll_mk1 (shut_bool Tryz.underlying4 _), args_same kids full bel hA1 (by kernel_rfl), rfl, bel.frame _, fun h => by cases h⟩
theorem fact0 : Tryz.prog.inPlace 5 = Rows.fnExactEngineOwedRow.inPlace := by kernel_rfl
theorem fact1 : Tryz.prog.unfollowed 5 = Rows.fnExactEngineOwedRow.unfollowed := by kernel_rfl
theorem fact2 : Tryz.prog.recurses 5 = Rows.fnExactEngineOwedRow.recurses := by kernel_rfl
theorem fact3 : Tryz.prog.varsNamed 5 = Rows.fnExactEngineOwedRow.named := by kernel_rfl
theorem joined : joinedFacts Tryz.prog 5 Tryz.f5 Rows.fnExactEngineOwedSpec Rows.fnExactEngineOwedRow = true := by
  unfold joinedFacts
  rw [fact0, fact1, fact2, fact3]
  kernel_rfl
theorem over : Rows.fnExactEngineOwedRow.holds Tryz.pinned (OpenSpec.ofChange Rows.fnExactEngineOwedSpec) :=
  OpenClaim.holds_of_wide 5 Tryz.f5 rfl rfl rfl rfl rfl rfl rfl ⟨rfl, rfl, rfl, rfl, rfl⟩ rfl rfl rfl rfl rfl (by kernel_rfl) Tryz.func5 joined
    (of_decide_eq_true (by kernel_rfl)) (by unfold Func.isWrapper; first | (rw [if_pos (by decide +kernel)]; kernel_rfl) | (rw [if_neg (by decide +kernel)]; exact ⟨rfl, rfl⟩))
    (fun os started H enc _ => lifted os started H enc)
end Go.Proofs.YtdhogadndcjjlaaGreat.fnExactEngineOwed
namespace Go.Proofs.YtdhogadndcjjlaaGreat
theorem fnExactEngineOwed_holds : Rows.FnExactEngineOwedSaid := fnExactEngineOwed.over
#print axioms fnExactEngineOwed_holds
end Go.Proofs.YtdhogadndcjjlaaGreat
