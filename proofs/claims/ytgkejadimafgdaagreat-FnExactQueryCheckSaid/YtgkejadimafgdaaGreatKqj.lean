/-
A part of the proof (packed).
-/
import Derived.Test.YtgkejadimafgdaaGreatKqi
namespace Go.Pm.Tryz
open Go Go.Proofs
set_option linter.unusedVariables false
set_option linter.unusedSimpArgs false
set_option maxRecDepth 2000000
set_option maxHeartbeats 1000000 in
theorem specGrouped (q : Qry) (hf : q.fits) : Ent Tryz.prog 39 [.d (qryD q)] [] (.d (.b (grouped q))) [] := by
  have hl : q.items.length ≤ maxLen := le_max2 hf.items
  obtain ⟨o, ho⟩ : ∃ o, o = grouped q := ⟨_, rfl⟩
  rw [← ho]
  unfold grouped at ho
  obtain ⟨p, hp⟩ : ∃ p : Item → Bool, p = fun i => !decide (i.agg = 0) := ⟨_, rfl⟩
  rw [← hp] at ho
  refine ent_of tok mixed (f := 39) Tryz.func39 (by kernel_rfl) (keep := false) ?_
  repeat' ((conv => whnf) <;> (first | ((with_reducible refine isCall ?_) <;> (first | (obtain ⟨x, hx⟩ := get_ex (ss := q.items) (k := k) (lt_of_dec (by assumption)); refine ⟨_, get_map' hx, ?_⟩) | fail)) | ((with_reducible refine isLoop ?_) <;> (first | (refine ⟨[1, 3], [10001], fun st => ∃ (k : Nat) (i : Int), i = k ∧ (q.items.take k).any p = false ∧ st = ⟨[(1, .ptr 10001 0), (3, .d (.i .i64 i))], [(10001, .var (qryC q))]⟩, fun s' => match look 3 s'.env with | some (.d (.i _ n)) => q.items.length - n.toNat | _ => 0, rfl, ⟨0, _, rfl, rfl, rfl⟩, ?_⟩; rintro st ⟨k, i, rfl, hu, rfl⟩) | (obtain ⟨x, hx⟩ := get_ex (ss := q.items) (k := k) (lt_of_dec (by assumption)); refine ⟨_, get_map' hx, ?_⟩) | fail)) | ((with_reducible refine isCut ?_) <;> (first | refine ⟨⟨none⟩, ?_⟩)) | ((first | with_reducible refine isEx ?_ | with_reducible refine isAnd ?_ | with_reducible refine isOr ?_) <;> (first | (obtain ⟨x, hx⟩ := get_ex (ss := q.items) (k := k) (lt_of_dec (by assumption)); refine ⟨_, get_map' hx, ?_⟩) | ((with_reducible refine isSmall ?_) <;> (refine ⟨?_, ?_⟩; kernel_rfl)) | refine ⟨rfl, ?_⟩ | refine ⟨Int.natCast_nonneg _, ?_⟩)) | with_reducible refine Both.mk ?_ ?_ | rintro _ rfl | exact rfl | (split <;> (rename_i h; first | (simp only [beq_self_eq_true, eq_self, decide_true, Bool.not_true, Bool.false_eq_true] at h; done) | (try rw [h])))))
  all_goals try (conv => whnf)
  all_goals first
    | (have h1 : p x = true := by rw [hp]; exact h
       have h2 : q.items.any p = true := List.any_eq_true.2 ⟨x, get_mem hx, h1⟩
       rw [ho, h2, Bool.or_true]; exact ⟨rfl, rfl⟩)
    | exact ⟨⟨k + 1, _, step_up (get_lt hx) hl, anyP_up hu hx (by rw [hp]; exact h), rfl⟩, mu_up (get_lt hx) hl⟩
    | (have h2 := (any_end hu h).symm
       rw [ho, h2]
       refine ⟨congrArg (fun b => AV.d (D.b b)) ?_, rfl⟩
       show _ = (!em q.group || false)
       rw [Bool.or_false]; rfl)
    | trace_state
def itemS (q : Qry) (i : Item) : Bool := itemOk i && !(decide (i.agg = 0) && (grouped q && !decide (i.col = q.group)))
theorem all_take {α : Type} {p : α → Bool} {xs : List α} {k : Nat} {x : α} (hu : (xs.take k).all p = true) (hx : xs[k]? = some x) (h : p x = true) : (xs.take (k + 1)).all p = true := by
  rw [take_up hx, List.all_append, hu, List.all_cons, h]; rfl
theorem all_no {α : Type} {p : α → Bool} {xs : List α} {k : Nat} {x : α} (hx : xs[k]? = some x) (h : p x = false) : xs.all p = false := by
  rw [List.all_eq_false]
  exact ⟨x, get_mem hx, by rw [h]; exact Bool.noConfusion⟩
theorem all_end {α : Type} {p : α → Bool} {f : α → D} {xs : List α} {k : Nat} (hu : (xs.take k).all p = true) (h : decide ((k : Int) < ((xs.map f).length : Int)) = false) : xs.all p = true := by
  have := of_decide_eq_false h
  rw [List.length_map] at this
  rw [List.take_of_length_le (by omega)] at hu
  exact hu
theorem item_if (x : Item) : itemOk x = (if x.agg = 1 then decide (x.col = []) else (decide (0 ≤ x.agg ∧ x.agg ≤ 4) && colOk x.col)) := by
  unfold itemOk em
  by_cases h : x.agg = 1
  · rw [decide_eq_true h, if_pos h]
  · rw [decide_eq_false h, if_neg h, Bool.decide_and]
theorem item_out {x : Item} (h : x.agg < 0 ∨ x.agg > 4) : itemOk x = false := by
  rw [item_if, if_neg (by omega), decide_eq_false (by omega)]; rfl
theorem len_in {q : Qry} (h1 : decide (((q.items.map itemD).length : Int) < 1) = false) (h2 : decide (((q.items.map itemD).length : Int) > 10) = false) : inside (q.items.length : Int) 1 10 = true := by
  have h1 := of_decide_eq_false h1; have h2 := of_decide_eq_false h2
  rw [List.length_map] at h1 h2
  simp only [inside, Bool.and_eq_true, decide_eq_true_eq]; omega
theorem len_lo {q : Qry} (h1 : decide (((q.items.map itemD).length : Int) < 1) = true) : inside (q.items.length : Int) 1 10 = false := by
  have h1 := of_decide_eq_true h1
  rw [List.length_map] at h1
  simp only [inside, Bool.and_eq_false_iff, decide_eq_false_iff_not]; omega
theorem len_hi {q : Qry} (h1 : decide (((q.items.map itemD).length : Int) > 10) = true) : inside (q.items.length : Int) 1 10 = false := by
  have h1 := of_decide_eq_true h1
  rw [List.length_map] at h1
  simp only [inside, Bool.and_eq_false_iff, decide_eq_false_iff_not]; omega
set_option maxHeartbeats 2000000 in
theorem specItems (q : Qry) (hk : q.ok) : Ent Tryz.prog 35 [.d (qryD q)] [] (.d (.b (inside (q.items.length : Int) 1 10 && q.items.all (itemS q)))) [] := by
  have hl : q.items.length ≤ maxLen := le_max2 hk.f.items
  have c2 := specGrouped q hk.f
  obtain ⟨p, hp⟩ : ∃ p : Item → Bool, p = itemS q := ⟨_, rfl⟩
  obtain ⟨o, ho⟩ : ∃ o, o = (inside (q.items.length : Int) 1 10 && q.items.all (itemS q)) := ⟨_, rfl⟩
  have hpe : ∀ x : Item, p x = (itemOk x && !(decide (x.agg = 0) && (grouped q && !decide (x.col = q.group)))) := fun x => by rw [hp]; rfl
  rw [← ho]
  rw [← hp] at ho
  generalize grouped q = bg at *
  refine ent_of tok mixed (f := 35) Tryz.func35 (by kernel_rfl) (keep := false) ?_
  repeat' ((conv => whnf) <;> (first | ((with_reducible refine isCall ?_) <;> (first | (refine ⟨_, c2, ?_⟩; rintro _ _ ⟨rfl, rfl⟩) | (refine ⟨_, c1, ?_⟩; rintro _ _ ⟨rfl, rfl⟩) | (obtain ⟨x, hx⟩ := get_ex (ss := q.items) (k := k) (lt_of_dec (by assumption)); have c1 := specColumn x.col (hk.icol x (get_mem hx)); have hpx := hpe x; refine ⟨_, get_map' hx, ?_⟩) | fail)) | ((with_reducible refine isLoop ?_) <;> (first | (refine ⟨[1, 3], [10001], fun st => ∃ (k : Nat) (i : Int), i = k ∧ (q.items.take k).all p = true ∧ inside (q.items.length : Int) 1 10 = true ∧ st = ⟨[(1, .ptr 10001 0), (3, .d (.i .i64 i))], [(10001, .var (qryC q))]⟩, fun s' => match look 3 s'.env with | some (.d (.i _ n)) => q.items.length - n.toNat | _ => 0, rfl, ⟨0, _, rfl, rfl, ?_, rfl⟩, ?_⟩; rotate_left; rintro st ⟨k, i, rfl, hu, hin, rfl⟩) | (obtain ⟨x, hx⟩ := get_ex (ss := q.items) (k := k) (lt_of_dec (by assumption)); have c1 := specColumn x.col (hk.icol x (get_mem hx)); have hpx := hpe x; refine ⟨_, get_map' hx, ?_⟩) | fail)) | ((with_reducible refine isCut ?_) <;> (first | refine ⟨⟨none⟩, ?_⟩)) | ((first | with_reducible refine isEx ?_ | with_reducible refine isAnd ?_ | with_reducible refine isOr ?_) <;> (first | (obtain ⟨x, hx⟩ := get_ex (ss := q.items) (k := k) (lt_of_dec (by assumption)); have c1 := specColumn x.col (hk.icol x (get_mem hx)); have hpx := hpe x; refine ⟨_, get_map' hx, ?_⟩) | ((with_reducible refine isSmall ?_) <;> (refine ⟨?_, ?_⟩; kernel_rfl)) | refine ⟨rfl, ?_⟩ | refine ⟨Int.natCast_nonneg _, ?_⟩)) | with_reducible refine Both.mk ?_ ?_ | rintro _ rfl | exact rfl | (split <;> (rename_i h; first | (simp only [beq_self_eq_true, eq_self, decide_true, Bool.not_true, Bool.false_eq_true] at h; done) | (try rw [h])))))
  all_goals try (conv => whnf)
  all_goals first
    | exact len_in (by assumption) (by assumption)
    | (rw [ho, len_lo h]; exact ⟨rfl, rfl⟩)
    | (rw [ho, len_hi h]; exact ⟨rfl, rfl⟩)
    | (have hpf : p x = true := by
         rw [hpx, item_if]
         clear hpx hpe ho c2 c1 hu hin hl hk
         simp_all <;> omega
       exact ⟨⟨k + 1, _, step_up (get_lt hx) hl, all_take hu hx hpf, hin, rfl⟩, mu_up (get_lt hx) hl⟩)
    | (have hpf : p x = false := by
         rw [hpx, item_if]
         clear hpx hpe ho c2 c1 hu hin hl hk
         simp_all <;> omega
       rw [ho, all_no hx hpf, Bool.and_false]; exact ⟨rfl, rfl⟩)
    | (have hpf : p x = false := by rw [hpx, item_out (by have := of_decide_eq_true h; omega)]; rfl
       rw [ho, all_no hx hpf, Bool.and_false]; exact ⟨rfl, rfl⟩)
    | (rw [ho, hin, all_end hu h]; exact ⟨rfl, rfl⟩)
    | trace_state
theorem any_all {α : Type} (p : α → Bool) (xs : List α) : (xs.any fun x => !p x) = !xs.all p := by
  induction xs with
  | nil => rfl
  | cons x xs ih => simp only [List.all_cons, List.any_cons, ih, Bool.not_and]
theorem all_S (q : Qry) : q.items.all (itemS q) = (q.items.all itemOk && (!grouped q || q.items.all (plainIn q))) := by
  cases hg : grouped q with
  | false =>
    have : itemS q = itemOk := by
      funext i
      unfold itemS
      rw [hg]; simp
    rw [this]; simp
  | true =>
    have : ∀ i, itemS q i = (itemOk i && plainIn q i) := fun i => by
      unfold itemS plainIn
      rw [hg]; simp
    rw [Bool.not_true, Bool.false_or]
    induction q.items with
    | nil => rfl
    | cons x xs ih =>
      rw [List.all_cons, List.all_cons, List.all_cons, ih, this]
      cases itemOk x <;> cases plainIn q x <;> cases xs.all itemOk <;> rfl
noncomputable def qryS (q : Qry) : Bool := (((((inside (q.items.length : Int) 1 10 && q.items.all (itemS q)) && nameOk q.table) && decide (q.wh.length ≤ 20)) && inside q.limit (-1) 1000) && joinOk q) && (q.wh.all termOk && ((((em q.group || colOk q.group) && (em q.order || colOk q.order)) && (!q.down || !em q.order)) && (!grouped q || (em q.order || decide (q.order = q.group)))))
theorem qryS_eq (q : Qry) : qryS q = qryOk q := by
  unfold qryS qryOk
  rw [all_S]
  generalize inside (q.items.length : Int) 1 10 = a1
  generalize q.items.all itemOk = a2
  generalize q.items.all (plainIn q) = a3
  generalize nameOk q.table = a4
  generalize decide (q.wh.length ≤ 20) = a5
  generalize inside q.limit (-1) 1000 = a6
  generalize joinOk q = a7
  generalize q.wh.all termOk = a8
  generalize ((em q.group || colOk q.group) && (em q.order || colOk q.order)) = a9
  generalize (em q.order || decide (q.order = q.group)) = a10
  generalize grouped q = a11
  rw [Bool.or_comm (!q.down)]
  generalize (!em q.order || !q.down) = a12
  cases a1
  · simp
  cases a2
  · simp
  cases a4
  · simp
  cases a5
  · simp
  cases a6
  · simp
  cases a7
  · simp
  cases a8
  · simp
  cases a9
  · simp
  cases a12
  · simp
  cases a11 <;> cases a10 <;> cases a3 <;> rfl
set_option maxHeartbeats 40000000 in
theorem specQueryRight (q : Qry) (hk : q.ok) : Ent Tryz.prog 16 [.d (qryD q)] [] (.d (.b (qryOk q))) [] := by
  have hf := hk.f
  have hl : q.wh.length ≤ maxLen := le_max2 hf.wh
  have c0 := specItems q hk
  have c2 := specNameRight q.table (le_max2 hf.table)
  have c3 := specNameRight q.join (le_max2 hf.join)
  have c4 := specColumn q.left hk.left
  have c5 := specColumn q.right hk.right
  have c7 := specColumn q.group hk.group
  have c8 := specColumn q.order hk.order
  have c10 := specGrouped q hf
  obtain ⟨o, ho⟩ : ∃ o, o = qryOk q := ⟨_, rfl⟩
  rw [← ho]
  rw [← qryS_eq, qryS] at ho
  unfold joinOk em at ho
  obtain ⟨p, hp⟩ : ∃ p : Term → Bool, p = termOk := ⟨_, rfl⟩
  rw [← hp] at ho
  generalize (inside (q.items.length : Int) 1 10 && q.items.all (itemS q)) = b0 at *
  generalize nameOk q.table = b2 at *
  generalize nameOk q.join = b3 at *
  generalize colOk q.left = b4 at *
  generalize colOk q.right = b5 at *
  generalize colOk q.group = b7 at *
  generalize colOk q.order = b8 at *
  generalize grouped q = b10 at *
  have hterm := hk.term
  obtain ⟨items, table, join, left, right, wh, group, order, down, limit⟩ := q
  dsimp only at *
  cases down
  all_goals
    refine ent_of tok mixed (f := 16) Tryz.func16 (by kernel_rfl) (keep := false) ?_
    repeat' ((conv => whnf) <;> (first | ((with_reducible refine isCall ?_) <;> (first | (refine ⟨_, c0, ?_⟩; rintro _ _ ⟨rfl, rfl⟩) | (refine ⟨_, c2, ?_⟩; rintro _ _ ⟨rfl, rfl⟩) | (refine ⟨_, c3, ?_⟩; rintro _ _ ⟨rfl, rfl⟩) | (refine ⟨_, c4, ?_⟩; rintro _ _ ⟨rfl, rfl⟩) | (refine ⟨_, c5, ?_⟩; rintro _ _ ⟨rfl, rfl⟩) | (refine ⟨_, c6, ?_⟩; rintro _ _ ⟨rfl, rfl⟩) | (refine ⟨_, c7, ?_⟩; rintro _ _ ⟨rfl, rfl⟩) | (refine ⟨_, c8, ?_⟩; rintro _ _ ⟨rfl, rfl⟩) | (refine ⟨_, c10, ?_⟩; rintro _ _ ⟨rfl, rfl⟩) | (obtain ⟨x, hx⟩ := get_ex (ss := wh) (k := k) (lt_of_dec (by assumption)); have c6 := specTerm x (hterm x (get_mem hx)); rw [← hp] at c6; refine ⟨_, get_map' hx, ?_⟩) | fail)) | ((with_reducible refine isLoop ?_) <;> (first | (refine ⟨[1, 3], [10001], fun st => ∃ (k : Nat) (i : Int), i = k ∧ (wh.take k).all p = true ∧ st = ⟨[(1, .ptr 10001 0), (3, .d (.i .i64 i))], [(10001, .var (qryC ⟨items, table, join, left, right, wh, group, order, _, limit⟩))]⟩, fun s' => match look 3 s'.env with | some (.d (.i _ n)) => wh.length - n.toNat | _ => 0, rfl, ⟨0, _, rfl, rfl, rfl⟩, ?_⟩; rintro st ⟨k, i, rfl, hu, rfl⟩) | (obtain ⟨x, hx⟩ := get_ex (ss := wh) (k := k) (lt_of_dec (by assumption)); have c6 := specTerm x (hterm x (get_mem hx)); rw [← hp] at c6; refine ⟨_, get_map' hx, ?_⟩) | fail)) | ((with_reducible refine isCut ?_) <;> (first | refine ⟨⟨none⟩, ?_⟩)) | ((first | with_reducible refine isEx ?_ | with_reducible refine isAnd ?_ | with_reducible refine isOr ?_) <;> (first | (obtain ⟨x, hx⟩ := get_ex (ss := wh) (k := k) (lt_of_dec (by assumption)); have c6 := specTerm x (hterm x (get_mem hx)); rw [← hp] at c6; refine ⟨_, get_map' hx, ?_⟩) | ((with_reducible refine isSmall ?_) <;> (refine ⟨?_, ?_⟩; kernel_rfl)) | refine ⟨rfl, ?_⟩ | refine ⟨Int.natCast_nonneg _, ?_⟩)) | with_reducible refine Both.mk ?_ ?_ | rintro _ rfl | exact rfl | (split <;> (rename_i h; first | (simp only [beq_self_eq_true, eq_self, decide_true, Bool.not_true, Bool.false_eq_true] at h; done) | (try rw [h])))))
  all_goals try (conv => whnf)
  all_goals first
    | exact ⟨⟨k + 1, _, step_up (get_lt hx) hl, all_take hu hx (not_ok (by assumption)), rfl⟩, mu_up (get_lt hx) hl⟩
    | skip
  all_goals first
    | (have hu2 := all_no (p := p) hx (by simpa using h)
       rw [hu2] at ho
       clear hu2 c0 c2 c3 c4 c5 c6 c7 c8 c10 hk hf hp hterm
       refine ⟨congrArg (fun b => AV.d (D.b b)) ?_, rfl⟩)
    | (have hu2 := all_end (p := p) (f := termD) hu (by assumption)
       rw [hu2] at ho
       clear hu2 c0 c2 c3 c4 c5 c7 c8 c10 hk hf hp hterm
       refine ⟨congrArg (fun b => AV.d (D.b b)) ?_, rfl⟩)
    | (clear c0 c2 c3 c4 c5 c7 c8 c10 hk hf hp hterm
       refine ⟨congrArg (fun b => AV.d (D.b b)) ?_, rfl⟩)
    | trace_state
  all_goals first
    | (simp_all; done)
    | (simp_all [inside] <;> omega)
    | trace_state
end Go.Pm.Tryz
namespace Go.Pm.Tryz
open Go Go.Proofs
set_option linter.unusedVariables false
set_option linter.unusedSimpArgs false
set_option maxRecDepth 100000
noncomputable def chkM (ts : List Tab) (q : Qry) : Int := sel (dec (dbP ts)) (sel (qryOk q) (codeQ ts q) 1) 1
theorem specCheck (ts : List Tab) (hd : dbP ts) (hl : ts.length ≤ maxLen) (q : Qry) (hf : QFine q) : EntQ Tryz.prog 17 [.d (dbArg ts), .d (qryD q)] [] (Chk2 (codeQ ts q)) := by
  by_cases h1 : findM q.table ts 0 < 0
  · exact specCheckN ts hl q h1
  · by_cases hj : q.join = []
    · exact specCheckB ts hd hl q hf hj h1
    · by_cases h2 : findM q.join ts 0 < 0
      · exact specCheckJ ts hd hl q h1 hj h2
      · exact specCheckD ts hd hl q hf hj h1 h2
set_option maxHeartbeats 4000000 in
theorem specQueryCheck (ts : List Tab) (hl : ts.length ≤ 2000000) (hf : ∀ t, t ∈ ts → t.fits) (q : Qry) (hk : q.ok) : Ent Tryz.prog 6 [.d (dbArg ts), .d (qryD q)] [] (.d (.i .i64 (chkM ts q))) [] := by
  obtain ⟨o, ho⟩ : ∃ o, o = chkM ts q := ⟨_, rfl⟩
  rw [← ho]
  have c1 := specDbRight ts hl hf
  have c2 := specQueryRight q hk
  have c3 : dec (dbP ts) = true → qryOk q = true → EntQ Tryz.prog 17 [.d (dbArg ts), .d (qryD q)] [] (Chk2 (codeQ ts q)) := fun h1 h2 => specCheck ts (of_dec h1) (le_max2 hl) q (q_fine h2)
  unfold chkM at ho
  generalize codeQ ts q = c at *
  generalize dec (dbP ts) = b1 at *
  generalize qryOk q = b2 at *
  cases b1 with
  | false =>
    have e : o = 1 := ho
    subst e
    refine ent_of tok mixed (f := 6) Tryz.func6 (by kernel_rfl) (keep := false) ?_
    repeat' ((conv => whnf) <;> (first | ((with_reducible refine isCall ?_) <;> (first | (refine ⟨_, c1, ?_⟩; rintro _ _ ⟨rfl, rfl⟩) | fail)) | ((with_reducible refine isCut ?_) <;> (first | refine ⟨⟨none⟩, ?_⟩)) | ((first | with_reducible refine isEx ?_ | with_reducible refine isAnd ?_ | with_reducible refine isOr ?_) <;> (first | ((with_reducible refine isSmall ?_) <;> (refine ⟨?_, ?_⟩; kernel_rfl)) | refine ⟨rfl, ?_⟩ | refine ⟨Int.natCast_nonneg _, ?_⟩)) | with_reducible refine Both.mk ?_ ?_ | rintro _ rfl | exact rfl | (split <;> (rename_i h; first | (simp only [beq_self_eq_true, eq_self, decide_true, Bool.not_true, Bool.false_eq_true] at h; done) | (try rw [h])))))
  | true =>
    cases b2 with
    | false =>
      have e : o = 1 := ho
      subst e
      refine ent_of tok mixed (f := 6) Tryz.func6 (by kernel_rfl) (keep := false) ?_
      repeat' ((conv => whnf) <;> (first | ((with_reducible refine isCall ?_) <;> (first | (refine ⟨_, c1, ?_⟩; rintro _ _ ⟨rfl, rfl⟩) | (refine ⟨_, c2, ?_⟩; rintro _ _ ⟨rfl, rfl⟩) | fail)) | ((with_reducible refine isCut ?_) <;> (first | refine ⟨⟨none⟩, ?_⟩)) | ((first | with_reducible refine isEx ?_ | with_reducible refine isAnd ?_ | with_reducible refine isOr ?_) <;> (first | ((with_reducible refine isSmall ?_) <;> (refine ⟨?_, ?_⟩; kernel_rfl)) | refine ⟨rfl, ?_⟩ | refine ⟨Int.natCast_nonneg _, ?_⟩)) | with_reducible refine Both.mk ?_ ?_ | rintro _ rfl | exact rfl | (split <;> (rename_i h; first | (simp only [beq_self_eq_true, eq_self, decide_true, Bool.not_true, Bool.false_eq_true] at h; done) | (try rw [h])))))
    | true =>
      have e : o = c := ho
      subst e
      have c4 := c3 rfl rfl
      refine ent_of tok mixed (f := 6) Tryz.func6 (by kernel_rfl) (keep := false) ?_
      repeat' ((conv => whnf) <;> (first | ((with_reducible refine isCall ?_) <;> (first | (refine ⟨_, c1, ?_⟩; rintro _ _ ⟨rfl, rfl⟩) | (refine ⟨_, c2, ?_⟩; rintro _ _ ⟨rfl, rfl⟩) | (refine ⟨_, c4, ?_⟩; rintro _ _ (⟨rfl, (rfl | ⟨ns, ks, rfl⟩)⟩ | ⟨ns, ks, rfl, rfl⟩)) | fail)) | ((with_reducible refine isCut ?_) <;> (first | refine ⟨⟨none⟩, ?_⟩)) | ((first | with_reducible refine isEx ?_ | with_reducible refine isAnd ?_ | with_reducible refine isOr ?_) <;> (first | ((with_reducible refine isSmall ?_) <;> (refine ⟨?_, ?_⟩; kernel_rfl)) | refine ⟨rfl, ?_⟩ | refine ⟨Int.natCast_nonneg _, ?_⟩)) | with_reducible refine Both.mk ?_ ?_ | rintro _ rfl | exact rfl | (split <;> (rename_i h; first | (simp only [beq_self_eq_true, eq_self, decide_true, Bool.not_true, Bool.false_eq_true] at h; done) | (try rw [h])))))
      all_goals try (conv => whnf)
      all_goals first | exact ⟨rfl, rfl⟩ | (with_reducible trace_state)
end Go.Pm.Tryz
namespace Go.Pm.Tryz
open Go Go.Proofs
set_option linter.unusedVariables false
set_option linter.unusedSimpArgs false
set_option maxRecDepth 100000
theorem two_lt {k : Nat} {a b : List UInt8} (h : decide ((k : Int) < 2) = true) : k < [a, b].length := by
  have := of_decide_eq_true h
  show k < 2
  omega
theorem two_idx {k : Nat} {a b : List UInt8} (h : decide ((k : Int) < 2) = true) : (k : Int) < (([a, b].map strD).length : Int) := of_decide_eq_true h
theorem at_zero {α β γ : Type} (f : α → β) (g : β → γ) (h : List β) (xs : List α) : h.map g = (h ++ (xs.take 0).map f).map g := by simp
theorem names_up {ts : List Tab} {l : List (List UInt8)} {k : Nat} {x : List UInt8} (hx : l[k]? = some x) : namesL ts (l.take (k + 1)) = namesL ts (l.take k) ++ (colsOf ts x).map (nameIn x) := by
  rw [take_up hx, namesL, List.flatMap_append]; simp [namesL]
theorem kinds_up {ts : List Tab} {l : List (List UInt8)} {k : Nat} {x : List UInt8} (hx : l[k]? = some x) : kindsL ts (l.take (k + 1)) = kindsL ts (l.take k) ++ (colsOf ts x).map Col.kind := by
  rw [take_up hx, kindsL, List.flatMap_append]; simp [kindsL]
theorem cols_len {ts : List Tab} (hd : dbP ts) (nm : List UInt8) : (colsOf ts nm).length ≤ 1000 := by
  by_cases h : findM nm ts 0 < 0
  · rw [cols_none (decide_eq_true h)]; simp
  · obtain ⟨t, _, hm, _, _, e⟩ := tab_find h
    obtain ⟨k, hk, e2⟩ := List.mem_iff_getElem.1 hm
    have := (hd.tabs k t (by rw [List.getElem?_eq_getElem hk, e2])).tab.sch.hi
    rw [e]; omega
theorem names_len {ts : List Tab} (hd : dbP ts) : ∀ l : List (List UInt8), (namesL ts l).length ≤ 1000 * l.length
  | [] => by simp [namesL]
  | x :: l => by
    have h1 := names_len hd l
    have h2 := cols_len hd x
    simp only [namesL, List.flatMap_cons, List.length_append, List.length_map, List.length_cons] at h1 ⊢
    omega
theorem kinds_len {ts : List Tab} (hd : dbP ts) : ∀ l : List (List UInt8), (kindsL ts l).length ≤ 1000 * l.length
  | [] => by simp [kindsL]
  | x :: l => by
    have h1 := kinds_len hd l
    have h2 := cols_len hd x
    simp only [kindsL, List.flatMap_cons, List.length_append, List.length_map, List.length_cons] at h1 ⊢
    omega
theorem neg_of {n : Int} (h : decide (n ≥ 0) = true) : ¬ n < 0 := by have := of_decide_eq_true h; omega
theorem neg_of2 {n : Int} (h : decide (n ≥ 0) = false) : decide (n < 0) = true := by have := of_decide_eq_false h; exact decide_eq_true (by omega)
theorem end_two {k : Nat} (h : decide ((k : Int) < 2) = false) {a b : List UInt8} : [a, b].take k = [a, b] := List.take_of_length_le (by have := of_decide_eq_false h; show 2 ≤ k; omega)
set_option maxHeartbeats 8000000 in
theorem implColsOf (ts : List Tab) (hd : dbP ts) (hl : ts.length ≤ maxLen) (q : Qry) : Ent Tryz.prog 24 [.d (dbArg ts), .d (qryD q)] [] (.tup [.d (.sl false ((namesL ts [q.table, q.join]).map strD)), .d (.sl false ((kindsL ts [q.table, q.join]).map i64D))]) [] := by
  have hnl : ∀ k : Nat, (namesL ts ([q.table, q.join].take k)).length ≤ 2000 := fun k => by have := names_len hd ([q.table, q.join].take k); rw [List.length_take, show [q.table, q.join].length = 2 from rfl] at this; omega
  have hkl : ∀ k : Nat, (kindsL ts ([q.table, q.join].take k)).length ≤ 2000 := fun k => by have := kinds_len hd ([q.table, q.join].take k); rw [List.length_take, show [q.table, q.join].length = 2 from rfl] at this; omega
  refine ent_of tok mixed (f := 24) Tryz.func24 (by kernel_rfl) (keep := false) ?_
  repeat' ((conv => whnf) <;> (first | ((with_reducible refine isCall ?_) <;> (first | (refine ⟨_, cf, ?_⟩; rintro _ _ ⟨rfl, rfl⟩) | (refine ⟨(by simp only [List.length_append, List.length_cons, List.length_nil]; omega), ?_⟩) | (refine ⟨⟨by decide, rfl, rfl, roomL (by rw [hxs2]; simp only [List.length_map, List.length_append, List.length_take]; have := hnl k; omega) (by decide)⟩, ?_⟩) | (refine ⟨⟨by decide, rfl, rfl, roomL (by rw [hys2]; simp only [List.length_map, List.length_append, List.length_take]; have := hkl k; omega) (by decide)⟩, ?_⟩) | (refine ⟨⟨Int.natCast_nonneg _, two_idx (by assumption)⟩, ?_⟩) | (refine ⟨⟨Int.natCast_nonneg _, of_decide_eq_true (by assumption)⟩, ?_⟩) | (refine ⟨Int.natCast_nonneg _, ?_⟩) | (refine ⟨_, hget, ?_⟩) | (obtain ⟨t, hget, hm, hname, hin, hcols⟩ := tab_find (ts := ts) (nm := x) (neg_of (by assumption)); have ⟨kt, hkt, ekt⟩ := List.mem_iff_getElem.1 hm; have hP := (hd.tabs kt t (by rw [List.getElem?_eq_getElem hkt, ekt])).tab; have hb := hP.sch.hi; have hnm : x.length ≤ 20 := hname ▸ name_len hP.sch.name; refine ⟨hin, ?_⟩) | (obtain ⟨t, hget, hm, hname, hin, hcols⟩ := tab_find (ts := ts) (nm := x) (neg_of (by assumption)); have ⟨kt, hkt, ekt⟩ := List.mem_iff_getElem.1 hm; have hP := (hd.tabs kt t (by rw [List.getElem?_eq_getElem hkt, ekt])).tab; have hb := hP.sch.hi; have hnm : x.length ≤ 20 := hname ▸ name_len hP.sch.name; refine ⟨hin.1, ?_⟩) | fail)) | ((with_reducible refine isLoop ?_) <;> (first | (refine ⟨[2, 6, 7, 9, 19, 20, 21, 35, 36, 37], [10002, 10013, 10014, 10019], fun st => ∃ (k2 : Nat) (i2 : Int) (xs2 ys2 : List D), i2 = k2 ∧ xs2 = (namesL ts ([q.table, q.join].take k) ++ (t.sch.cols.take k2).map (nameIn x)).map strD ∧ ys2 = (kindsL ts ([q.table, q.join].take k) ++ (t.sch.cols.take k2).map Col.kind).map i64D ∧ st = ⟨[(2, .ptr 10002 0), (6, .own 10013), (7, .own 10014), (9, .d (.s x)), (19, .own 10019), (20, .d (.i .i64 2)), (21, .d (.i .i64 (k : Int))), (35, .d (.sl false (t.sch.cols.map colD))), (36, .d (.i .i64 ((t.sch.cols.map colD).length : Int))), (37, .d (.i .i64 i2))], [(10002, .var [.d (.sl false (ts.map tabD))]), (10013, .arr 1 false xs2), (10014, .arr 1 false ys2), (10019, .arr 1 false ([q.table, q.join].map strD))]⟩, fun s' => match look 37 s'.env with | some (.d (.i _ n)) => t.sch.cols.length - n.toNat | _ => 0, ?_, ⟨0, _, xs, ys, rfl, hxs.trans (at_zero _ _ _ _), hys.trans (at_zero _ _ _ _), ?_⟩, ?_⟩; kernel_rfl; kernel_rfl; rintro _ ⟨k2, i2, xs2, ys2, rfl, hxs2, hys2, rfl⟩) | (refine ⟨[2, 6, 7, 19, 20, 21], [10002, 10013, 10014, 10019], fun st => ∃ (k : Nat) (i : Int) (xs ys : List D), i = k ∧ xs = (namesL ts ([q.table, q.join].take k)).map strD ∧ ys = (kindsL ts ([q.table, q.join].take k)).map i64D ∧ st = ⟨[(2, .ptr 10002 0), (6, .own 10013), (7, .own 10014), (19, .own 10019), (20, .d (.i .i64 2)), (21, .d (.i .i64 i))], [(10002, .var [.d (.sl false (ts.map tabD))]), (10013, .arr 1 false xs), (10014, .arr 1 false ys), (10019, .arr 1 false ([q.table, q.join].map strD))]⟩, fun s' => match look 21 s'.env with | some (.d (.i _ n)) => 2 - n.toNat | _ => 0, ?_, ⟨0, _, _, _, rfl, rfl, rfl, ?_⟩, ?_⟩; kernel_rfl; kernel_rfl; rintro _ ⟨k, i, xs, ys, rfl, hxs, hys, rfl⟩) | (refine ⟨(by simp only [List.length_append, List.length_cons, List.length_nil]; omega), ?_⟩) | (refine ⟨⟨by decide, rfl, rfl, roomL (by rw [hxs2]; simp only [List.length_map, List.length_append, List.length_take]; have := hnl k; omega) (by decide)⟩, ?_⟩) | (refine ⟨⟨by decide, rfl, rfl, roomL (by rw [hys2]; simp only [List.length_map, List.length_append, List.length_take]; have := hkl k; omega) (by decide)⟩, ?_⟩) | (refine ⟨⟨Int.natCast_nonneg _, two_idx (by assumption)⟩, ?_⟩) | (refine ⟨⟨Int.natCast_nonneg _, of_decide_eq_true (by assumption)⟩, ?_⟩) | (refine ⟨Int.natCast_nonneg _, ?_⟩) | (refine ⟨_, hget, ?_⟩) | (obtain ⟨t, hget, hm, hname, hin, hcols⟩ := tab_find (ts := ts) (nm := x) (neg_of (by assumption)); have ⟨kt, hkt, ekt⟩ := List.mem_iff_getElem.1 hm; have hP := (hd.tabs kt t (by rw [List.getElem?_eq_getElem hkt, ekt])).tab; have hb := hP.sch.hi; have hnm : x.length ≤ 20 := hname ▸ name_len hP.sch.name; refine ⟨hin, ?_⟩) | (obtain ⟨t, hget, hm, hname, hin, hcols⟩ := tab_find (ts := ts) (nm := x) (neg_of (by assumption)); have ⟨kt, hkt, ekt⟩ := List.mem_iff_getElem.1 hm; have hP := (hd.tabs kt t (by rw [List.getElem?_eq_getElem hkt, ekt])).tab; have hb := hP.sch.hi; have hnm : x.length ≤ 20 := hname ▸ name_len hP.sch.name; refine ⟨hin.1, ?_⟩) | fail)) | ((with_reducible refine isCut ?_) <;> (first | refine ⟨⟨none⟩, ?_⟩)) | ((first | with_reducible refine isEx ?_ | with_reducible refine isAnd ?_ | with_reducible refine isOr ?_) <;> (first | ((with_reducible refine isGet (xs := t.sch.cols.map colD) (i := ((k2 : Nat) : Int).toNat) ?_); obtain ⟨c, hc⟩ := get_ex (ss := t.sch.cols) (k := k2) (lt_of_dec (by assumption)); have hcn := name_len (hP.sch.cols k2 c hc).1; refine ⟨_, get_map' hc, ?_⟩) | ((with_reducible refine isGet (xs := [q.table, q.join].map strD) (i := ((k : Nat) : Int).toNat) ?_); obtain ⟨x, hx⟩ := get_ex (ss := [q.table, q.join]) (k := k) (two_lt (by assumption)); have cf := implFind ts hl x; refine ⟨_, get_map' hx, ?_⟩) | (refine ⟨(by simp only [List.length_append, List.length_cons, List.length_nil]; omega), ?_⟩) | (refine ⟨⟨by decide, rfl, rfl, roomL (by rw [hxs2]; simp only [List.length_map, List.length_append, List.length_take]; have := hnl k; omega) (by decide)⟩, ?_⟩) | (refine ⟨⟨by decide, rfl, rfl, roomL (by rw [hys2]; simp only [List.length_map, List.length_append, List.length_take]; have := hkl k; omega) (by decide)⟩, ?_⟩) | (refine ⟨⟨Int.natCast_nonneg _, two_idx (by assumption)⟩, ?_⟩) | (refine ⟨⟨Int.natCast_nonneg _, of_decide_eq_true (by assumption)⟩, ?_⟩) | (refine ⟨Int.natCast_nonneg _, ?_⟩) | (refine ⟨_, hget, ?_⟩) | (obtain ⟨t, hget, hm, hname, hin, hcols⟩ := tab_find (ts := ts) (nm := x) (neg_of (by assumption)); have ⟨kt, hkt, ekt⟩ := List.mem_iff_getElem.1 hm; have hP := (hd.tabs kt t (by rw [List.getElem?_eq_getElem hkt, ekt])).tab; have hb := hP.sch.hi; have hnm : x.length ≤ 20 := hname ▸ name_len hP.sch.name; refine ⟨hin, ?_⟩) | (obtain ⟨t, hget, hm, hname, hin, hcols⟩ := tab_find (ts := ts) (nm := x) (neg_of (by assumption)); have ⟨kt, hkt, ekt⟩ := List.mem_iff_getElem.1 hm; have hP := (hd.tabs kt t (by rw [List.getElem?_eq_getElem hkt, ekt])).tab; have hb := hP.sch.hi; have hnm : x.length ≤ 20 := hname ▸ name_len hP.sch.name; refine ⟨hin.1, ?_⟩) | ((with_reducible refine isSmall ?_) <;> (refine ⟨?_, ?_⟩; kernel_rfl)) | refine ⟨rfl, ?_⟩ | refine ⟨Int.natCast_nonneg _, ?_⟩)) | with_reducible refine Both.mk ?_ ?_ | rintro _ rfl | exact rfl | (split <;> (rename_i h; first | (simp only [beq_self_eq_true, eq_self, decide_true, Bool.not_true, Bool.false_eq_true] at h; done) | (try rw [h])))))
  all_goals try (conv => whnf)
  all_goals first
    | exact ⟨⟨k2 + 1, _, _, _, step_up (get_lt hc) (le_max2 (by omega)), (by rw [hxs2, ← hname, ← take_mapG_up hc]; exact strs_push _ _), (by rw [hys2, ← take_mapG_up hc]; exact nums_push _ _), rfl⟩, mu_up (get_lt hc) (le_max2 (by omega))⟩
    | exact ⟨⟨k + 1, _, _, _, step_up (get_lt hx) (le_max2 (by simp)), (by rw [hxs2, names_up hx, hcols, take_mapG_end (g := colD) (by assumption)]), (by rw [hys2, kinds_up hx, hcols, take_mapG_end (g := colD) (by assumption)]), rfl⟩, mu_up (get_lt hx) (le_max2 (by simp))⟩
    | exact ⟨⟨k + 1, _, _, _, step_up (get_lt hx) (le_max2 (by simp)), (by rw [hxs, names_up hx, cols_none (neg_of2 (by assumption))]; simp), (by rw [hys, kinds_up hx, cols_none (neg_of2 (by assumption))]; simp), rfl⟩, mu_up (get_lt hx) (le_max2 (by simp))⟩
    | (rw [hxs, hys, end_two h]; exact ⟨rfl, rfl⟩)
    | (with_reducible trace_state)
end Go.Pm.Tryz
namespace Go.Pm.Tryz
open Go Go.Proofs
set_option linter.unusedVariables false
set_option linter.unusedSimpArgs false
set_option maxRecDepth 100000
theorem all_not {α : Type} (p : α → Bool) (xs : List α) : xs.all p = !xs.any fun x => !p x := by
  induction xs with
  | nil => rfl
  | cons x xs ih => simp only [List.all_cons, List.any_cons, ih, Bool.not_or, Bool.not_not]
theorem plain_not (q : Qry) : q.items.all (plainIn q) = !q.items.any fun i => decide (i.agg = 0) && !decide (i.col = q.group) := by
  rw [all_not]
  congr 2
  funext i
  simp [plainIn]
theorem cat_em {a b : List UInt8} (h : (!decide (a ++ b = [])) = true) : (decide (a = []) && decide (b = [])) = false := by
  cases a <;> cases b <;> first | rfl | (simp at h)
set_option maxHeartbeats 40000000 in
theorem implQueryRight (q : Qry) (hk : q.ok) : Ent Tryz.prog 22 [.d (qryD q)] [] (.d (.b (qryOk q))) [] := by
  have hf := hk.f
  have c0 : Ent Tryz.prog 48 [.d (.i .i64 ((q.items.map itemD).length : Int)), .d (.i .i64 1), .d (.i .i64 10)] [] (.d (.b (inside (q.items.length : Int) 1 10))) [] := by
    rw [List.length_map]; exact within _ _ _
  have c1 := containsBad q hf hk.icol
  have c2 := implNameRight q.table (le_max2 hf.table)
  have c3 := implNameRight q.join (le_max2 hf.join)
  have c4 := implColumn q.left hf.left
  have c5 := implColumn q.right hf.right
  have c6 := containsTBad q hf hk.term
  have c7 := implColumn q.group hf.group
  have c8 := implColumn q.order hf.order
  have c9 : Ent Tryz.prog 48 [.d (.i .i64 q.limit), .d (.i .i64 (-1)), .d (.i .i64 1000)] [] (.d (.b (inside q.limit (-1) 1000))) [] := within _ _ _
  have c10 := implGrouped q hf
  have c11 := containsOut q hf
  have hcat : ((q.left.length + q.right.length : Nat) : Int) ≤ 9223372036854775807 := by have := hf.left; have := hf.right; omega
  obtain ⟨o, ho⟩ : ∃ o, o = qryOk q := ⟨_, rfl⟩
  rw [← ho]
  rw [qryOk, plain_not, all_not itemOk, all_not termOk] at ho
  unfold joinOk em at ho
  generalize inside (q.items.length : Int) 1 10 = b0 at *
  generalize q.items.any (fun i => !itemOk i) = b1 at *
  generalize nameOk q.table = b2 at *
  generalize nameOk q.join = b3 at *
  generalize colOk q.left = b4 at *
  generalize colOk q.right = b5 at *
  generalize q.wh.any (fun t => !termOk t) = b6 at *
  generalize colOk q.group = b7 at *
  generalize colOk q.order = b8 at *
  generalize inside q.limit (-1) 1000 = b9 at *
  generalize grouped q = b10 at *
  generalize q.items.any (fun i => decide (i.agg = 0) && !decide (i.col = q.group)) = b11 at *
  obtain ⟨items, table, join, left, right, wh, group, order, down, limit⟩ := q
  dsimp only at *
  cases down
  all_goals
    refine ent_of tok mixed (f := 22) Tryz.func22 (by kernel_rfl) (keep := false) ?_
    repeat' ((conv => whnf) <;> (first | ((with_reducible refine isCall ?_) <;> (first | (refine ⟨_, c0, ?_⟩; rintro _ _ ⟨rfl, rfl⟩) | (refine ⟨_, c1, ?_⟩; rintro _ _ ⟨rfl, rfl⟩) | (refine ⟨_, c2, ?_⟩; rintro _ _ ⟨rfl, rfl⟩) | (refine ⟨_, c3, ?_⟩; rintro _ _ ⟨rfl, rfl⟩) | (refine ⟨_, c4, ?_⟩; rintro _ _ ⟨rfl, rfl⟩) | (refine ⟨_, c5, ?_⟩; rintro _ _ ⟨rfl, rfl⟩) | (refine ⟨_, c6, ?_⟩; rintro _ _ ⟨rfl, rfl⟩) | (refine ⟨_, c7, ?_⟩; rintro _ _ ⟨rfl, rfl⟩) | (refine ⟨_, c8, ?_⟩; rintro _ _ ⟨rfl, rfl⟩) | (refine ⟨_, c9, ?_⟩; rintro _ _ ⟨rfl, rfl⟩) | (refine ⟨_, c10, ?_⟩; rintro _ _ ⟨rfl, rfl⟩) | (refine ⟨_, c11, ?_⟩; rintro _ _ ⟨rfl, rfl⟩) | (refine ⟨hcat, ?_⟩) | fail)) | ((with_reducible refine isCut ?_) <;> (first | refine ⟨⟨none⟩, ?_⟩)) | ((first | with_reducible refine isEx ?_ | with_reducible refine isAnd ?_ | with_reducible refine isOr ?_) <;> (first | (refine ⟨hcat, ?_⟩) | ((with_reducible refine isSmall ?_) <;> (refine ⟨?_, ?_⟩; kernel_rfl)) | refine ⟨rfl, ?_⟩ | refine ⟨Int.natCast_nonneg _, ?_⟩)) | with_reducible refine Both.mk ?_ ?_ | rintro _ rfl | exact rfl | (split <;> (rename_i h; first | (simp only [beq_self_eq_true, eq_self, decide_true, Bool.not_true, Bool.false_eq_true] at h; done) | (try rw [h])))))
  all_goals try (conv => whnf)
  all_goals clear c0 c1 c2 c3 c4 c5 c6 c7 c8 c9 c10 c11 hk hf hcat
  all_goals first
    | (refine ⟨congrArg (fun b => AV.d (D.b b)) ?_, rfl⟩)
    | trace_state
  all_goals first
    | (simp_all; done)
    | (simp_all [inside] <;> omega)
    | (have hj : decide (join = []) = true := by assumption
       rw [hj, cat_em h] at ho
       rw [ho]; simp; done)
    | trace_state
end Go.Pm.Tryz
namespace Go.Pm.Tryz
open Go Go.Proofs
set_option linter.unusedVariables false
set_option linter.unusedSimpArgs false
set_option maxRecDepth 100000
def kindFn (ns : List (List UInt8)) (ks : List Int) : AV := .fn 26 [.rd [.sl false (ks.map i64D)], .rd [.sl false (ns.map strD)]]
theorem implKind (ns : List (List UInt8)) (ks : List Int) (hl : ns.length ≤ maxLen) (n : List UInt8) (hk : KAt ns ks n) : Ent Tryz.prog 26 [.d (.s n), .rd [.sl false (ks.map i64D)], .rd [.sl false (ns.map strD)]] [] (.d (.i .i64 (kOf ns ks n))) [] := by
  have c1 := indexN ns hl n
  refine ent_of tok mixed (f := 26) Tryz.func26 (by kernel_rfl) (keep := false) ?_
  repeat' ((conv => whnf) <;> (first | ((with_reducible refine isCall ?_) <;> (first | (refine ⟨_, c1, ?_⟩; rintro _ _ ⟨rfl, rfl⟩) | (refine ⟨⟨hk.ge, hk.lt⟩, ?_⟩) | (refine ⟨hk.ge, ?_⟩) | (refine ⟨_, hk.get, ?_⟩) | fail)) | ((with_reducible refine isCut ?_) <;> (first | refine ⟨⟨none⟩, ?_⟩)) | ((first | with_reducible refine isEx ?_ | with_reducible refine isAnd ?_ | with_reducible refine isOr ?_) <;> (first | (refine ⟨⟨hk.ge, hk.lt⟩, ?_⟩) | (refine ⟨hk.ge, ?_⟩) | (refine ⟨_, hk.get, ?_⟩) | ((with_reducible refine isSmall ?_) <;> (refine ⟨?_, ?_⟩; kernel_rfl)) | refine ⟨rfl, ?_⟩ | refine ⟨Int.natCast_nonneg _, ?_⟩)) | with_reducible refine Both.mk ?_ ?_ | rintro _ rfl | exact rfl | (split <;> (rename_i h; first | (simp only [beq_self_eq_true, eq_self, decide_true, Bool.not_true, Bool.false_eq_true] at h; done) | (try rw [h])))))
theorem used_len {q : Qry} (hf : QFine q) {k : Nat} : (((([q.left, q.right, q.group, q.order] ++ q.items.map Item.col) ++ (q.wh.take k).map Term.col)).map strD).length ≤ 2000000 := by
  have := hf.items; have := hf.wh
  simp only [List.length_map, List.length_append, List.length_take, List.length_cons, List.length_nil]; omega
theorem used_len1 {q : Qry} (hf : QFine q) {k : Nat} : ((([q.left, q.right, q.group, q.order] ++ (q.items.take k).map Item.col)).map strD).length ≤ 2000000 := by
  have := hf.items
  simp only [List.length_map, List.length_append, List.length_take, List.length_cons, List.length_nil]; omega
set_option maxHeartbeats 16000000 in
theorem implCheck (ts : List Tab) (hd : dbP ts) (hl : ts.length ≤ maxLen) (q : Qry) (hf : QFine q) (c1 : Ent Tryz.prog 21 [.d (dbArg ts)] [] (.d (.b true)) []) (c2 : Ent Tryz.prog 22 [.d (qryD q)] [] (.d (.b true)) []) :
    Ent Tryz.prog 9 [.d (dbArg ts), .d (qryD q)] [] (.d (.i .i64 (codeQ ts q))) [] := by
  have c3 := implFind ts hl q.table
  have c3b := implFind ts hl q.join
  have c4 := implColsOf ts hd hl q
  obtain ⟨o, ho⟩ : ∃ o, o = codeQ ts q := ⟨_, rfl⟩
  rw [← ho]
  have hnl := names_len hd [q.table, q.join]
  have hlen : (kindsL ts [q.table, q.join]).length = (namesL ts [q.table, q.join]).length := by simp only [namesL, kindsL, List.flatMap_cons, List.flatMap_nil, List.length_append, List.length_map, List.length_nil]
  unfold codeQ whBad itBad at ho
  obtain ⟨nt, hnt⟩ : ∃ b, b = noTabs ts q := ⟨_, rfl⟩
  rw [← hnt] at ho
  unfold noTabs em at hnt
  generalize namesL ts [q.table, q.join] = ns at *
  generalize kindsL ts [q.table, q.join] = ks at *
  obtain ⟨jb, hjb⟩ : ∃ b, b = joinBad ns ks q := ⟨_, rfl⟩
  rw [← hjb] at ho
  unfold joinBad em at hjb
  have hsm : ns.length ≤ maxLen := le_max2 (by have : [q.table, q.join].length = 2 := rfl; omega)
  have hum : ∀ y, y ∈ q.wh → y.col ∈ usedI q := fun y hy => by simp only [usedI, List.mem_append, List.mem_map]; exact .inr ⟨y, hy, rfl⟩
  have hui : ∀ y, y ∈ q.items → y.col ∈ usedI q := fun y hy => by simp only [usedI, List.mem_append, List.mem_map]; exact .inl (.inr ⟨y, hy, rfl⟩)
  have hul : (usedI q).length ≤ maxLen := by
    have := used_len hf (q := q) (k := 1000)
    rw [List.length_map, List.take_of_length_le (by have := hf.wh; omega)] at this
    exact le_max2 this
  have hwl : q.wh.length ≤ maxLen := Nat.le_trans hf.wh (Nat.le_of_ble_eq_true rfl)
  have hil : q.items.length ≤ maxLen := Nat.le_trans hf.items (Nat.le_of_ble_eq_true rfl)
  obtain ⟨pw, hpw⟩ : ∃ p : Term → Bool, p = fun t => !isW t.op && !decide (t.val.kind = kOf ns ks t.col) := ⟨_, rfl⟩
  obtain ⟨pj, hpj⟩ : ∃ p : Item → Bool, p = fun i => decide (i.agg = 2) && !decide (kOf ns ks i.col = 2) := ⟨_, rfl⟩
  rw [← hpw, ← hpj] at ho
  have epw : ∀ y : Term, pw y = (!isW y.op && !decide (y.val.kind = kOf ns ks y.col)) := fun y => by rw [hpw]
  have epj : ∀ z : Item, pj z = (decide (z.agg = 2) && !decide (kOf ns ks z.col = 2)) := fun z => by rw [hpj]
  clear hpw hpj
  have hkl : ∀ k : Nat, ((usedI q).take k).any (badN ns) = false → decide ((k : Int) < (((usedI q).map strD).length : Int)) = false → (!decide (q.join = [])) = true → KAt ns ks q.left ∧ KAt ns ks q.right := fun k hu h hj => by
    have hg := good_of (any_endP (f := strD) hu h)
    have hj : q.join ≠ [] := by simpa using hj
    exact ⟨k_at hlen (hg _ (by simp [usedI]) (hf.left hj)), k_at hlen (hg _ (by simp [usedI]) (hf.right hj))⟩
  obtain ⟨us, hus⟩ : ∃ us, us = usedI q := ⟨_, rfl⟩
  rw [← hus] at ho hkl hum hui hul
  generalize findM q.table ts 0 = n0 at *
  generalize findM q.join ts 0 = n1 at *
  refine ent_of tok mixed (f := 9) Tryz.func9 (by kernel_rfl) (keep := false) ?_
  repeat' ((conv => whnf) <;> (first | ((with_reducible refine isCall ?_) <;> (first | (refine ⟨_, c1, ?_⟩; rintro _ _ ⟨rfl, rfl⟩) | (refine ⟨_, c2, ?_⟩; rintro _ _ ⟨rfl, rfl⟩) | (refine ⟨_, c3, ?_⟩; rintro _ _ ⟨rfl, rfl⟩) | (refine ⟨_, c3b, ?_⟩; rintro _ _ ⟨rfl, rfl⟩) | (refine ⟨_, c4, ?_⟩; rintro _ _ ⟨rfl, rfl⟩) | (refine ⟨_, cn, ?_⟩; rintro _ _ ⟨rfl, rfl⟩) | (refine ⟨_, (implKind ns ks hsm _ (hkl _ hu (by assumption) (by assumption)).1), ?_⟩; rintro _ _ ⟨rfl, rfl⟩) | (refine ⟨_, (implKind ns ks hsm _ (hkl _ hu (by assumption) (by assumption)).2), ?_⟩; rintro _ _ ⟨rfl, rfl⟩) | (refine ⟨_, (implKind ns ks hsm _ ka), ?_⟩; rintro _ _ ⟨rfl, rfl⟩) | (refine ⟨_, (implKind ns ks hsm _ (hzc (of_decide_eq_true (by assumption)))), ?_⟩; rintro _ _ ⟨rfl, rfl⟩) | (refine ⟨⟨by decide, rfl, rfl, roomL (by rw [hxs2]; exact used_len hf) (by decide)⟩, ?_⟩) | (refine ⟨⟨by decide, rfl, rfl, roomL (by rw [hxs1]; exact used_len1 hf) (by decide)⟩, ?_⟩) | fail)) | ((with_reducible refine isLoop ?_) <;> (first | (refine ⟨[14, 135, 136, 137], [], fun st => ∃ (k : Nat) (i : Int), i = k ∧ (q.items.take k).any pj = false ∧ st = ⟨[(14, kindFn ns ks), (135, .d (.sl false (q.items.map itemD))), (136, .d (.i .i64 ((q.items.map itemD).length : Int))), (137, .d (.i .i64 i))], []⟩, fun s' => match look 137 s'.env with | some (.d (.i _ n)) => q.items.length - n.toNat | _ => 0, ?_, ⟨0, _, rfl, rfl, ?_⟩, ?_⟩; kernel_rfl; kernel_rfl; rintro st ⟨k4, i4, rfl, hu4, rfl⟩; have he2 := any_endP (f := termD) hu3 (by assumption)) | (refine ⟨[3, 14, 114, 115, 116], [10003], fun st => ∃ (k : Nat) (i : Int), i = k ∧ (q.wh.take k).any pw = false ∧ st = ⟨[(3, .ptr 10003 0), (14, kindFn ns ks), (114, .d (.sl false (q.wh.map termD))), (115, .d (.i .i64 ((q.wh.map termD).length : Int))), (116, .d (.i .i64 i))], [(10003, .var (qryC q))]⟩, fun s' => match look 116 s'.env with | some (.d (.i _ n)) => q.wh.length - n.toNat | _ => 0, ?_, ⟨0, _, rfl, rfl, ?_⟩, ?_⟩; kernel_rfl; kernel_rfl; rintro st ⟨k3, i3, rfl, hu3, rfl⟩; have he1 := any_endP (f := strD) hu (by assumption); have hg := good_of he1; have hjf : jb = false := (by rw [hjb]; simp_all)) | (refine ⟨[3, 5, 6, 83, 84, 85], [10003, .frz 10056, .frz 10005, .frz 10006], fun st => ∃ (k : Nat) (i : Int), i = k ∧ (us.take k).any (badN ns) = false ∧ st = ⟨[(3, .ptr 10003 0), (5, .rd [.sl false (ns.map strD)]), (6, .rd [.sl false (ks.map i64D)]), (83, .d (.sl false (us.map strD))), (84, .d (.i .i64 ((us.map strD).length : Int))), (85, .d (.i .i64 i))], [(10003, .var (qryC q))]⟩, fun s' => match look 85 s'.env with | some (.d (.i _ n)) => us.length - n.toNat | _ => 0, ?_, ⟨0, _, rfl, rfl, ?_⟩, ?_⟩; kernel_rfl; rw [hxs2, take_map_end (f := Term.col) (g := termD) (by assumption), hus]; kernel_rfl; rintro st ⟨k, i, rfl, hu, rfl⟩) | (refine ⟨[3, 5, 6, 7, 71, 72, 73], [10003, 10005, 10006, 10056], fun st => ∃ (k : Nat) (i : Int) (xs : List D), i = k ∧ xs = (([q.left, q.right, q.group, q.order] ++ q.items.map Item.col) ++ (q.wh.take k).map Term.col).map strD ∧ st = ⟨[(3, .ptr 10003 0), (5, .ptr 10005 0), (6, .ptr 10006 0), (7, .own 10056), (71, .d (.sl false (q.wh.map termD))), (72, .d (.i .i64 ((q.wh.map termD).length : Int))), (73, .d (.i .i64 i))], [(10003, .var (qryC q)), (10005, .var [.d (.sl false (ns.map strD))]), (10006, .var [.d (.sl false (ks.map i64D))]), (10056, .arr 1 false xs)]⟩, fun s' => match look 73 s'.env with | some (.d (.i _ n)) => q.wh.length - n.toNat | _ => 0, ?_, ⟨0, _, _, rfl, rfl, ?_⟩, ?_⟩; kernel_rfl; rw [hxs1, take_map_end (f := Item.col) (g := itemD) (by assumption), List.take_zero, List.map_nil, List.append_nil]; kernel_rfl; rintro st ⟨k2, i2, xs2, rfl, hxs2, rfl⟩) | (refine ⟨[3, 5, 6, 7, 58, 59, 60], [10003, 10005, 10006, 10056], fun st => ∃ (k : Nat) (i : Int) (xs : List D), i = k ∧ xs = ([q.left, q.right, q.group, q.order] ++ (q.items.take k).map Item.col).map strD ∧ st = ⟨[(3, .ptr 10003 0), (5, .ptr 10005 0), (6, .ptr 10006 0), (7, .own 10056), (58, .d (.sl false (q.items.map itemD))), (59, .d (.i .i64 ((q.items.map itemD).length : Int))), (60, .d (.i .i64 i))], [(10003, .var (qryC q)), (10005, .var [.d (.sl false (ns.map strD))]), (10006, .var [.d (.sl false (ks.map i64D))]), (10056, .arr 1 false xs)]⟩, fun s' => match look 60 s'.env with | some (.d (.i _ n)) => q.items.length - n.toNat | _ => 0, ?_, ⟨0, _, _, rfl, rfl, ?_⟩, ?_⟩; kernel_rfl; kernel_rfl; rintro st ⟨k1, i1, xs1, rfl, hxs1, rfl⟩; have hnf : nt = false := (by rw [hnt]; simp_all)) | (refine ⟨⟨by decide, rfl, rfl, roomL (by rw [hxs2]; exact used_len hf) (by decide)⟩, ?_⟩) | (refine ⟨⟨by decide, rfl, rfl, roomL (by rw [hxs1]; exact used_len1 hf) (by decide)⟩, ?_⟩) | fail)) | ((with_reducible refine isCut ?_) <;> (first | refine ⟨⟨none⟩, ?_⟩)) | ((first | with_reducible refine isEx ?_ | with_reducible refine isAnd ?_ | with_reducible refine isOr ?_) <;> (first | ((with_reducible refine isGet (xs := q.items.map itemD) (i := ((k4 : Nat) : Int).toNat) ?_); obtain ⟨z, hz⟩ := get_ex (ss := q.items) (k := k4) (lt_of_dec (by assumption)); have hzc := items_at hlen hg hui hf hz; refine ⟨_, get_map' hz, ?_⟩) | ((with_reducible refine isGet (xs := q.wh.map termD) (i := ((k3 : Nat) : Int).toNat) ?_); obtain ⟨y, hy⟩ := get_ex (ss := q.wh) (k := k3) (lt_of_dec (by assumption)); have ka := k_at hlen (hg y.col (hum y (get_mem hy)) (hf.tcol y (get_mem hy))); refine ⟨_, get_map' hy, ?_⟩) | ((with_reducible refine isGet (xs := us.map strD) (i := ((k : Nat) : Int).toNat) ?_); obtain ⟨x, hx⟩ := get_ex (ss := us) (k := k) (lt_of_dec (by assumption)); have cn := containsN ns hsm x; refine ⟨_, get_map' hx, ?_⟩) | ((with_reducible refine isGet (xs := q.wh.map termD) (i := ((k2 : Nat) : Int).toNat) ?_); obtain ⟨y2, hy2⟩ := get_ex (ss := q.wh) (k := k2) (lt_of_dec (by assumption)); refine ⟨_, get_map' hy2, ?_⟩) | ((with_reducible refine isGet (xs := q.items.map itemD) (i := ((k1 : Nat) : Int).toNat) ?_); obtain ⟨x1, hx1⟩ := get_ex (ss := q.items) (k := k1) (lt_of_dec (by assumption)); refine ⟨_, get_map' hx1, ?_⟩) | (refine ⟨⟨by decide, rfl, rfl, roomL (by rw [hxs2]; exact used_len hf) (by decide)⟩, ?_⟩) | (refine ⟨⟨by decide, rfl, rfl, roomL (by rw [hxs1]; exact used_len1 hf) (by decide)⟩, ?_⟩) | ((with_reducible refine isSmall ?_) <;> (refine ⟨?_, ?_⟩; kernel_rfl)) | refine ⟨rfl, ?_⟩ | refine ⟨Int.natCast_nonneg _, ?_⟩)) | with_reducible refine Both.mk ?_ ?_ | rintro _ rfl | exact rfl | (split <;> (rename_i h; first | (simp only [beq_self_eq_true, eq_self, decide_true, Bool.not_true, Bool.false_eq_true] at h; done) | (try rw [h])))))
  all_goals try (conv => whnf)
  all_goals first
    | exact ⟨⟨k1 + 1, _, _, step_up (get_lt hx1) hil, (by rw [hxs1, ← take_map_up hx1]; exact strs_push _ _), rfl⟩, mu_up (get_lt hx1) hil⟩
    | exact ⟨⟨k2 + 1, _, _, step_up (get_lt hy2) hwl, (by rw [hxs2, ← take_map_up hy2]; exact strs_push _ _), rfl⟩, mu_up (get_lt hy2) hwl⟩
    | (rw [he1, hjf, he2, any_endP (f := itemD) hu4 h, hnf] at ho
       rw [ho]; exact ⟨rfl, rfl⟩)
    | (have hb3 : pj z = true := by
         rw [epj]; simp_all
       rw [he1, hjf, he2, any_hitP hz hb3, hnf] at ho
       rw [ho]; exact ⟨rfl, rfl⟩)
    | (have hb3 : pj z = false := by
         rw [epj]; simp_all
       exact ⟨⟨k4 + 1, _, step_up (get_lt hz) hil, anyP_up hu4 hz hb3, rfl⟩, mu_up (get_lt hz) hil⟩)
    | (have hb2 : pw y = true := by
         rw [epw]; simp_all [isW]
       rw [he1, hjf, any_hitP hy hb2, hnf] at ho
       rw [ho]; exact ⟨rfl, rfl⟩)
    | (have hb2 : pw y = false := by
         rw [epw]; simp_all [isW]
       exact ⟨⟨k3 + 1, _, step_up (get_lt hy) hwl, anyP_up hu3 hy hb2, rfl⟩, mu_up (get_lt hy) hwl⟩)
    | (have hbx : badN ns x = true := by
         unfold badN em; simp_all
       rw [any_hitP hx hbx, hnf] at ho
       rw [ho]; exact ⟨rfl, rfl⟩)
    | (have hbx : badN ns x = false := by
         unfold badN em; simp_all
       exact ⟨⟨k + 1, _, step_up (get_lt hx) hul, anyP_up hu hx hbx, rfl⟩, mu_up (get_lt hx) hul⟩)
    | (have hj6 : jb = true := by
         rw [hjb]; simp_all
       rw [any_endP (f := strD) hu (by assumption), hj6, hnf] at ho
       rw [ho]; exact ⟨rfl, rfl⟩)
    | (have hn8 : nt = true := by
         rw [hnt]; simp_all
       rw [hn8] at ho
       rw [ho]; exact ⟨rfl, rfl⟩)
    | (with_reducible trace_state)
end Go.Pm.Tryz
namespace Go.Pm.Tryz
open Go Go.Proofs
set_option linter.unusedVariables false
set_option linter.unusedSimpArgs false
set_option maxRecDepth 100000
def rowO (r : List Val) : D := .os 3 false (r.map valD)
def tabO (t : Tab) : D := .agg [.s t.sch.name, .os 3 false (t.sch.cols.map colD), .os 1 false (t.sch.keys.map i64D), .os 2 true (t.sch.idxs.map idxO), .os 1 true (t.rows.map rowO)]
theorem erase_rows : ∀ l : List (List Val), eraseL (l.map rowO) = l.map rowD
  | [] => rfl
  | x :: l => by simp only [List.map_cons, eraseL, erase_rows l, rowO, rowD, D.erase, erase_vals]
theorem erase_tabs : ∀ l : List Tab, eraseL (l.map tabO) = l.map tabD
  | [] => rfl
  | x :: l => by simp only [List.map_cons, eraseL, erase_tabs l, tabO, tabD, D.erase, erase_ints, erase_cols, erase_rows, erase_idx]
end Go.Pm.Tryz
namespace Go.Pm
open Go
theorem deep_rep {w : World} {X : Nat → Prop} {J : Nat → Option Place} {p : Place} {sz : Nat} {xs : List D} (h : (Ob.arr sz false xs).rep w X J p) : (Ob.arr sz true xs).rep w X J p := by
  obtain ⟨h0, a, cap, h1, h2, h3⟩ := h
  refine ⟨h0, a, cap, h1, h2, ?_⟩
  rcases h3 with h3 | ⟨g1, g2, g3, g4, _⟩
  · exact .inl h3
  · exact .inr ⟨g1, g2, g3, g4, fun h => by cases h⟩
theorem Mem.deep {X0 : Nat → Prop} {J : Nat → Option Place} {obj obj' : Nat → Option Ob} {w : World} (m : Mem X0 J obj w) (h : ∀ k, obj' k = obj k ∨ ∃ sz xs, obj k = some (.arr sz false xs) ∧ obj' k = some (.arr sz true xs)) : Mem X0 J obj' w where
  ob k o ho := by
    rcases h k with e | ⟨sz, xs, e1, e2⟩
    · rw [e] at ho; exact m.ob k o ho
    · rw [e2] at ho; cases ho
      obtain ⟨p, hp, hr⟩ := m.ob k _ e1
      exact ⟨p, hp, deep_rep hr⟩
  dom k p hp := by
    obtain ⟨o, ho⟩ := m.dom k p hp
    rcases h k with e | ⟨sz, xs, e1, e2⟩
    · exact ⟨o, e.trans ho⟩
    · exact ⟨_, e2⟩
  sep := m.sep
  nd := m.nd
  x0 := m.x0
theorem ent_deep {P : Program} {f : FuncId} {args : List AV} {objs : List Ob} {sz : Nat} {xs : List D} {R : AV} (h : EntQ P f args objs fun R' O => R' = R ∧ ∃ dp, O = [.arr sz dp xs]) : Ent P f args objs R [.arr sz true xs] where
  enters := h.enters
  calls X0 J w vs hr hm := (h.calls X0 J w vs hr hm).mono fun e w' ⟨R', O, v, J', ⟨hR, dp, hO⟩, he, hrep, hm', hk, h1, h2⟩ => by
    subst hR hO
    refine ⟨_, [.arr sz true xs], v, J', ⟨rfl, rfl⟩, he, hrep, hm'.deep fun k => ?_, hk, h1, h2⟩
    cases dp with
    | true => exact .inl rfl
    | false =>
      cases k with
      | zero => exact .inr ⟨sz, xs, rfl, rfl⟩
      | succ k => exact .inl rfl
theorem ent_deepL {P : Program} {f : FuncId} {args : List AV} {objs O1 : List Ob} {R : AV} (h : EntQ P f args objs fun R' O => R' = R ∧ ∀ k : Nat, O1[k]? = O[k]? ∨ ∃ sz xs, O[k]? = some (.arr sz false xs) ∧ O1[k]? = some (.arr sz true xs)) : Ent P f args objs R O1 where
  enters := h.enters
  calls X0 J w vs hr hm := (h.calls X0 J w vs hr hm).mono fun e w' ⟨R', O, v, J', ⟨hR, hO⟩, he, hrep, hm', hk, h1, h2⟩ => by
    subst hR
    exact ⟨_, O1, v, J', ⟨rfl, rfl⟩, he, hrep, hm'.deep hO, hk, h1, h2⟩
end Go.Pm
namespace Go.Pm.Tryz
open Go Go.Proofs
set_option linter.unusedVariables false
set_option linter.unusedSimpArgs false
set_option maxRecDepth 100000
theorem sub_small {a : Int} {n : Nat} (h0 : 0 ≤ a) (h1 : a ≤ 1048576) (hn : n ≤ maxLen) : IntKind.i64.wrap (a - (n : Int)) = a - n := by
  have : maxLen = 9223372036854775807 := rfl
  exact wrap_i64_id _ (by omega) (by omega)
def wValue (_ : Val) : Nat := 0
def wColumn (_ : Col) : Nat := 0
def wsum {α : Type} (w : α → Nat) (xs : List α) : Nat := (xs.map w).sum
def wl {α : Type} (w : α → Nat) (xs : List α) : Nat := xs.length + wsum w xs
theorem wsum_zero {α : Type} {w : α → Nat} {xs : List α} : wsum w (xs.take 0) = 0 := rfl
theorem wsum_up {α : Type} {w : α → Nat} {xs : List α} {k : Nat} {x : α} (h : xs[k]? = some x) : wsum w (xs.take (k + 1)) = wsum w (xs.take k) + w x := by
  simp only [wsum, take_up h, List.map_append, List.sum_append, List.map_cons, List.map_nil, List.sum_cons, List.sum_nil]; omega
theorem wsum_mem {α : Type} {w : α → Nat} : ∀ {xs : List α} {x : α}, x ∈ xs → w x ≤ wsum w xs
  | y :: ys, x, h => by
    simp only [wsum, List.map_cons, List.sum_cons]
    rcases List.mem_cons.1 h with rfl | h
    · omega
    · have := wsum_mem (w := w) h
      simp only [wsum] at this; omega
def wRow (r : List Val) : Nat := wl wValue r
def wIdx (i : Idx) : Nat := i.cols.length
def wSch (s : Schema) : Nat := wl wColumn s.cols + s.keys.length + wl wIdx s.idxs
def wTab (t : Tab) : Nat := wSch t.sch + wl wRow t.rows
def fitVal (v : Val) : Prop := v.text.length ≤ maxLen
def fitCol (c : Col) : Prop := c.name.length ≤ maxLen
def fitRow (r : List Val) : Prop := r.length ≤ maxLen ∧ ∀ v, v ∈ r → fitVal v
def fitIdx (i : Idx) : Prop := i.cols.length ≤ maxLen
def szRow (r : List Val) : Prop := r.length ≤ 1048576
def szIdx (i : Idx) : Prop := i.cols.length ≤ 1048576
structure szSch (s : Schema) : Prop where
  cols : s.cols.length ≤ 1048576
  keys : s.keys.length ≤ 1048576
  idxs : s.idxs.length ≤ 1048576
  lists : ∀ i, i ∈ s.idxs → szIdx i
structure szTab (t : Tab) : Prop where
  sch : szSch t.sch
  rows : t.rows.length ≤ 1048576
  row : ∀ r, r ∈ t.rows → szRow r
theorem sz_sch {s : Schema} (h : wSch s ≤ 1048576) : szSch s := by
  unfold wSch wl at h
  exact ⟨by omega, by omega, by omega, fun i hi => by have := wsum_mem (w := wIdx) hi; show i.cols.length ≤ 1048576; unfold wIdx at *; omega⟩
theorem sz_tab {t : Tab} (h : wTab t ≤ 1048576) : szTab t := by
  unfold wTab wl at h
  exact ⟨sz_sch (by omega), by omega, fun r hr => by have := wsum_mem (w := wRow) hr; show r.length ≤ 1048576; have e : wRow r = r.length + wsum wValue r := rfl; omega⟩
theorem sz_tabs {ts : List Tab} (h : wl wTab ts ≤ 1048576) : ts.length ≤ 1048576 ∧ ∀ t, t ∈ ts → szTab t := by
  unfold wl at h
  exact ⟨by omega, fun t ht => sz_tab (by have := wsum_mem (w := wTab) ht; omega)⟩
structure Tab.fit2 (t : Tab) : Prop where
  sch : t.sch.fits
  rows : t.rows.length ≤ maxLen
  row : ∀ r, r ∈ t.rows → fitRow r
def filled {α : Type} (g : α → D) (z : D) (xs : List α) (k : Nat) : List D := (xs.take k).map g ++ List.replicate (xs.length - k) z
theorem filled_zero {α : Type} (g : α → D) (z : D) (xs : List α) : List.replicate xs.length z = filled g z xs 0 := by simp [filled]
theorem filled_all {α : Type} (g : α → D) (z : D) (xs : List α) : filled g z xs xs.length = xs.map g := by simp [filled]
theorem filled_up {α : Type} {g : α → D} {z : D} {xs : List α} {k : Nat} {x : α} (h : xs[k]? = some x) : (filled g z xs k).set k (g x) = filled g z xs (k + 1) := by
  obtain ⟨hk, rfl⟩ := List.getElem?_eq_some_iff.1 h
  unfold filled
  rw [List.set_append_right _ _ (by simp; omega)]
  rw [List.take_succ_eq_append_getElem hk, List.map_append, List.append_assoc]
  congr 1
  have e : xs.length - k = (xs.length - (k + 1)) + 1 := by omega
  rw [e, List.replicate_succ]
  simp [Nat.min_eq_left (Nat.le_of_lt hk)]
theorem filled_len {α : Type} {g : α → D} {z : D} {xs : List α} {k : Nat} (h : k ≤ xs.length) : (filled g z xs k).length = xs.length := by simp [filled]; omega
theorem filled_get {α : Type} {g : α → D} {z : D} {xs : List α} {k : Nat} (h : k < xs.length) : (filled g z xs k)[k]? = some z := by
  have e : ((xs.take k).map g).length = k := by rw [List.length_map, List.length_take]; omega
  unfold filled
  rw [List.getElem?_append_right (by omega), e, Nat.sub_self, List.getElem?_replicate, if_pos (by omega)]
theorem szColumn (x : Col) (hf : x.name.length ≤ maxLen) (left : Int) (h0 : 0 ≤ left) (h1 : left ≤ 1048576) : EntQ Tryz.prog 124 [.d (colD x), .d (.i .i64 left)] [] (fun R O => ∃ r, R = .d (.i .i64 r) ∧ O = [] ∧ r ≤ left ∧ (0 ≤ r → r + ((wColumn x : Nat) : Int) ≤ left)) := by
  have e1 := sub_small (n := x.name.length) h0 h1 hf
  refine ent_of tok mixed (f := 124) Tryz.func124 (by kernel_rfl) (keep := false) ?_
  repeat' ((conv => whnf) <;> (first | ((with_reducible refine isCall ?_) <;> (first | fail)) | ((with_reducible refine isCut ?_) <;> (first | refine ⟨⟨none⟩, ?_⟩)) | ((first | with_reducible refine isEx ?_ | with_reducible refine isAnd ?_ | with_reducible refine isOr ?_) <;> (first | ((with_reducible refine isSmall ?_) <;> (refine ⟨?_, ?_⟩; kernel_rfl)) | refine ⟨rfl, ?_⟩ | refine ⟨Int.natCast_nonneg _, ?_⟩)) | with_reducible refine Both.mk ?_ ?_ | rintro _ rfl | exact rfl | (split <;> (rename_i h; first | (simp only [beq_self_eq_true, eq_self, decide_true, Bool.not_true, Bool.false_eq_true] at h; done) | (try rw [h])))))
  all_goals (conv => whnf)
  all_goals first
    | exact ⟨_, rfl, rfl, by omega, fun h => absurd h (by decide)⟩
    | exact ⟨_, rfl, rfl, by omega, fun _ => by show _ + ((0 : Nat) : Int) ≤ _; omega⟩
    | trace_state
theorem szValue (x : Val) (hf : x.text.length ≤ maxLen) (left : Int) (h0 : 0 ≤ left) (h1 : left ≤ 1048576) : EntQ Tryz.prog 66 [.d (valD x), .d (.i .i64 left)] [] (fun R O => ∃ r, R = .d (.i .i64 r) ∧ O = [] ∧ r ≤ left ∧ (0 ≤ r → r + ((wValue x : Nat) : Int) ≤ left)) := by
  have e1 := sub_small (n := x.text.length) h0 h1 hf
  refine ent_of tok mixed (f := 66) Tryz.func66 (by kernel_rfl) (keep := false) ?_
  repeat' ((conv => whnf) <;> (first | ((with_reducible refine isCall ?_) <;> (first | fail)) | ((with_reducible refine isCut ?_) <;> (first | refine ⟨⟨none⟩, ?_⟩)) | ((first | with_reducible refine isEx ?_ | with_reducible refine isAnd ?_ | with_reducible refine isOr ?_) <;> (first | ((with_reducible refine isSmall ?_) <;> (refine ⟨?_, ?_⟩; kernel_rfl)) | refine ⟨rfl, ?_⟩ | refine ⟨Int.natCast_nonneg _, ?_⟩)) | with_reducible refine Both.mk ?_ ?_ | rintro _ rfl | exact rfl | (split <;> (rename_i h; first | (simp only [beq_self_eq_true, eq_self, decide_true, Bool.not_true, Bool.false_eq_true] at h; done) | (try rw [h])))))
  all_goals (conv => whnf)
  all_goals first
    | exact ⟨_, rfl, rfl, by omega, fun h => absurd h (by decide)⟩
    | exact ⟨_, rfl, rfl, by omega, fun _ => by show _ + ((0 : Nat) : Int) ≤ _; omega⟩
    | trace_state
theorem szInt64S (xs : List Int) (hl : xs.length ≤ maxLen) (left : Int) (h0 : 0 ≤ left) (h1 : left ≤ 1048576) : EntQ Tryz.prog 96 [.d (.sl false (xs.map i64D)), .d (.i .i64 left)] [] (fun R O => ∃ r, R = .d (.i .i64 r) ∧ O = [] ∧ r ≤ left ∧ (0 ≤ r → r + ((xs.length : Nat) : Int) ≤ left)) := by
  have e1 := sub_small (n := (xs.map i64D).length) h0 h1 (by rw [List.length_map]; exact hl)
  have hxl : (xs.map i64D).length = xs.length := List.length_map ..
  refine ent_of tok mixed (f := 96) Tryz.func96 (by kernel_rfl) (keep := false) ?_
  repeat' ((conv => whnf) <;> (first | ((with_reducible refine isCall ?_) <;> (first | fail)) | ((with_reducible refine isCut ?_) <;> (first | refine ⟨⟨none⟩, ?_⟩)) | ((first | with_reducible refine isEx ?_ | with_reducible refine isAnd ?_ | with_reducible refine isOr ?_) <;> (first | ((with_reducible refine isSmall ?_) <;> (refine ⟨?_, ?_⟩; kernel_rfl)) | refine ⟨rfl, ?_⟩ | refine ⟨Int.natCast_nonneg _, ?_⟩)) | with_reducible refine Both.mk ?_ ?_ | rintro _ rfl | exact rfl | (split <;> (rename_i h; first | (simp only [beq_self_eq_true, eq_self, decide_true, Bool.not_true, Bool.false_eq_true] at h; done) | (try rw [h])))))
  all_goals (conv => whnf)
  all_goals first
    | exact ⟨_, rfl, rfl, by omega, fun h => absurd h (by decide)⟩
    | exact ⟨_, rfl, rfl, by omega, fun h => by omega⟩
    | trace_state
theorem szIndex (x : Idx) (hf : fitIdx x) (left : Int) (h0 : 0 ≤ left) (h1 : left ≤ 1048576) : EntQ Tryz.prog 125 [.d (idxD x), .d (.i .i64 left)] [] (fun R O => ∃ r, R = .d (.i .i64 r) ∧ O = [] ∧ r ≤ left ∧ (0 ≤ r → r + ((wIdx x : Nat) : Int) ≤ left)) := by
  have c1 := szInt64S x.cols hf left h0 h1
  refine ent_of tok mixed (f := 125) Tryz.func125 (by kernel_rfl) (keep := false) ?_
  repeat' ((conv => whnf) <;> (first | ((with_reducible refine isCall ?_) <;> (first | (refine ⟨_, c1, ?_⟩; rintro _ _ ⟨r, rfl, rfl, hr, hro⟩) | fail)) | ((with_reducible refine isCut ?_) <;> (first | refine ⟨⟨none⟩, ?_⟩)) | ((first | with_reducible refine isEx ?_ | with_reducible refine isAnd ?_ | with_reducible refine isOr ?_) <;> (first | ((with_reducible refine isSmall ?_) <;> (refine ⟨?_, ?_⟩; kernel_rfl)) | refine ⟨rfl, ?_⟩ | refine ⟨Int.natCast_nonneg _, ?_⟩)) | with_reducible refine Both.mk ?_ ?_ | rintro _ rfl | exact rfl | (split <;> (rename_i h; first | (simp only [beq_self_eq_true, eq_self, decide_true, Bool.not_true, Bool.false_eq_true] at h; done) | (try rw [h])))))
  all_goals (conv => whnf)
  all_goals first
    | exact ⟨_, rfl, rfl, by omega, fun h => absurd h (by decide)⟩
    | exact ⟨_, rfl, rfl, hr, hro⟩
    | trace_state
set_option maxHeartbeats 1000000 in
theorem szColumnS (xs : List (Col)) (hl : xs.length ≤ maxLen) (hf : ∀ x, x ∈ xs → fitCol x) (left : Int) (h0 : 0 ≤ left) (h1 : left ≤ 1048576) : EntQ Tryz.prog 95 [.d (.sl false (xs.map colD)), .d (.i .i64 left)] [] (fun R O => ∃ r, R = .d (.i .i64 r) ∧ O = [] ∧ r ≤ left ∧ (0 ≤ r → r + ((wl wColumn xs : Nat) : Int) ≤ left)) := by
  have e1 := sub_small (n := (xs.map colD).length) h0 h1 (by rw [List.length_map]; exact hl)
  have hxl : (xs.map colD).length = xs.length := List.length_map ..
  refine ent_of tok mixed (f := 95) Tryz.func95 (by kernel_rfl) (keep := false) ?_
  repeat' ((conv => whnf) <;> (first | ((with_reducible refine isCall ?_) <;> (first | (refine ⟨_, c1, ?_⟩; rintro _ _ ⟨r, rfl, rfl, hr, hro⟩) | fail)) | ((with_reducible refine isLoop ?_) <;> (first | (refine ⟨[5, 1, 0], [], fun s => ∃ (k : Nat) (n l : Int), n = k ∧ k ≤ xs.length ∧ (0 ≤ l ∧ l + ((xs.length + wsum wColumn (xs.take k) : Nat) : Int) ≤ left) ∧ s = ⟨[(5, .d (.i .i64 n)), (1, .d (.i .i64 l)), (0, .d (.sl false (xs.map colD)))], []⟩, fun s => match look 5 s.env with | some (.d (.i _ n)) => xs.length - n.toNat | _ => 0, rfl, ⟨0, _, _, rfl, Nat.zero_le _, (by have := of_decide_eq_false (by assumption : decide (IntKind.i64.wrap (left - ((xs.map colD).length : Int)) < 0) = false); rw [wsum_zero]; omega), rfl⟩, ?_⟩; rintro s ⟨k, n, l, rfl, hk, hl2, rfl⟩) | fail)) | ((with_reducible refine isCut ?_) <;> (first | refine ⟨⟨none⟩, ?_⟩)) | ((first | with_reducible refine isEx ?_ | with_reducible refine isAnd ?_ | with_reducible refine isOr ?_) <;> (first | ((with_reducible refine isGet (xs := xs.map colD) (i := ((k : Nat) : Int).toNat) ?_); obtain ⟨x, hx⟩ := get_ex (ss := xs) (k := k) (lt_of_dec (by assumption)); have c1 := szColumn x (hf x (get_mem hx)) l hl2.1 (by omega); refine ⟨_, get_map' hx, ?_⟩) | ((with_reducible refine isSmall ?_) <;> (refine ⟨?_, ?_⟩; kernel_rfl)) | refine ⟨rfl, ?_⟩ | refine ⟨Int.natCast_nonneg _, ?_⟩)) | with_reducible refine Both.mk ?_ ?_ | rintro _ rfl | exact rfl | (split <;> (rename_i h; first | (simp only [beq_self_eq_true, eq_self, decide_true, Bool.not_true, Bool.false_eq_true] at h; done) | (try rw [h])))))
  all_goals (conv => whnf)
  all_goals first
    | exact ⟨_, rfl, rfl, by omega, fun h => absurd h (by decide)⟩
    | (have hp := of_decide_eq_false (by assumption : decide (r < 0) = false)
       have hq := hro (by omega)
       exact ⟨⟨k + 1, _, _, step_up (get_lt hx) hl, get_lt hx, (by rw [wsum_up hx]; omega), rfl⟩, mu_up (get_lt hx) hl⟩)
    | (have e : k = xs.length := by have := of_decide_eq_false h; omega
       rw [e, List.take_length] at hl2
       exact ⟨_, rfl, rfl, by omega, fun h => hl2.2⟩)
    | trace_state
set_option maxHeartbeats 1000000 in
theorem szValueS (xs : List (Val)) (hl : xs.length ≤ maxLen) (hf : ∀ x, x ∈ xs → fitVal x) (left : Int) (h0 : 0 ≤ left) (h1 : left ≤ 1048576) : EntQ Tryz.prog 98 [.d (.sl false (xs.map valD)), .d (.i .i64 left)] [] (fun R O => ∃ r, R = .d (.i .i64 r) ∧ O = [] ∧ r ≤ left ∧ (0 ≤ r → r + ((wl wValue xs : Nat) : Int) ≤ left)) := by
  have e1 := sub_small (n := (xs.map valD).length) h0 h1 (by rw [List.length_map]; exact hl)
  have hxl : (xs.map valD).length = xs.length := List.length_map ..
  refine ent_of tok mixed (f := 98) Tryz.func98 (by kernel_rfl) (keep := false) ?_
  repeat' ((conv => whnf) <;> (first | ((with_reducible refine isCall ?_) <;> (first | (refine ⟨_, c1, ?_⟩; rintro _ _ ⟨r, rfl, rfl, hr, hro⟩) | fail)) | ((with_reducible refine isLoop ?_) <;> (first | (refine ⟨[5, 1, 0], [], fun s => ∃ (k : Nat) (n l : Int), n = k ∧ k ≤ xs.length ∧ (0 ≤ l ∧ l + ((xs.length + wsum wValue (xs.take k) : Nat) : Int) ≤ left) ∧ s = ⟨[(5, .d (.i .i64 n)), (1, .d (.i .i64 l)), (0, .d (.sl false (xs.map valD)))], []⟩, fun s => match look 5 s.env with | some (.d (.i _ n)) => xs.length - n.toNat | _ => 0, rfl, ⟨0, _, _, rfl, Nat.zero_le _, (by have := of_decide_eq_false (by assumption : decide (IntKind.i64.wrap (left - ((xs.map valD).length : Int)) < 0) = false); rw [wsum_zero]; omega), rfl⟩, ?_⟩; rintro s ⟨k, n, l, rfl, hk, hl2, rfl⟩) | fail)) | ((with_reducible refine isCut ?_) <;> (first | refine ⟨⟨none⟩, ?_⟩)) | ((first | with_reducible refine isEx ?_ | with_reducible refine isAnd ?_ | with_reducible refine isOr ?_) <;> (first | ((with_reducible refine isGet (xs := xs.map valD) (i := ((k : Nat) : Int).toNat) ?_); obtain ⟨x, hx⟩ := get_ex (ss := xs) (k := k) (lt_of_dec (by assumption)); have c1 := szValue x (hf x (get_mem hx)) l hl2.1 (by omega); refine ⟨_, get_map' hx, ?_⟩) | ((with_reducible refine isSmall ?_) <;> (refine ⟨?_, ?_⟩; kernel_rfl)) | refine ⟨rfl, ?_⟩ | refine ⟨Int.natCast_nonneg _, ?_⟩)) | with_reducible refine Both.mk ?_ ?_ | rintro _ rfl | exact rfl | (split <;> (rename_i h; first | (simp only [beq_self_eq_true, eq_self, decide_true, Bool.not_true, Bool.false_eq_true] at h; done) | (try rw [h])))))
  all_goals (conv => whnf)
  all_goals first
    | exact ⟨_, rfl, rfl, by omega, fun h => absurd h (by decide)⟩
    | (have hp := of_decide_eq_false (by assumption : decide (r < 0) = false)
       have hq := hro (by omega)
       exact ⟨⟨k + 1, _, _, step_up (get_lt hx) hl, get_lt hx, (by rw [wsum_up hx]; omega), rfl⟩, mu_up (get_lt hx) hl⟩)
    | (have e : k = xs.length := by have := of_decide_eq_false h; omega
       rw [e, List.take_length] at hl2
       exact ⟨_, rfl, rfl, by omega, fun h => hl2.2⟩)
    | trace_state
set_option maxHeartbeats 1000000 in
theorem szIndexS (xs : List (Idx)) (hl : xs.length ≤ maxLen) (hf : ∀ x, x ∈ xs → fitIdx x) (left : Int) (h0 : 0 ≤ left) (h1 : left ≤ 1048576) : EntQ Tryz.prog 97 [.d (.sl false (xs.map idxD)), .d (.i .i64 left)] [] (fun R O => ∃ r, R = .d (.i .i64 r) ∧ O = [] ∧ r ≤ left ∧ (0 ≤ r → r + ((wl wIdx xs : Nat) : Int) ≤ left)) := by
  have e1 := sub_small (n := (xs.map idxD).length) h0 h1 (by rw [List.length_map]; exact hl)
  have hxl : (xs.map idxD).length = xs.length := List.length_map ..
  refine ent_of tok mixed (f := 97) Tryz.func97 (by kernel_rfl) (keep := false) ?_
  repeat' ((conv => whnf) <;> (first | ((with_reducible refine isCall ?_) <;> (first | (refine ⟨_, c1, ?_⟩; rintro _ _ ⟨r, rfl, rfl, hr, hro⟩) | fail)) | ((with_reducible refine isLoop ?_) <;> (first | (refine ⟨[5, 1, 0], [], fun s => ∃ (k : Nat) (n l : Int), n = k ∧ k ≤ xs.length ∧ (0 ≤ l ∧ l + ((xs.length + wsum wIdx (xs.take k) : Nat) : Int) ≤ left) ∧ s = ⟨[(5, .d (.i .i64 n)), (1, .d (.i .i64 l)), (0, .d (.sl false (xs.map idxD)))], []⟩, fun s => match look 5 s.env with | some (.d (.i _ n)) => xs.length - n.toNat | _ => 0, rfl, ⟨0, _, _, rfl, Nat.zero_le _, (by have := of_decide_eq_false (by assumption : decide (IntKind.i64.wrap (left - ((xs.map idxD).length : Int)) < 0) = false); rw [wsum_zero]; omega), rfl⟩, ?_⟩; rintro s ⟨k, n, l, rfl, hk, hl2, rfl⟩) | fail)) | ((with_reducible refine isCut ?_) <;> (first | refine ⟨⟨none⟩, ?_⟩)) | ((first | with_reducible refine isEx ?_ | with_reducible refine isAnd ?_ | with_reducible refine isOr ?_) <;> (first | ((with_reducible refine isGet (xs := xs.map idxD) (i := ((k : Nat) : Int).toNat) ?_); obtain ⟨x, hx⟩ := get_ex (ss := xs) (k := k) (lt_of_dec (by assumption)); have c1 := szIndex x (hf x (get_mem hx)) l hl2.1 (by omega); refine ⟨_, get_map' hx, ?_⟩) | ((with_reducible refine isSmall ?_) <;> (refine ⟨?_, ?_⟩; kernel_rfl)) | refine ⟨rfl, ?_⟩ | refine ⟨Int.natCast_nonneg _, ?_⟩)) | with_reducible refine Both.mk ?_ ?_ | rintro _ rfl | exact rfl | (split <;> (rename_i h; first | (simp only [beq_self_eq_true, eq_self, decide_true, Bool.not_true, Bool.false_eq_true] at h; done) | (try rw [h])))))
  all_goals (conv => whnf)
  all_goals first
    | exact ⟨_, rfl, rfl, by omega, fun h => absurd h (by decide)⟩
    | (have hp := of_decide_eq_false (by assumption : decide (r < 0) = false)
       have hq := hro (by omega)
       exact ⟨⟨k + 1, _, _, step_up (get_lt hx) hl, get_lt hx, (by rw [wsum_up hx]; omega), rfl⟩, mu_up (get_lt hx) hl⟩)
    | (have e : k = xs.length := by have := of_decide_eq_false h; omega
       rw [e, List.take_length] at hl2
       exact ⟨_, rfl, rfl, by omega, fun h => hl2.2⟩)
    | trace_state
theorem szRowOf (x : List Val) (hf : fitRow x) (left : Int) (h0 : 0 ≤ left) (h1 : left ≤ 1048576) : EntQ Tryz.prog 98 [.d (rowD x), .d (.i .i64 left)] [] (fun R O => ∃ r, R = .d (.i .i64 r) ∧ O = [] ∧ r ≤ left ∧ (0 ≤ r → r + ((wRow x : Nat) : Int) ≤ left)) := szValueS x hf.1 hf.2 left h0 h1
set_option maxHeartbeats 1000000 in
theorem szValueSS (xs : List (List Val)) (hl : xs.length ≤ maxLen) (hf : ∀ x, x ∈ xs → fitRow x) (left : Int) (h0 : 0 ≤ left) (h1 : left ≤ 1048576) : EntQ Tryz.prog 65 [.d (.sl false (xs.map rowD)), .d (.i .i64 left)] [] (fun R O => ∃ r, R = .d (.i .i64 r) ∧ O = [] ∧ r ≤ left ∧ (0 ≤ r → r + ((wl wRow xs : Nat) : Int) ≤ left)) := by
  have e1 := sub_small (n := (xs.map rowD).length) h0 h1 (by rw [List.length_map]; exact hl)
  have hxl : (xs.map rowD).length = xs.length := List.length_map ..
  refine ent_of tok mixed (f := 65) Tryz.func65 (by kernel_rfl) (keep := false) ?_
  repeat' ((conv => whnf) <;> (first | ((with_reducible refine isCall ?_) <;> (first | (refine ⟨_, c1, ?_⟩; rintro _ _ ⟨r, rfl, rfl, hr, hro⟩) | fail)) | ((with_reducible refine isLoop ?_) <;> (first | (refine ⟨[5, 1, 0], [], fun s => ∃ (k : Nat) (n l : Int), n = k ∧ k ≤ xs.length ∧ (0 ≤ l ∧ l + ((xs.length + wsum wRow (xs.take k) : Nat) : Int) ≤ left) ∧ s = ⟨[(5, .d (.i .i64 n)), (1, .d (.i .i64 l)), (0, .d (.sl false (xs.map rowD)))], []⟩, fun s => match look 5 s.env with | some (.d (.i _ n)) => xs.length - n.toNat | _ => 0, rfl, ⟨0, _, _, rfl, Nat.zero_le _, (by have := of_decide_eq_false (by assumption : decide (IntKind.i64.wrap (left - ((xs.map rowD).length : Int)) < 0) = false); rw [wsum_zero]; omega), rfl⟩, ?_⟩; rintro s ⟨k, n, l, rfl, hk, hl2, rfl⟩) | fail)) | ((with_reducible refine isCut ?_) <;> (first | refine ⟨⟨none⟩, ?_⟩)) | ((first | with_reducible refine isEx ?_ | with_reducible refine isAnd ?_ | with_reducible refine isOr ?_) <;> (first | ((with_reducible refine isGet (xs := xs.map rowD) (i := ((k : Nat) : Int).toNat) ?_); obtain ⟨x, hx⟩ := get_ex (ss := xs) (k := k) (lt_of_dec (by assumption)); have c1 := szRowOf x (hf x (get_mem hx)) l hl2.1 (by omega); refine ⟨_, get_map' hx, ?_⟩) | ((with_reducible refine isSmall ?_) <;> (refine ⟨?_, ?_⟩; kernel_rfl)) | refine ⟨rfl, ?_⟩ | refine ⟨Int.natCast_nonneg _, ?_⟩)) | with_reducible refine Both.mk ?_ ?_ | rintro _ rfl | exact rfl | (split <;> (rename_i h; first | (simp only [beq_self_eq_true, eq_self, decide_true, Bool.not_true, Bool.false_eq_true] at h; done) | (try rw [h])))))
  all_goals (conv => whnf)
  all_goals first
    | exact ⟨_, rfl, rfl, by omega, fun h => absurd h (by decide)⟩
    | (have hp := of_decide_eq_false (by assumption : decide (r < 0) = false)
       have hq := hro (by omega)
       exact ⟨⟨k + 1, _, _, step_up (get_lt hx) hl, get_lt hx, (by rw [wsum_up hx]; omega), rfl⟩, mu_up (get_lt hx) hl⟩)
    | (have e : k = xs.length := by have := of_decide_eq_false h; omega
       rw [e, List.take_length] at hl2
       exact ⟨_, rfl, rfl, by omega, fun h => hl2.2⟩)
    | trace_state
set_option maxHeartbeats 1000000 in
theorem szSchema (x : Schema) (hf : x.fits) (left : Int) (h0 : 0 ≤ left) (h1 : left ≤ 1048576) : EntQ Tryz.prog 64 [.d (schemaD x), .d (.i .i64 left)] [] (fun R O => ∃ r, R = .d (.i .i64 r) ∧ O = [] ∧ r ≤ left ∧ (0 ≤ r → r + ((wSch x : Nat) : Int) ≤ left)) := by
  have e1 := sub_small (n := x.name.length) h0 h1 hf.name
  refine ent_of tok mixed (f := 64) Tryz.func64 (by kernel_rfl) (keep := false) ?_
  repeat' ((conv => whnf) <;> (first | ((with_reducible refine isCall ?_) <;> (first | (refine ⟨_, szColumnS x.cols hf.cols hf.names _ (Int.not_lt.1 (of_decide_eq_false (by assumption))) (by omega), ?_⟩; rintro _ _ ⟨r1, rfl, rfl, hr1, ho1⟩) | (refine ⟨_, szInt64S x.keys hf.keys _ (Int.not_lt.1 (of_decide_eq_false (by assumption))) (by omega), ?_⟩; rintro _ _ ⟨r2, rfl, rfl, hr2, ho2⟩) | (refine ⟨_, szIndexS x.idxs hf.idxs hf.lists _ (Int.not_lt.1 (of_decide_eq_false (by assumption))) (by omega), ?_⟩; rintro _ _ ⟨r3, rfl, rfl, hr3, ho3⟩) | fail)) | ((with_reducible refine isCut ?_) <;> (first | refine ⟨⟨none⟩, ?_⟩)) | ((first | with_reducible refine isEx ?_ | with_reducible refine isAnd ?_ | with_reducible refine isOr ?_) <;> (first | ((with_reducible refine isSmall ?_) <;> (refine ⟨?_, ?_⟩; kernel_rfl)) | refine ⟨rfl, ?_⟩ | refine ⟨Int.natCast_nonneg _, ?_⟩)) | with_reducible refine Both.mk ?_ ?_ | rintro _ rfl | exact rfl | (split <;> (rename_i h; first | (simp only [beq_self_eq_true, eq_self, decide_true, Bool.not_true, Bool.false_eq_true] at h; done) | (try rw [h])))))
  all_goals (conv => whnf)
  all_goals first
    | exact ⟨_, rfl, rfl, by omega, fun h => absurd h (by decide)⟩
    | exact ⟨_, rfl, rfl, by omega, fun h => by have q1 := ho1 (by omega); have q2 := ho2 (by omega); have q3 := ho3 (by omega); unfold wSch; omega⟩
    | trace_state
set_option maxHeartbeats 1000000 in
theorem szTable (x : Tab) (hf : x.fit2) (left : Int) (h0 : 0 ≤ left) (h1 : left ≤ 1048576) : EntQ Tryz.prog 31 [.d (tabD x), .d (.i .i64 left)] [] (fun R O => ∃ r, R = .d (.i .i64 r) ∧ O = [] ∧ r ≤ left ∧ (0 ≤ r → r + ((wTab x : Nat) : Int) ≤ left)) := by
  refine ent_of tok mixed (f := 31) Tryz.func31 (by kernel_rfl) (keep := false) ?_
  repeat' ((conv => whnf) <;> (first | ((with_reducible refine isCall ?_) <;> (first | (refine ⟨_, szSchema x.sch hf.sch left h0 h1, ?_⟩; rintro _ _ ⟨r1, rfl, rfl, hr1, ho1⟩) | (refine ⟨_, szValueSS x.rows hf.rows hf.row _ (Int.not_lt.1 (of_decide_eq_false (by assumption))) (by omega), ?_⟩; rintro _ _ ⟨r2, rfl, rfl, hr2, ho2⟩) | fail)) | ((with_reducible refine isCut ?_) <;> (first | refine ⟨⟨none⟩, ?_⟩)) | ((first | with_reducible refine isEx ?_ | with_reducible refine isAnd ?_ | with_reducible refine isOr ?_) <;> (first | ((with_reducible refine isSmall ?_) <;> (refine ⟨?_, ?_⟩; kernel_rfl)) | refine ⟨rfl, ?_⟩ | refine ⟨Int.natCast_nonneg _, ?_⟩)) | with_reducible refine Both.mk ?_ ?_ | rintro _ rfl | exact rfl | (split <;> (rename_i h; first | (simp only [beq_self_eq_true, eq_self, decide_true, Bool.not_true, Bool.false_eq_true] at h; done) | (try rw [h])))))
  all_goals (conv => whnf)
  all_goals first
    | exact ⟨_, rfl, rfl, by omega, fun h => absurd h (by decide)⟩
    | exact ⟨_, rfl, rfl, by omega, fun h => by have q1 := ho1 (by omega); have q2 := ho2 (by omega); unfold wTab; omega⟩
    | trace_state
set_option maxHeartbeats 1000000 in
theorem szTableS (xs : List (Tab)) (hl : xs.length ≤ maxLen) (hf : ∀ x, x ∈ xs → Tab.fit2 x) (left : Int) (h0 : 0 ≤ left) (h1 : left ≤ 1048576) : EntQ Tryz.prog 12 [.d (.sl false (xs.map tabD)), .d (.i .i64 left)] [] (fun R O => ∃ r, R = .d (.i .i64 r) ∧ O = [] ∧ r ≤ left ∧ (0 ≤ r → r + ((wl wTab xs : Nat) : Int) ≤ left)) := by
  have e1 := sub_small (n := (xs.map tabD).length) h0 h1 (by rw [List.length_map]; exact hl)
  have hxl : (xs.map tabD).length = xs.length := List.length_map ..
  refine ent_of tok mixed (f := 12) Tryz.func12 (by kernel_rfl) (keep := false) ?_
  repeat' ((conv => whnf) <;> (first | ((with_reducible refine isCall ?_) <;> (first | (refine ⟨_, c1, ?_⟩; rintro _ _ ⟨r, rfl, rfl, hr, hro⟩) | fail)) | ((with_reducible refine isLoop ?_) <;> (first | (refine ⟨[5, 1, 0], [], fun s => ∃ (k : Nat) (n l : Int), n = k ∧ k ≤ xs.length ∧ (0 ≤ l ∧ l + ((xs.length + wsum wTab (xs.take k) : Nat) : Int) ≤ left) ∧ s = ⟨[(5, .d (.i .i64 n)), (1, .d (.i .i64 l)), (0, .d (.sl false (xs.map tabD)))], []⟩, fun s => match look 5 s.env with | some (.d (.i _ n)) => xs.length - n.toNat | _ => 0, rfl, ⟨0, _, _, rfl, Nat.zero_le _, (by have := of_decide_eq_false (by assumption : decide (IntKind.i64.wrap (left - ((xs.map tabD).length : Int)) < 0) = false); rw [wsum_zero]; omega), rfl⟩, ?_⟩; rintro s ⟨k, n, l, rfl, hk, hl2, rfl⟩) | fail)) | ((with_reducible refine isCut ?_) <;> (first | refine ⟨⟨none⟩, ?_⟩)) | ((first | with_reducible refine isEx ?_ | with_reducible refine isAnd ?_ | with_reducible refine isOr ?_) <;> (first | ((with_reducible refine isGet (xs := xs.map tabD) (i := ((k : Nat) : Int).toNat) ?_); obtain ⟨x, hx⟩ := get_ex (ss := xs) (k := k) (lt_of_dec (by assumption)); have c1 := szTable x (hf x (get_mem hx)) l hl2.1 (by omega); refine ⟨_, get_map' hx, ?_⟩) | ((with_reducible refine isSmall ?_) <;> (refine ⟨?_, ?_⟩; kernel_rfl)) | refine ⟨rfl, ?_⟩ | refine ⟨Int.natCast_nonneg _, ?_⟩)) | with_reducible refine Both.mk ?_ ?_ | rintro _ rfl | exact rfl | (split <;> (rename_i h; first | (simp only [beq_self_eq_true, eq_self, decide_true, Bool.not_true, Bool.false_eq_true] at h; done) | (try rw [h])))))
  all_goals (conv => whnf)
  all_goals first
    | exact ⟨_, rfl, rfl, by omega, fun h => absurd h (by decide)⟩
    | (have hp := of_decide_eq_false (by assumption : decide (r < 0) = false)
       have hq := hro (by omega)
       exact ⟨⟨k + 1, _, _, step_up (get_lt hx) hl, get_lt hx, (by rw [wsum_up hx]; omega), rfl⟩, mu_up (get_lt hx) hl⟩)
    | (have e : k = xs.length := by have := of_decide_eq_false h; omega
       rw [e, List.take_length] at hl2
       exact ⟨_, rfl, rfl, by omega, fun h => hl2.2⟩)
    | trace_state
theorem szDb (xs : List Tab) (hl : xs.length ≤ maxLen) (hf : ∀ x, x ∈ xs → x.fit2) : EntQ Tryz.prog 4 [.d (.agg [.sl false (xs.map tabD)]), .d (.i .i64 1048576)] [] (fun R O => ∃ r, R = .d (.i .i64 r) ∧ O = [] ∧ (0 ≤ r → wl wTab xs ≤ 1048576)) := by
  have c1 := szTableS xs hl hf 1048576 (by decide) (by decide)
  refine ent_of tok mixed (f := 4) Tryz.func4 (by kernel_rfl) (keep := false) ?_
  repeat' ((conv => whnf) <;> (first | ((with_reducible refine isCall ?_) <;> (first | (refine ⟨_, c1, ?_⟩; rintro _ _ ⟨r, rfl, rfl, hr, hro⟩) | fail)) | ((with_reducible refine isCut ?_) <;> (first | refine ⟨⟨none⟩, ?_⟩)) | ((first | with_reducible refine isEx ?_ | with_reducible refine isAnd ?_ | with_reducible refine isOr ?_) <;> (first | ((with_reducible refine isSmall ?_) <;> (refine ⟨?_, ?_⟩; kernel_rfl)) | refine ⟨rfl, ?_⟩ | refine ⟨Int.natCast_nonneg _, ?_⟩)) | with_reducible refine Both.mk ?_ ?_ | rintro _ rfl | exact rfl | (split <;> (rename_i h; first | (simp only [beq_self_eq_true, eq_self, decide_true, Bool.not_true, Bool.false_eq_true] at h; done) | (try rw [h])))))
  all_goals (conv => whnf)
  all_goals first
    | exact ⟨_, rfl, rfl, fun h => absurd h (by decide)⟩
    | exact ⟨_, rfl, rfl, fun h => by have := hro h; omega⟩
    | trace_state
theorem toColumn (x : Col) : Ent Tryz.prog 126 [.d (colD x)] [] (.d (colD x)) [] := by
  refine ent_of tok mixed (f := 126) Tryz.func126 (by kernel_rfl) (keep := false) ?_
  repeat' ((conv => whnf) <;> (first | ((with_reducible refine isCall ?_) <;> (first | fail)) | ((with_reducible refine isCut ?_) <;> (first | refine ⟨⟨none⟩, ?_⟩)) | ((first | with_reducible refine isEx ?_ | with_reducible refine isAnd ?_ | with_reducible refine isOr ?_) <;> (first | ((with_reducible refine isSmall ?_) <;> (refine ⟨?_, ?_⟩; kernel_rfl)) | refine ⟨rfl, ?_⟩ | refine ⟨Int.natCast_nonneg _, ?_⟩)) | with_reducible refine Both.mk ?_ ?_ | rintro _ rfl | exact rfl | (split <;> (rename_i h; first | (simp only [beq_self_eq_true, eq_self, decide_true, Bool.not_true, Bool.false_eq_true] at h; done) | (try rw [h])))))
theorem toValue (x : Val) : Ent Tryz.prog 77 [.d (valD x)] [] (.d (valD x)) [] := by
  refine ent_of tok mixed (f := 77) Tryz.func77 (by kernel_rfl) (keep := false) ?_
  repeat' ((conv => whnf) <;> (first | ((with_reducible refine isCall ?_) <;> (first | fail)) | ((with_reducible refine isCut ?_) <;> (first | refine ⟨⟨none⟩, ?_⟩)) | ((first | with_reducible refine isEx ?_ | with_reducible refine isAnd ?_ | with_reducible refine isOr ?_) <;> (first | ((with_reducible refine isSmall ?_) <;> (refine ⟨?_, ?_⟩; kernel_rfl)) | refine ⟨rfl, ?_⟩ | refine ⟨Int.natCast_nonneg _, ?_⟩)) | with_reducible refine Both.mk ?_ ?_ | rintro _ rfl | exact rfl | (split <;> (rename_i h; first | (simp only [beq_self_eq_true, eq_self, decide_true, Bool.not_true, Bool.false_eq_true] at h; done) | (try rw [h])))))
set_option maxHeartbeats 4000000 in
theorem toInt64S (xs : List (Int)) (hl : xs.length ≤ 1048576) : Ent Tryz.prog 105 [.d (.sl false (xs.map i64D))] [] (.own 0) [.arr 1 false (xs.map i64D)] := by
  have hm : xs.length ≤ maxLen := Nat.le_trans hl (by decide)
  have hxl : (xs.map i64D).length = xs.length := List.length_map ..
  refine ent_of (cx := ⟨tab, [], []⟩) tok mixed (f := 105) Tryz.func105 (by kernel_rfl) (keep := true) ?_
  repeat' ((conv => whnf) <;> (first | ((with_reducible refine isCall ?_) <;> (first | refine ⟨⟨rfl, Int.natCast_nonneg _, (by rw [List.length_map]; show (xs.length : Int) * ((8 : Nat) : Int) ≤ 281474976710656; omega), (by rw [List.length_map]; have : ((maxLen : Nat) : Int) = 9223372036854775807 := rfl; omega)⟩, ?_⟩ | refine ⟨⟨(by rw [hz]; show k < _; rw [filled_len hk]; exact get_lt hx), rfl⟩, ?_⟩ | refine ⟨⟨Int.natCast_nonneg _, (by rw [hz, filled_len hk]; have := get_lt hx; omega)⟩, ?_⟩ | fail)) | ((with_reducible refine isLoop ?_) <;> (first | (refine ⟨[4, 3, 0], [10007], fun s => ∃ (k : Nat) (n : Int) (zs : List D), n = k ∧ k ≤ xs.length ∧ zs = filled i64D (.i .i64 (Int.ofNat 0)) xs k ∧ s = ⟨[(4, .d (.i .i64 n)), (3, .own 10007), (0, .d (.sl false (xs.map i64D)))], [(10007, .arr 1 false zs)]⟩, fun s => match look 4 s.env with | some (.d (.i _ n)) => xs.length - n.toNat | _ => 0, rfl, ⟨0, _, _, rfl, Nat.zero_le _, ?_, rfl⟩, ?_⟩; rotate_left; rintro s ⟨k, n, zs, rfl, hk, hz, rfl⟩) | refine ⟨⟨rfl, Int.natCast_nonneg _, (by rw [List.length_map]; show (xs.length : Int) * ((8 : Nat) : Int) ≤ 281474976710656; omega), (by rw [List.length_map]; have : ((maxLen : Nat) : Int) = 9223372036854775807 := rfl; omega)⟩, ?_⟩ | refine ⟨⟨(by rw [hz]; show k < _; rw [filled_len hk]; exact get_lt hx), rfl⟩, ?_⟩ | refine ⟨⟨Int.natCast_nonneg _, (by rw [hz, filled_len hk]; have := get_lt hx; omega)⟩, ?_⟩ | fail)) | ((with_reducible refine isCut ?_) <;> (first | refine ⟨⟨none⟩, ?_⟩)) | ((first | with_reducible refine isEx ?_ | with_reducible refine isAnd ?_ | with_reducible refine isOr ?_) <;> (first | ((with_reducible refine isGet (xs := xs.map i64D) (i := ((k : Nat) : Int).toNat) ?_); obtain ⟨x, hx⟩ := get_ex (ss := xs) (k := k) (lt_of_dec (by assumption)); refine ⟨_, get_map' hx, ?_⟩) | refine ⟨⟨rfl, Int.natCast_nonneg _, (by rw [List.length_map]; show (xs.length : Int) * ((8 : Nat) : Int) ≤ 281474976710656; omega), (by rw [List.length_map]; have : ((maxLen : Nat) : Int) = 9223372036854775807 := rfl; omega)⟩, ?_⟩ | refine ⟨⟨(by rw [hz]; show k < _; rw [filled_len hk]; exact get_lt hx), rfl⟩, ?_⟩ | refine ⟨⟨Int.natCast_nonneg _, (by rw [hz, filled_len hk]; have := get_lt hx; omega)⟩, ?_⟩ | ((with_reducible refine isSmall ?_) <;> (refine ⟨?_, ?_⟩; kernel_rfl)) | refine ⟨rfl, ?_⟩ | refine ⟨Int.natCast_nonneg _, ?_⟩)) | with_reducible refine Both.mk ?_ ?_ | rintro _ rfl | exact rfl | (split <;> (rename_i h; first | (simp only [beq_self_eq_true, eq_self, decide_true, Bool.not_true, Bool.false_eq_true] at h; done) | (try rw [h])))))
  all_goals (conv => whnf)
  all_goals first
    | exact ⟨⟨k + 1, _, _, step_up (get_lt hx) hm, get_lt hx, (by rw [hz]; exact filled_up hx), rfl⟩, mu_up (get_lt hx) hm⟩
    | (have e : k = xs.length := by have := of_decide_eq_false h; omega
       rw [hz, e, filled_all]; rfl)
    | (show List.replicate (xs.map i64D).length _ = _
       rw [List.length_map]; exact filled_zero _ _ _)
    | trace_state
set_option maxHeartbeats 4000000 in
theorem toColumnS (xs : List (Col)) (hl : xs.length ≤ 1048576) : Ent Tryz.prog 104 [.d (.sl false (xs.map colD))] [] (.own 0) [.arr 3 false (xs.map colD)] := by
  have hm : xs.length ≤ maxLen := Nat.le_trans hl (by decide)
  have hxl : (xs.map colD).length = xs.length := List.length_map ..
  refine ent_of (cx := ⟨tab, [], []⟩) tok mixed (f := 104) Tryz.func104 (by kernel_rfl) (keep := true) ?_
  repeat' ((conv => whnf) <;> (first | ((with_reducible refine isCall ?_) <;> (first | (refine ⟨_, toColumn x, ?_⟩; rintro _ _ ⟨rfl, rfl⟩) | refine ⟨⟨rfl, Int.natCast_nonneg _, (by rw [List.length_map]; show (xs.length : Int) * ((32 : Nat) : Int) ≤ 281474976710656; omega), (by rw [List.length_map]; have : ((maxLen : Nat) : Int) = 9223372036854775807 := rfl; omega)⟩, ?_⟩ | refine ⟨⟨(by rw [hz]; show k < _; rw [filled_len hk]; exact get_lt hx), rfl⟩, ?_⟩ | refine ⟨⟨Int.natCast_nonneg _, (by rw [hz, filled_len hk]; have := get_lt hx; omega)⟩, ?_⟩ | fail)) | ((with_reducible refine isLoop ?_) <;> (first | (refine ⟨[4, 3, 0], [10007], fun s => ∃ (k : Nat) (n : Int) (zs : List D), n = k ∧ k ≤ xs.length ∧ zs = filled colD (.agg [.s [], .i .i64 (Int.ofNat 0), .b false]) xs k ∧ s = ⟨[(4, .d (.i .i64 n)), (3, .own 10007), (0, .d (.sl false (xs.map colD)))], [(10007, .arr 3 false zs)]⟩, fun s => match look 4 s.env with | some (.d (.i _ n)) => xs.length - n.toNat | _ => 0, rfl, ⟨0, _, _, rfl, Nat.zero_le _, ?_, rfl⟩, ?_⟩; rotate_left; rintro s ⟨k, n, zs, rfl, hk, hz, rfl⟩) | refine ⟨⟨rfl, Int.natCast_nonneg _, (by rw [List.length_map]; show (xs.length : Int) * ((32 : Nat) : Int) ≤ 281474976710656; omega), (by rw [List.length_map]; have : ((maxLen : Nat) : Int) = 9223372036854775807 := rfl; omega)⟩, ?_⟩ | refine ⟨⟨(by rw [hz]; show k < _; rw [filled_len hk]; exact get_lt hx), rfl⟩, ?_⟩ | refine ⟨⟨Int.natCast_nonneg _, (by rw [hz, filled_len hk]; have := get_lt hx; omega)⟩, ?_⟩ | fail)) | ((with_reducible refine isCut ?_) <;> (first | refine ⟨⟨none⟩, ?_⟩)) | ((first | with_reducible refine isEx ?_ | with_reducible refine isAnd ?_ | with_reducible refine isOr ?_) <;> (first | ((with_reducible refine isGet (xs := xs.map colD) (i := ((k : Nat) : Int).toNat) ?_); obtain ⟨x, hx⟩ := get_ex (ss := xs) (k := k) (lt_of_dec (by assumption)); refine ⟨_, get_map' hx, ?_⟩) | refine ⟨⟨rfl, Int.natCast_nonneg _, (by rw [List.length_map]; show (xs.length : Int) * ((32 : Nat) : Int) ≤ 281474976710656; omega), (by rw [List.length_map]; have : ((maxLen : Nat) : Int) = 9223372036854775807 := rfl; omega)⟩, ?_⟩ | refine ⟨⟨(by rw [hz]; show k < _; rw [filled_len hk]; exact get_lt hx), rfl⟩, ?_⟩ | refine ⟨⟨Int.natCast_nonneg _, (by rw [hz, filled_len hk]; have := get_lt hx; omega)⟩, ?_⟩ | ((with_reducible refine isSmall ?_) <;> (refine ⟨?_, ?_⟩; kernel_rfl)) | refine ⟨rfl, ?_⟩ | refine ⟨Int.natCast_nonneg _, ?_⟩)) | with_reducible refine Both.mk ?_ ?_ | rintro _ rfl | exact rfl | (split <;> (rename_i h; first | (simp only [beq_self_eq_true, eq_self, decide_true, Bool.not_true, Bool.false_eq_true] at h; done) | (try rw [h])))))
  all_goals (conv => whnf)
  all_goals first
    | exact ⟨⟨k + 1, _, _, step_up (get_lt hx) hm, get_lt hx, (by rw [hz]; exact filled_up hx), rfl⟩, mu_up (get_lt hx) hm⟩
    | (have e : k = xs.length := by have := of_decide_eq_false h; omega
       rw [hz, e, filled_all]; rfl)
    | (show List.replicate (xs.map colD).length _ = _
       rw [List.length_map]; exact filled_zero _ _ _)
    | trace_state
set_option maxHeartbeats 4000000 in
theorem toValueS (xs : List (Val)) (hl : xs.length ≤ 1048576) : Ent Tryz.prog 107 [.d (.sl false (xs.map valD))] [] (.own 0) [.arr 3 false (xs.map valD)] := by
  have hm : xs.length ≤ maxLen := Nat.le_trans hl (by decide)
  have hxl : (xs.map valD).length = xs.length := List.length_map ..
  refine ent_of (cx := ⟨tab, [], []⟩) tok mixed (f := 107) Tryz.func107 (by kernel_rfl) (keep := true) ?_
  repeat' ((conv => whnf) <;> (first | ((with_reducible refine isCall ?_) <;> (first | (refine ⟨_, toValue x, ?_⟩; rintro _ _ ⟨rfl, rfl⟩) | refine ⟨⟨rfl, Int.natCast_nonneg _, (by rw [List.length_map]; show (xs.length : Int) * ((32 : Nat) : Int) ≤ 281474976710656; omega), (by rw [List.length_map]; have : ((maxLen : Nat) : Int) = 9223372036854775807 := rfl; omega)⟩, ?_⟩ | refine ⟨⟨(by rw [hz]; show k < _; rw [filled_len hk]; exact get_lt hx), rfl⟩, ?_⟩ | refine ⟨⟨Int.natCast_nonneg _, (by rw [hz, filled_len hk]; have := get_lt hx; omega)⟩, ?_⟩ | fail)) | ((with_reducible refine isLoop ?_) <;> (first | (refine ⟨[4, 3, 0], [10007], fun s => ∃ (k : Nat) (n : Int) (zs : List D), n = k ∧ k ≤ xs.length ∧ zs = filled valD (.agg [.i .i64 (Int.ofNat 0), .i .i64 (Int.ofNat 0), .s []]) xs k ∧ s = ⟨[(4, .d (.i .i64 n)), (3, .own 10007), (0, .d (.sl false (xs.map valD)))], [(10007, .arr 3 false zs)]⟩, fun s => match look 4 s.env with | some (.d (.i _ n)) => xs.length - n.toNat | _ => 0, rfl, ⟨0, _, _, rfl, Nat.zero_le _, ?_, rfl⟩, ?_⟩; rotate_left; rintro s ⟨k, n, zs, rfl, hk, hz, rfl⟩) | refine ⟨⟨rfl, Int.natCast_nonneg _, (by rw [List.length_map]; show (xs.length : Int) * ((32 : Nat) : Int) ≤ 281474976710656; omega), (by rw [List.length_map]; have : ((maxLen : Nat) : Int) = 9223372036854775807 := rfl; omega)⟩, ?_⟩ | refine ⟨⟨(by rw [hz]; show k < _; rw [filled_len hk]; exact get_lt hx), rfl⟩, ?_⟩ | refine ⟨⟨Int.natCast_nonneg _, (by rw [hz, filled_len hk]; have := get_lt hx; omega)⟩, ?_⟩ | fail)) | ((with_reducible refine isCut ?_) <;> (first | refine ⟨⟨none⟩, ?_⟩)) | ((first | with_reducible refine isEx ?_ | with_reducible refine isAnd ?_ | with_reducible refine isOr ?_) <;> (first | ((with_reducible refine isGet (xs := xs.map valD) (i := ((k : Nat) : Int).toNat) ?_); obtain ⟨x, hx⟩ := get_ex (ss := xs) (k := k) (lt_of_dec (by assumption)); refine ⟨_, get_map' hx, ?_⟩) | refine ⟨⟨rfl, Int.natCast_nonneg _, (by rw [List.length_map]; show (xs.length : Int) * ((32 : Nat) : Int) ≤ 281474976710656; omega), (by rw [List.length_map]; have : ((maxLen : Nat) : Int) = 9223372036854775807 := rfl; omega)⟩, ?_⟩ | refine ⟨⟨(by rw [hz]; show k < _; rw [filled_len hk]; exact get_lt hx), rfl⟩, ?_⟩ | refine ⟨⟨Int.natCast_nonneg _, (by rw [hz, filled_len hk]; have := get_lt hx; omega)⟩, ?_⟩ | ((with_reducible refine isSmall ?_) <;> (refine ⟨?_, ?_⟩; kernel_rfl)) | refine ⟨rfl, ?_⟩ | refine ⟨Int.natCast_nonneg _, ?_⟩)) | with_reducible refine Both.mk ?_ ?_ | rintro _ rfl | exact rfl | (split <;> (rename_i h; first | (simp only [beq_self_eq_true, eq_self, decide_true, Bool.not_true, Bool.false_eq_true] at h; done) | (try rw [h])))))
  all_goals (conv => whnf)
  all_goals first
    | exact ⟨⟨k + 1, _, _, step_up (get_lt hx) hm, get_lt hx, (by rw [hz]; exact filled_up hx), rfl⟩, mu_up (get_lt hx) hm⟩
    | (have e : k = xs.length := by have := of_decide_eq_false h; omega
       rw [hz, e, filled_all]; rfl)
    | (show List.replicate (xs.map valD).length _ = _
       rw [List.length_map]; exact filled_zero _ _ _)
    | trace_state
theorem toIndex (x : Idx) (hs : szIdx x) : Ent Tryz.prog 127 [.d (idxD x)] [] (.agg [.own 0, .d (.b x.uniq)]) [.arr 1 false (x.cols.map i64D)] := by
  have c1 := toInt64S x.cols hs
  refine ent_of (cx := ⟨tab, [], []⟩) tok mixed (f := 127) Tryz.func127 (by kernel_rfl) (keep := true) ?_
  repeat' ((conv => whnf) <;> (first | ((with_reducible refine isCall ?_) <;> (first | (refine ⟨_, c1, ?_⟩; rintro _ _ ⟨rfl, rfl⟩) | fail)) | ((with_reducible refine isCut ?_) <;> (first | refine ⟨⟨none⟩, ?_⟩)) | ((first | with_reducible refine isEx ?_ | with_reducible refine isAnd ?_ | with_reducible refine isOr ?_) <;> (first | ((with_reducible refine isSmall ?_) <;> (refine ⟨?_, ?_⟩; kernel_rfl)) | refine ⟨rfl, ?_⟩ | refine ⟨Int.natCast_nonneg _, ?_⟩)) | with_reducible refine Both.mk ?_ ?_ | rintro _ rfl | exact rfl | (split <;> (rename_i h; first | (simp only [beq_self_eq_true, eq_self, decide_true, Bool.not_true, Bool.false_eq_true] at h; done) | (try rw [h])))))
set_option maxHeartbeats 4000000 in
theorem toIndexS (xs : List (Idx)) (hl : xs.length ≤ 1048576) (hs : ∀ x, x ∈ xs → szIdx x) : Ent Tryz.prog 106 [.d (.sl false (xs.map idxD))] [] (.own 0) [.arr 2 true (xs.map idxO)] := by
  refine ent_deep ?_
  have hm : xs.length ≤ maxLen := Nat.le_trans hl (by decide)
  have hxl : (xs.map idxD).length = xs.length := List.length_map ..
  refine ent_of (cx := ⟨tab, [], []⟩) tok mixed (f := 106) Tryz.func106 (by kernel_rfl) (keep := true) ?_
  repeat' ((conv => whnf) <;> (first | ((with_reducible refine isCall ?_) <;> (first | (refine ⟨_, toIndex x (hs x (get_mem hx)), ?_⟩; rintro _ _ ⟨rfl, rfl⟩) | refine ⟨⟨rfl, Int.natCast_nonneg _, (by rw [List.length_map]; show (xs.length : Int) * ((32 : Nat) : Int) ≤ 281474976710656; omega), (by rw [List.length_map]; have : ((maxLen : Nat) : Int) = 9223372036854775807 := rfl; omega)⟩, ?_⟩ | refine ⟨_, hzk, ?_⟩ | refine ⟨⟨Int.natCast_nonneg _, (by rw [hz, filled_len hk]; have := get_lt hx; omega)⟩, ?_⟩ | fail)) | ((with_reducible refine isLoop ?_) <;> (first | (refine ⟨[4, 3, 0], [10007], fun s => ∃ (k : Nat) (n : Int) (dp : Bool) (zs : List D), n = k ∧ k ≤ xs.length ∧ zs = filled idxO (.agg [.sl false [], .b false]) xs k ∧ s = ⟨[(4, .d (.i .i64 n)), (3, .own 10007), (0, .d (.sl false (xs.map idxD)))], [(10007, .arr 2 dp zs)]⟩, fun s => match look 4 s.env with | some (.d (.i _ n)) => xs.length - n.toNat | _ => 0, rfl, ⟨0, _, _, _, rfl, Nat.zero_le _, ?_, rfl⟩, ?_⟩; rotate_left; rintro s ⟨k, n, dp, zs, rfl, hk, hz, rfl⟩; cases dp) | refine ⟨⟨rfl, Int.natCast_nonneg _, (by rw [List.length_map]; show (xs.length : Int) * ((32 : Nat) : Int) ≤ 281474976710656; omega), (by rw [List.length_map]; have : ((maxLen : Nat) : Int) = 9223372036854775807 := rfl; omega)⟩, ?_⟩ | refine ⟨_, hzk, ?_⟩ | refine ⟨⟨Int.natCast_nonneg _, (by rw [hz, filled_len hk]; have := get_lt hx; omega)⟩, ?_⟩ | fail)) | ((with_reducible refine isCut ?_) <;> (first | refine ⟨⟨none⟩, ?_⟩)) | ((first | with_reducible refine isEx ?_ | with_reducible refine isAnd ?_ | with_reducible refine isOr ?_) <;> (first | ((with_reducible refine isGet (xs := xs.map idxD) (i := ((k : Nat) : Int).toNat) ?_); obtain ⟨x, hx⟩ := get_ex (ss := xs) (k := k) (lt_of_dec (by assumption)); have hzk := filled_get (g := idxO) (z := .agg [.sl false [], .b false]) (get_lt hx); rw [← hz] at hzk; refine ⟨_, get_map' hx, ?_⟩) | refine ⟨⟨rfl, Int.natCast_nonneg _, (by rw [List.length_map]; show (xs.length : Int) * ((32 : Nat) : Int) ≤ 281474976710656; omega), (by rw [List.length_map]; have : ((maxLen : Nat) : Int) = 9223372036854775807 := rfl; omega)⟩, ?_⟩ | refine ⟨_, hzk, ?_⟩ | refine ⟨⟨Int.natCast_nonneg _, (by rw [hz, filled_len hk]; have := get_lt hx; omega)⟩, ?_⟩ | ((with_reducible refine isSmall ?_) <;> (refine ⟨?_, ?_⟩; kernel_rfl)) | refine ⟨rfl, ?_⟩ | refine ⟨Int.natCast_nonneg _, ?_⟩)) | with_reducible refine Both.mk ?_ ?_ | rintro _ rfl | exact rfl | (split <;> (rename_i h; first | (simp only [beq_self_eq_true, eq_self, decide_true, Bool.not_true, Bool.false_eq_true] at h; done) | (try rw [h])))))
  all_goals (conv => whnf)
  all_goals first
    | exact ⟨⟨k + 1, _, _, _, step_up (get_lt hx) hm, get_lt hx, (by rw [hz]; exact filled_up hx), rfl⟩, mu_up (get_lt hx) hm⟩
    | (have e : k = xs.length := by have := of_decide_eq_false h; omega
       refine ⟨true, ?_⟩
       rw [hz, e, filled_all]; rfl)
    | (have e : k = xs.length := by have := of_decide_eq_false h; omega
       refine ⟨false, ?_⟩
       rw [hz, e, filled_all]; rfl)
    | (show List.replicate (xs.map idxD).length _ = _
       rw [List.length_map]; exact filled_zero _ _ _)
    | trace_state
theorem toRowOf (x : List Val) (hs : szRow x) : Ent Tryz.prog 107 [.d (rowD x)] [] (.own 0) [.arr 3 false (x.map valD)] := toValueS x hs
set_option maxHeartbeats 4000000 in
theorem toValueSS (xs : List (List Val)) (hl : xs.length ≤ 1048576) (hs : ∀ x, x ∈ xs → szRow x) : Ent Tryz.prog 76 [.d (.sl false (xs.map rowD))] [] (.own 0) [.arr 1 true (xs.map rowO)] := by
  refine ent_deep ?_
  have hm : xs.length ≤ maxLen := Nat.le_trans hl (by decide)
  have hxl : (xs.map rowD).length = xs.length := List.length_map ..
  refine ent_of (cx := ⟨tab, [], []⟩) tok mixed (f := 76) Tryz.func76 (by kernel_rfl) (keep := true) ?_
  repeat' ((conv => whnf) <;> (first | ((with_reducible refine isCall ?_) <;> (first | (refine ⟨_, toRowOf x (hs x (get_mem hx)), ?_⟩; rintro _ _ ⟨rfl, rfl⟩) | refine ⟨⟨rfl, Int.natCast_nonneg _, (by rw [List.length_map]; show (xs.length : Int) * ((24 : Nat) : Int) ≤ 281474976710656; omega), (by rw [List.length_map]; have : ((maxLen : Nat) : Int) = 9223372036854775807 := rfl; omega)⟩, ?_⟩ | refine ⟨_, hzk, ?_⟩ | refine ⟨⟨Int.natCast_nonneg _, (by rw [hz, filled_len hk]; have := get_lt hx; omega)⟩, ?_⟩ | fail)) | ((with_reducible refine isLoop ?_) <;> (first | (refine ⟨[4, 3, 0], [10007], fun s => ∃ (k : Nat) (n : Int) (dp : Bool) (zs : List D), n = k ∧ k ≤ xs.length ∧ zs = filled rowO (.sl false []) xs k ∧ s = ⟨[(4, .d (.i .i64 n)), (3, .own 10007), (0, .d (.sl false (xs.map rowD)))], [(10007, .arr 1 dp zs)]⟩, fun s => match look 4 s.env with | some (.d (.i _ n)) => xs.length - n.toNat | _ => 0, rfl, ⟨0, _, _, _, rfl, Nat.zero_le _, ?_, rfl⟩, ?_⟩; rotate_left; rintro s ⟨k, n, dp, zs, rfl, hk, hz, rfl⟩; cases dp) | refine ⟨⟨rfl, Int.natCast_nonneg _, (by rw [List.length_map]; show (xs.length : Int) * ((24 : Nat) : Int) ≤ 281474976710656; omega), (by rw [List.length_map]; have : ((maxLen : Nat) : Int) = 9223372036854775807 := rfl; omega)⟩, ?_⟩ | refine ⟨_, hzk, ?_⟩ | refine ⟨⟨Int.natCast_nonneg _, (by rw [hz, filled_len hk]; have := get_lt hx; omega)⟩, ?_⟩ | fail)) | ((with_reducible refine isCut ?_) <;> (first | refine ⟨⟨none⟩, ?_⟩)) | ((first | with_reducible refine isEx ?_ | with_reducible refine isAnd ?_ | with_reducible refine isOr ?_) <;> (first | ((with_reducible refine isGet (xs := xs.map rowD) (i := ((k : Nat) : Int).toNat) ?_); obtain ⟨x, hx⟩ := get_ex (ss := xs) (k := k) (lt_of_dec (by assumption)); have hzk := filled_get (g := rowO) (z := .sl false []) (get_lt hx); rw [← hz] at hzk; refine ⟨_, get_map' hx, ?_⟩) | refine ⟨⟨rfl, Int.natCast_nonneg _, (by rw [List.length_map]; show (xs.length : Int) * ((24 : Nat) : Int) ≤ 281474976710656; omega), (by rw [List.length_map]; have : ((maxLen : Nat) : Int) = 9223372036854775807 := rfl; omega)⟩, ?_⟩ | refine ⟨_, hzk, ?_⟩ | refine ⟨⟨Int.natCast_nonneg _, (by rw [hz, filled_len hk]; have := get_lt hx; omega)⟩, ?_⟩ | ((with_reducible refine isSmall ?_) <;> (refine ⟨?_, ?_⟩; kernel_rfl)) | refine ⟨rfl, ?_⟩ | refine ⟨Int.natCast_nonneg _, ?_⟩)) | with_reducible refine Both.mk ?_ ?_ | rintro _ rfl | exact rfl | (split <;> (rename_i h; first | (simp only [beq_self_eq_true, eq_self, decide_true, Bool.not_true, Bool.false_eq_true] at h; done) | (try rw [h])))))
  all_goals (conv => whnf)
  all_goals first
    | exact ⟨⟨k + 1, _, _, _, step_up (get_lt hx) hm, get_lt hx, (by rw [hz]; exact filled_up hx), rfl⟩, mu_up (get_lt hx) hm⟩
    | (have e : k = xs.length := by have := of_decide_eq_false h; omega
       refine ⟨true, ?_⟩
       rw [hz, e, filled_all]; rfl)
    | (have e : k = xs.length := by have := of_decide_eq_false h; omega
       refine ⟨false, ?_⟩
       rw [hz, e, filled_all]; rfl)
    | (show List.replicate (xs.map rowD).length _ = _
       rw [List.length_map]; exact filled_zero _ _ _)
    | trace_state
set_option maxHeartbeats 1000000 in
theorem toSchema (x : Schema) (hs : szSch x) : Ent Tryz.prog 75 [.d (schemaD x)] [] (.agg [.d (.s x.name), .own 0, .own 1, .own 2]) [.arr 3 false (x.cols.map colD), .arr 1 false (x.keys.map i64D), .arr 2 true (x.idxs.map idxO)] := by
  have c1 := toColumnS x.cols hs.cols
  have c2 := toInt64S x.keys hs.keys
  have c3 := toIndexS x.idxs hs.idxs hs.lists
  refine ent_of (cx := ⟨tab, [], []⟩) tok mixed (f := 75) Tryz.func75 (by kernel_rfl) (keep := true) ?_
  repeat' ((conv => whnf) <;> (first | ((with_reducible refine isCall ?_) <;> (first | (refine ⟨_, c1, ?_⟩; rintro _ _ ⟨rfl, rfl⟩) | (refine ⟨_, c2, ?_⟩; rintro _ _ ⟨rfl, rfl⟩) | (refine ⟨_, c3, ?_⟩; rintro _ _ ⟨rfl, rfl⟩) | fail)) | ((with_reducible refine isCut ?_) <;> (first | refine ⟨⟨none⟩, ?_⟩)) | ((first | with_reducible refine isEx ?_ | with_reducible refine isAnd ?_ | with_reducible refine isOr ?_) <;> (first | ((with_reducible refine isSmall ?_) <;> (refine ⟨?_, ?_⟩; kernel_rfl)) | refine ⟨rfl, ?_⟩ | refine ⟨Int.natCast_nonneg _, ?_⟩)) | with_reducible refine Both.mk ?_ ?_ | rintro _ rfl | exact rfl | (split <;> (rename_i h; first | (simp only [beq_self_eq_true, eq_self, decide_true, Bool.not_true, Bool.false_eq_true] at h; done) | (try rw [h])))))
set_option maxHeartbeats 1000000 in
theorem toTable (x : Tab) (hs : szTab x) : Ent Tryz.prog 44 [.d (tabD x)] [] (.agg [.d (.s x.sch.name), .own 0, .own 1, .own 2, .own 3]) [.arr 3 false (x.sch.cols.map colD), .arr 1 false (x.sch.keys.map i64D), .arr 2 true (x.sch.idxs.map idxO), .arr 1 true (x.rows.map rowO)] := by
  have c1 := toSchema x.sch hs.sch
  have c2 := toValueSS x.rows hs.rows hs.row
  refine ent_of (cx := ⟨tab, [], []⟩) tok mixed (f := 44) Tryz.func44 (by kernel_rfl) (keep := true) ?_
  repeat' ((conv => whnf) <;> (first | ((with_reducible refine isCall ?_) <;> (first | (refine ⟨_, c1, ?_⟩; rintro _ _ ⟨rfl, rfl⟩) | (refine ⟨_, c2, ?_⟩; rintro _ _ ⟨rfl, rfl⟩) | fail)) | ((with_reducible refine isCut ?_) <;> (first | refine ⟨⟨none⟩, ?_⟩)) | ((first | with_reducible refine isEx ?_ | with_reducible refine isAnd ?_ | with_reducible refine isOr ?_) <;> (first | ((with_reducible refine isSmall ?_) <;> (refine ⟨?_, ?_⟩; kernel_rfl)) | refine ⟨rfl, ?_⟩ | refine ⟨Int.natCast_nonneg _, ?_⟩)) | with_reducible refine Both.mk ?_ ?_ | rintro _ rfl | exact rfl | (split <;> (rename_i h; first | (simp only [beq_self_eq_true, eq_self, decide_true, Bool.not_true, Bool.false_eq_true] at h; done) | (try rw [h])))))
set_option maxHeartbeats 4000000 in
theorem toTableS (xs : List (Tab)) (hl : xs.length ≤ 1048576) (hs : ∀ x, x ∈ xs → szTab x) : Ent Tryz.prog 18 [.d (.sl false (xs.map tabD))] [] (.own 0) [.arr 5 true (xs.map tabO)] := by
  refine ent_deep ?_
  have hm : xs.length ≤ maxLen := Nat.le_trans hl (by decide)
  have hxl : (xs.map tabD).length = xs.length := List.length_map ..
  refine ent_of (cx := ⟨tab, [], []⟩) tok mixed (f := 18) Tryz.func18 (by kernel_rfl) (keep := true) ?_
  repeat' ((conv => whnf) <;> (first | ((with_reducible refine isCall ?_) <;> (first | (refine ⟨_, toTable x (hs x (get_mem hx)), ?_⟩; rintro _ _ ⟨rfl, rfl⟩) | refine ⟨⟨rfl, Int.natCast_nonneg _, (by rw [List.length_map]; show (xs.length : Int) * ((112 : Nat) : Int) ≤ 281474976710656; omega), (by rw [List.length_map]; have : ((maxLen : Nat) : Int) = 9223372036854775807 := rfl; omega)⟩, ?_⟩ | refine ⟨_, hzk, ?_⟩ | refine ⟨⟨Int.natCast_nonneg _, (by rw [hz, filled_len hk]; have := get_lt hx; omega)⟩, ?_⟩ | fail)) | ((with_reducible refine isLoop ?_) <;> (first | (refine ⟨[4, 3, 0], [10007], fun s => ∃ (k : Nat) (n : Int) (dp : Bool) (zs : List D), n = k ∧ k ≤ xs.length ∧ zs = filled tabO (.agg [.s [], .sl false [], .sl false [], .sl false [], .sl false []]) xs k ∧ s = ⟨[(4, .d (.i .i64 n)), (3, .own 10007), (0, .d (.sl false (xs.map tabD)))], [(10007, .arr 5 dp zs)]⟩, fun s => match look 4 s.env with | some (.d (.i _ n)) => xs.length - n.toNat | _ => 0, rfl, ⟨0, _, _, _, rfl, Nat.zero_le _, ?_, rfl⟩, ?_⟩; rotate_left; rintro s ⟨k, n, dp, zs, rfl, hk, hz, rfl⟩; cases dp) | refine ⟨⟨rfl, Int.natCast_nonneg _, (by rw [List.length_map]; show (xs.length : Int) * ((112 : Nat) : Int) ≤ 281474976710656; omega), (by rw [List.length_map]; have : ((maxLen : Nat) : Int) = 9223372036854775807 := rfl; omega)⟩, ?_⟩ | refine ⟨_, hzk, ?_⟩ | refine ⟨⟨Int.natCast_nonneg _, (by rw [hz, filled_len hk]; have := get_lt hx; omega)⟩, ?_⟩ | fail)) | ((with_reducible refine isCut ?_) <;> (first | refine ⟨⟨none⟩, ?_⟩)) | ((first | with_reducible refine isEx ?_ | with_reducible refine isAnd ?_ | with_reducible refine isOr ?_) <;> (first | ((with_reducible refine isGet (xs := xs.map tabD) (i := ((k : Nat) : Int).toNat) ?_); obtain ⟨x, hx⟩ := get_ex (ss := xs) (k := k) (lt_of_dec (by assumption)); have hzk := filled_get (g := tabO) (z := .agg [.s [], .sl false [], .sl false [], .sl false [], .sl false []]) (get_lt hx); rw [← hz] at hzk; refine ⟨_, get_map' hx, ?_⟩) | refine ⟨⟨rfl, Int.natCast_nonneg _, (by rw [List.length_map]; show (xs.length : Int) * ((112 : Nat) : Int) ≤ 281474976710656; omega), (by rw [List.length_map]; have : ((maxLen : Nat) : Int) = 9223372036854775807 := rfl; omega)⟩, ?_⟩ | refine ⟨_, hzk, ?_⟩ | refine ⟨⟨Int.natCast_nonneg _, (by rw [hz, filled_len hk]; have := get_lt hx; omega)⟩, ?_⟩ | ((with_reducible refine isSmall ?_) <;> (refine ⟨?_, ?_⟩; kernel_rfl)) | refine ⟨rfl, ?_⟩ | refine ⟨Int.natCast_nonneg _, ?_⟩)) | with_reducible refine Both.mk ?_ ?_ | rintro _ rfl | exact rfl | (split <;> (rename_i h; first | (simp only [beq_self_eq_true, eq_self, decide_true, Bool.not_true, Bool.false_eq_true] at h; done) | (try rw [h])))))
  all_goals (conv => whnf)
  all_goals first
    | exact ⟨⟨k + 1, _, _, _, step_up (get_lt hx) hm, get_lt hx, (by rw [hz]; exact filled_up hx), rfl⟩, mu_up (get_lt hx) hm⟩
    | (have e : k = xs.length := by have := of_decide_eq_false h; omega
       refine ⟨true, ?_⟩
       rw [hz, e, filled_all]; rfl)
    | (have e : k = xs.length := by have := of_decide_eq_false h; omega
       refine ⟨false, ?_⟩
       rw [hz, e, filled_all]; rfl)
    | (show List.replicate (xs.map tabD).length _ = _
       rw [List.length_map]; exact filled_zero _ _ _)
    | trace_state
theorem toDb (xs : List Tab) (hl : xs.length ≤ 1048576) (hs : ∀ x, x ∈ xs → szTab x) : Ent Tryz.prog 7 [.d (.agg [.sl false (xs.map tabD)])] [] (.agg [.own 0]) [.arr 5 true (xs.map tabO)] := by
  have c1 := toTableS xs hl hs
  refine ent_of (cx := ⟨tab, [], []⟩) tok mixed (f := 7) Tryz.func7 (by kernel_rfl) (keep := true) ?_
  repeat' ((conv => whnf) <;> (first | ((with_reducible refine isCall ?_) <;> (first | (refine ⟨_, c1, ?_⟩; rintro _ _ ⟨rfl, rfl⟩) | fail)) | ((with_reducible refine isCut ?_) <;> (first | refine ⟨⟨none⟩, ?_⟩)) | ((first | with_reducible refine isEx ?_ | with_reducible refine isAnd ?_ | with_reducible refine isOr ?_) <;> (first | ((with_reducible refine isSmall ?_) <;> (refine ⟨?_, ?_⟩; kernel_rfl)) | refine ⟨rfl, ?_⟩ | refine ⟨Int.natCast_nonneg _, ?_⟩)) | with_reducible refine Both.mk ?_ ?_ | rintro _ rfl | exact rfl | (split <;> (rename_i h; first | (simp only [beq_self_eq_true, eq_self, decide_true, Bool.not_true, Bool.false_eq_true] at h; done) | (try rw [h])))))
end Go.Pm.Tryz
