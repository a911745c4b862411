/-
A part of the proof (packed).
-/
import Derived.Test.YtdhogadndcjjlaaGreatKwi
namespace Go.Pm.Tryz
open Go Go.Proofs
set_option linter.unusedVariables false
set_option linter.unusedSimpArgs false
set_option maxRecDepth 100000
def zero64 : List UInt8 := List.replicate 64 0
def notZ (t : List UInt8) : Bool := !decide (t = zero64)
def blank (l : List (List UInt8)) : Bool := !l.any notZ
noncomputable def stoOk (s : Sto) : Bool := diskOk s.disk && (decide ((s.disk.secs.length : Int) = 700) && (decide ((s.disk.cache.length : Int) = 0) && (dec (dbP s.tabs) && (inside s.seq 1 900000000 && (inside s.next 200 700 && blank (s.disk.secs.drop s.next.toNat))))))
structure Sto.fits (s : Sto) : Prop where
  tabs : s.tabs.length ≤ 2000000
  tab : ∀ t, t ∈ s.tabs → t.fits
theorem repeatZero : Ent Tryz.prog 146 [.d (.s [0]), .d (.i .i64 64)] [] (.d (.s zero64)) [] := by
  refine ent_of_below ⟨_, Tryz.func146, by kernel_rfl, by kernel_rfl⟩ fun X J w vs hr => ?_
  simp only [AV.repL, AV.rep, D.rep] at hr
  obtain ⟨v, vs1, h1, ⟨rfl, _⟩, v2, vs2, h2, ⟨rfl, _⟩, h3⟩ := hr
  subst h3 h2
  have e : vs = #[.string ⟨#[0]⟩, .int .i64 64] := Array.toList_inj.1 h1
  subst e
  refine (Tryz.strings_Repeat ⟨#[0]⟩ 64 w (by decide) (by decide)).mono ?_
  rintro e w' ⟨rfl, hb⟩
  refine ⟨hb, _, rfl, fun X J => ?_⟩
  simp only [AV.rep, D.rep, and_true]
  rfl
theorem implEmpty : Ent Tryz.prog 112 [] [] (.d (.s zero64)) [] := by
  refine ent_of tok mixed (f := 112) Tryz.func112 (by kernel_rfl) (keep := false) ?_
  repeat' ((conv => whnf) <;> (first | ((with_reducible refine isCall ?_) <;> (first | (refine ⟨_, repeatZero, ?_⟩; rintro _ _ ⟨rfl, rfl⟩) | fail)) | ((with_reducible refine isCut ?_) <;> (first | refine ⟨⟨none⟩, ?_⟩)) | ((first | with_reducible refine isEx ?_ | with_reducible refine isAnd ?_ | with_reducible refine isOr ?_) <;> (first | ((with_reducible refine isSmall ?_) <;> (refine ⟨?_, ?_⟩; kernel_rfl)) | refine ⟨rfl, ?_⟩ | refine ⟨Int.natCast_nonneg _, ?_⟩)) | with_reducible refine Both.mk ?_ ?_ | rintro _ rfl | exact rfl | (split <;> (rename_i h; first | (simp only [beq_self_eq_true, eq_self, decide_true, Bool.not_true, Bool.false_eq_true] at h; done) | (try rw [h])))))
theorem push_any {α : Type} {p : α → Bool} {xs : List α} {n k : Nat} {x : α} (hx : xs[k]? = some x) (hn : n ≤ k) (hu : ((xs.take k).drop n).any p = false) (h : p x = false) : ((xs.take (k + 1)).drop n).any p = false := by
  rw [take_up hx, List.drop_append_of_le_length (by rw [List.length_take]; have := get_lt hx; omega), List.any_append, hu]
  simp [h]
theorem hit_drop {α : Type} {p : α → Bool} {xs : List α} {n k : Nat} {x : α} (hx : xs[k]? = some x) (hn : n ≤ k) (h : p x = true) : (xs.drop n).any p = true :=
  hit_any (k := k - n) (by rw [List.getElem?_drop, show n + (k - n) = k by omega]; exact hx) h
set_option maxHeartbeats 2000000 in
theorem specBlank (d : Disk) (n : Nat) (hl : d.secs.length ≤ maxLen) : Ent Tryz.prog 60 [.d (diskD d), .d (.i .i64 (n : Int))] [] (.d (.b (blank (d.secs.drop n)))) [] := by
  obtain ⟨o, ho⟩ : ∃ o, o = blank (d.secs.drop n) := ⟨_, rfl⟩
  rw [← ho]
  unfold blank at ho
  refine ent_of tok mixed (f := 60) Tryz.func60 (by kernel_rfl) (keep := false) ?_
  repeat' ((conv => whnf) <;> (first | ((with_reducible refine isCall ?_) <;> (first | (refine ⟨⟨rfl, by decide, (by show (64 : Int) * ((1 : Nat) : Int) ≤ 281474976710656; omega), (by have : ((maxLen : Nat) : Int) = 9223372036854775807 := rfl; omega)⟩, ?_⟩) | (refine ⟨zero64, rfl, ?_⟩) | (refine ⟨Int.natCast_nonneg _, ?_⟩) | fail)) | ((with_reducible refine isLoop ?_) <;> (first | (refine ⟨[2, 5, 6], [10002], fun st => ∃ (k : Nat) (i : Int), i = k ∧ n ≤ k ∧ ((d.secs.take k).drop n).any notZ = false ∧ st = ⟨[(2, .ptr 10002 0), (5, .d (.s zero64)), (6, .d (.i .i64 i))], [(10002, .var (diskC d))]⟩, fun s' => match look 6 s'.env with | some (.d (.i _ n)) => d.secs.length - n.toNat | _ => 0, rfl, ⟨n, _, rfl, Nat.le_refl _, by rw [List.drop_of_length_le (by rw [List.length_take]; omega)]; rfl, rfl⟩, ?_⟩; rintro st ⟨k, i, rfl, hk, hu, rfl⟩) | (refine ⟨⟨rfl, by decide, (by show (64 : Int) * ((1 : Nat) : Int) ≤ 281474976710656; omega), (by have : ((maxLen : Nat) : Int) = 9223372036854775807 := rfl; omega)⟩, ?_⟩) | (refine ⟨zero64, rfl, ?_⟩) | (refine ⟨Int.natCast_nonneg _, ?_⟩) | fail)) | ((with_reducible refine isCut ?_) <;> (first | refine ⟨⟨none⟩, ?_⟩)) | ((first | with_reducible refine isEx ?_ | with_reducible refine isAnd ?_ | with_reducible refine isOr ?_) <;> (first | ((with_reducible refine isGet (xs := d.secs.map strD) (i := ((k : Nat) : Int).toNat) ?_); obtain ⟨x, hx⟩ := get_ex (ss := d.secs) (k := k) (lt_of_dec (by assumption)); refine ⟨_, get_map' hx, ?_⟩) | (refine ⟨⟨rfl, by decide, (by show (64 : Int) * ((1 : Nat) : Int) ≤ 281474976710656; omega), (by have : ((maxLen : Nat) : Int) = 9223372036854775807 := rfl; omega)⟩, ?_⟩) | (refine ⟨zero64, rfl, ?_⟩) | (refine ⟨Int.natCast_nonneg _, ?_⟩) | ((with_reducible refine isSmall ?_) <;> (refine ⟨?_, ?_⟩; kernel_rfl)) | refine ⟨rfl, ?_⟩ | refine ⟨Int.natCast_nonneg _, ?_⟩)) | with_reducible refine Both.mk ?_ ?_ | rintro _ rfl | exact rfl | (split <;> (rename_i h; first | (simp only [beq_self_eq_true, eq_self, decide_true, Bool.not_true, Bool.false_eq_true] at h; done) | (try rw [h])))))
  all_goals try (conv => whnf)
  all_goals first
    | exact ⟨⟨k + 1, _, step_up (get_lt hx) hl, by omega, push_any hx hk hu (by assumption), rfl⟩, mu_up (get_lt hx) hl⟩
    | (refine ⟨congrArg (fun b => AV.d (D.b b)) ?_, rfl⟩
       rw [ho]; symm
       first
         | (rw [hit_drop hx hk (p := notZ) (by assumption)]; rfl)
         | (have hh := of_decide_eq_false h
            rw [List.length_map] at hh
            rw [List.take_of_length_le (by omega)] at hu
            rw [hu]; rfl))
    | trace_state
theorem sto_range {b1 b2 : Bool} {n lo hi : Int} (h1 : decide (n ≥ lo) = b1) (h2 : decide (n ≤ hi) = b2) : inside n lo hi = (b1 && b2) := by subst h1 h2; rfl
set_option maxHeartbeats 2000000 in
theorem specStoreRight (s : Sto) (hs : s.fits) : Ent Tryz.prog 30 [.d (stoD s)] [] (.d (.b (stoOk s))) [] := by
  obtain ⟨o, ho⟩ : ∃ o, o = stoOk s := ⟨_, rfl⟩
  rw [← ho]
  have c1 := specDiskRight s.disk
  have c2 := specDbRight s.tabs hs.tabs hs.tab
  unfold stoOk at ho
  have c3 : diskOk s.disk = true → Ent Tryz.prog 60 [.d (diskD s.disk), .d (.i .i64 (s.next.toNat : Int))] [] (.d (.b (blank (s.disk.secs.drop s.next.toNat)))) [] := fun h => by
    unfold diskOk at h
    simp only [Bool.and_eq_true, decide_eq_true_eq] at h
    exact specBlank s.disk _ (ml2 h.1.1)
  generalize diskOk s.disk = b1 at *
  generalize dec (dbP s.tabs) = b2 at *
  have l1 : (s.disk.secs.map strD).length = s.disk.secs.length := List.length_map ..
  have l2 : (s.disk.cache.map wrD).length = s.disk.cache.length := List.length_map ..
  cases b1 with
  | false =>
    have e : o = false := ho
    subst e
    refine ent_of tok mixed (f := 30) Tryz.func30 (by kernel_rfl) (keep := false) ?_
    repeat' ((conv => whnf) <;> (first | ((with_reducible refine isCall ?_) <;> (first | (refine ⟨_, c1, ?_⟩; rintro _ _ ⟨rfl, rfl⟩) | fail)) | ((with_reducible refine isCut ?_) <;> (first | refine ⟨⟨none⟩, ?_⟩)) | ((first | with_reducible refine isEx ?_ | with_reducible refine isAnd ?_ | with_reducible refine isOr ?_) <;> (first | ((with_reducible refine isSmall ?_) <;> (refine ⟨?_, ?_⟩; kernel_rfl)) | refine ⟨rfl, ?_⟩ | refine ⟨Int.natCast_nonneg _, ?_⟩)) | with_reducible refine Both.mk ?_ ?_ | rintro _ rfl | exact rfl | (split <;> (rename_i h; first | (simp only [beq_self_eq_true, eq_self, decide_true, Bool.not_true, Bool.false_eq_true] at h; done) | (try rw [h])))))
    all_goals try (conv => whnf)
    all_goals first | exact ⟨rfl, rfl⟩ | trace_state
  | true =>
    have c3 := c3 rfl
    have hnx : decide (s.next ≥ 200) = true → (s.next.toNat : Int) = s.next := fun h => by have := of_decide_eq_true h; omega
    obtain ⟨u, hu⟩ : ∃ u, u = blank (s.disk.secs.drop s.next.toNat) := ⟨_, rfl⟩
    rw [← hu] at ho c3
    refine ent_of tok mixed (f := 30) Tryz.func30 (by kernel_rfl) (keep := false) ?_
    repeat' ((conv => whnf) <;> (first | ((with_reducible refine isCall ?_) <;> (first | (refine ⟨_, c1, ?_⟩; rintro _ _ ⟨rfl, rfl⟩) | (refine ⟨_, c2, ?_⟩; rintro _ _ ⟨rfl, rfl⟩) | (refine ⟨_, (by rw [hnx (by assumption)] at c3; exact c3), ?_⟩; rintro _ _ ⟨rfl, rfl⟩) | fail)) | ((with_reducible refine isCut ?_) <;> (first | refine ⟨⟨none⟩, ?_⟩)) | ((first | with_reducible refine isEx ?_ | with_reducible refine isAnd ?_ | with_reducible refine isOr ?_) <;> (first | ((with_reducible refine isSmall ?_) <;> (refine ⟨?_, ?_⟩; kernel_rfl)) | refine ⟨rfl, ?_⟩ | refine ⟨Int.natCast_nonneg _, ?_⟩)) | with_reducible refine Both.mk ?_ ?_ | rintro _ rfl | exact rfl | (split <;> (rename_i h; first | (simp only [beq_self_eq_true, eq_self, decide_true, Bool.not_true, Bool.false_eq_true] at h; done) | (try rw [h])))))
    all_goals try (conv => whnf)
    all_goals (refine ⟨congrArg (fun b => AV.d (D.b b)) ?_, rfl⟩; rw [ho]; clear ho c1 c2 c3 hnx hu; simp only [l1, l2] at *; simp only [inside]; generalize s.disk.secs.length = n1 at *; generalize s.disk.cache.length = n2 at *; simp [*]; try (simp_all; done); done)
def noneFn (k : Nat) : AV := .fn 114 [.ptr k 0]
theorem implNotZ (t : List UInt8) : Ent Tryz.prog 114 [.d (.s t), .ptr 0 0] [.var [.d (.s zero64)]] (.d (.b (notZ t))) [.var [.d (.s zero64)]] := by
  refine ent_of tok mixed (f := 114) Tryz.func114 (by kernel_rfl) (keep := false) ?_
  repeat' ((conv => whnf) <;> (first | ((with_reducible refine isCall ?_) <;> (first | fail)) | ((with_reducible refine isCut ?_) <;> (first | refine ⟨⟨none⟩, ?_⟩)) | ((first | with_reducible refine isEx ?_ | with_reducible refine isAnd ?_ | with_reducible refine isOr ?_) <;> (first | ((with_reducible refine isSmall ?_) <;> (refine ⟨?_, ?_⟩; kernel_rfl)) | refine ⟨rfl, ?_⟩ | refine ⟨Int.natCast_nonneg _, ?_⟩)) | with_reducible refine Both.mk ?_ ?_ | rintro _ rfl | exact rfl | (split <;> (rename_i h; first | (simp only [beq_self_eq_true, eq_self, decide_true, Bool.not_true, Bool.false_eq_true] at h; done) | (try rw [h])))))
theorem indexZ (l : List (List UInt8)) (hl : l.length ≤ maxLen) : EntQ Tryz.prog 147 [.d (.sl false (l.map strD)), noneFn 0] [.var [.d (.s zero64)]]
    (fun R O => ∃ n : Int, R = .d (.i .i64 n) ∧ O = [.var [.d (.s zero64)]] ∧ decide (n ≥ 0) = l.any notZ) := by
  refine ent_of tok mixed (f := 147) Tryz.func147 (by kernel_rfl) (keep := false) ?_
  repeat' ((conv => whnf) <;> (first | ((with_reducible refine isCall ?_) <;> (first | (refine ⟨_, c1, ?_⟩; rintro _ _ ⟨rfl, rfl⟩) | (obtain ⟨x, hx⟩ := get_ex (ss := l) (k := k) (lt_of_dec (by assumption)); have c1 := implNotZ x; refine ⟨_, get_map' hx, ?_⟩) | fail)) | ((with_reducible refine isLoop ?_) <;> (first | (refine ⟨[0, 1, 7, 8], [0], fun st => ∃ (k : Nat) (i : Int), i = k ∧ (l.take k).any notZ = false ∧ st = ⟨[(0, .d (.sl false (l.map strD))), (1, noneFn 0), (7, .d (.i .i64 ((l.map strD).length : Int))), (8, .d (.i .i64 i))], [(0, .var [.d (.s zero64)])]⟩, fun s' => match look 8 s'.env with | some (.d (.i _ n)) => l.length - n.toNat | _ => 0, rfl, ⟨0, _, rfl, rfl, rfl⟩, ?_⟩; rintro st ⟨k, i, rfl, hu, rfl⟩) | (obtain ⟨x, hx⟩ := get_ex (ss := l) (k := k) (lt_of_dec (by assumption)); have c1 := implNotZ x; refine ⟨_, get_map' hx, ?_⟩) | fail)) | ((with_reducible refine isCut ?_) <;> (first | refine ⟨⟨none⟩, ?_⟩)) | ((first | with_reducible refine isEx ?_ | with_reducible refine isAnd ?_ | with_reducible refine isOr ?_) <;> (first | (obtain ⟨x, hx⟩ := get_ex (ss := l) (k := k) (lt_of_dec (by assumption)); have c1 := implNotZ x; refine ⟨_, get_map' hx, ?_⟩) | ((with_reducible refine isSmall ?_) <;> (refine ⟨?_, ?_⟩; kernel_rfl)) | refine ⟨rfl, ?_⟩ | refine ⟨Int.natCast_nonneg _, ?_⟩)) | with_reducible refine Both.mk ?_ ?_ | rintro _ rfl | exact rfl | (split <;> (rename_i h; first | (simp only [beq_self_eq_true, eq_self, decide_true, Bool.not_true, Bool.false_eq_true] at h; done) | (try rw [h])))))
  all_goals try (conv => whnf)
  all_goals first
    | (refine ⟨_, rfl, rfl, ?_⟩
       rw [hit_any hx h]
       exact decide_eq_true (Int.natCast_nonneg _))
    | exact ⟨⟨k + 1, _, step_up (get_lt hx) hl, any_up' hx hu h, rfl⟩, mu_up (get_lt hx) hl⟩
    | (refine ⟨_, rfl, rfl, ?_⟩
       rw [end_any hu (of_decide_eq_false h)]; rfl)
    | trace_state
theorem containsZ (l : List (List UInt8)) (hl : l.length ≤ maxLen) : Ent Tryz.prog 113 [.d (.sl false (l.map strD)), noneFn 0] [.var [.d (.s zero64)]] (.d (.b (l.any notZ))) [.var [.d (.s zero64)]] := by
  have c1 := indexZ l hl
  refine ent_of tok mixed (f := 113) Tryz.func113 (by kernel_rfl) (keep := false) ?_
  repeat' ((conv => whnf) <;> (first | ((with_reducible refine isCall ?_) <;> (first | (refine ⟨_, c1, ?_⟩; rintro _ _ ⟨n, rfl, rfl, hn⟩) | fail)) | ((with_reducible refine isCut ?_) <;> (first | refine ⟨⟨none⟩, ?_⟩)) | ((first | with_reducible refine isEx ?_ | with_reducible refine isAnd ?_ | with_reducible refine isOr ?_) <;> (first | ((with_reducible refine isSmall ?_) <;> (refine ⟨?_, ?_⟩; kernel_rfl)) | refine ⟨rfl, ?_⟩ | refine ⟨Int.natCast_nonneg _, ?_⟩)) | with_reducible refine Both.mk ?_ ?_ | rintro _ rfl | exact rfl | (split <;> (rename_i h; first | (simp only [beq_self_eq_true, eq_self, decide_true, Bool.not_true, Bool.false_eq_true] at h; done) | (try rw [h])))))
  all_goals try (conv => whnf)
  all_goals first
    | (rw [← hn]; exact ⟨rfl, rfl⟩)
    | trace_state
theorem str_cells (l : List (List UInt8)) : ∀ x ∈ l.map strD, x.cells.length = 1 := fun x hx => by obtain ⟨t, _, rfl⟩ := List.mem_map.1 hx; rfl
theorem drop_map {α : Type} {f : α → D} {xs : List α} {n : Nat} : ((xs.map f).take (xs.map f).length).drop n = (xs.drop n).map f := by rw [List.take_length, List.map_drop]
set_option maxHeartbeats 2000000 in
theorem implStoreRight (s : Sto) (hs : s.fits) : Ent Tryz.prog 71 [.d (stoD s)] [] (.d (.b (stoOk s))) [] := by
  obtain ⟨o, ho⟩ : ∃ o, o = stoOk s := ⟨_, rfl⟩
  rw [← ho]
  have c1 := implDiskRight s.disk
  have c2 := implDbRight s.tabs hs.tabs hs.tab
  have c0 := implEmpty
  unfold stoOk at ho
  have c3 : diskOk s.disk = true → Ent Tryz.prog 113 [.d (.sl false (((s.disk.secs.map strD).take (s.disk.secs.map strD).length).drop s.next.toNat)), noneFn 0] [.var [.d (.s zero64)]] (.d (.b ((s.disk.secs.drop s.next.toNat).any notZ))) [.var [.d (.s zero64)]] := fun h => by
    unfold diskOk at h
    simp only [Bool.and_eq_true, decide_eq_true_eq] at h
    rw [drop_map]
    exact containsZ _ (ml2 (by rw [List.length_drop]; omega))
  generalize diskOk s.disk = b1 at *
  generalize dec (dbP s.tabs) = b2 at *
  have l1 : (s.disk.secs.map strD).length = s.disk.secs.length := List.length_map ..
  have l2 : (s.disk.cache.map wrD).length = s.disk.cache.length := List.length_map ..
  have w1 := within s.seq 1 900000000
  have w2 := within s.next 200 700
  unfold blank at ho
  generalize hseq : inside s.seq 1 900000000 = i1 at *
  generalize hnx : inside s.next 200 700 = i2 at *
  cases b1 with
  | false =>
    have e : o = false := ho
    subst e
    refine ent_of tok mixed (f := 71) Tryz.func71 (by kernel_rfl) (keep := false) ?_
    repeat' ((conv => whnf) <;> (first | ((with_reducible refine isCall ?_) <;> (first | (refine ⟨_, c1, ?_⟩; rintro _ _ ⟨rfl, rfl⟩) | fail)) | ((with_reducible refine isCut ?_) <;> (first | refine ⟨⟨none⟩, ?_⟩)) | ((first | with_reducible refine isEx ?_ | with_reducible refine isAnd ?_ | with_reducible refine isOr ?_) <;> (first | ((with_reducible refine isSmall ?_) <;> (refine ⟨?_, ?_⟩; kernel_rfl)) | refine ⟨rfl, ?_⟩ | refine ⟨Int.natCast_nonneg _, ?_⟩)) | with_reducible refine Both.mk ?_ ?_ | rintro _ rfl | exact rfl | (split <;> (rename_i h; first | (simp only [beq_self_eq_true, eq_self, decide_true, Bool.not_true, Bool.false_eq_true] at h; done) | (try rw [h])))))
    all_goals try (conv => whnf)
    all_goals first | exact ⟨rfl, rfl⟩ | trace_state
  | true =>
    have c3 := c3 rfl
    obtain ⟨u, hu⟩ : ∃ u, u = (s.disk.secs.drop s.next.toNat).any notZ := ⟨_, rfl⟩
    rw [← hu] at ho c3
    refine ent_of tok mixed (f := 71) Tryz.func71 (by kernel_rfl) (keep := false) ?_
    repeat' ((conv => whnf) <;> (first | ((with_reducible refine isCall ?_) <;> (first | (refine ⟨_, c1, ?_⟩; rintro _ _ ⟨rfl, rfl⟩) | (refine ⟨_, c2, ?_⟩; rintro _ _ ⟨rfl, rfl⟩) | (refine ⟨_, c0, ?_⟩; rintro _ _ ⟨rfl, rfl⟩) | (refine ⟨_, w1, ?_⟩; rintro _ _ ⟨rfl, rfl⟩) | (refine ⟨_, w2, ?_⟩; rintro _ _ ⟨rfl, rfl⟩) | (refine ⟨_, c3, ?_⟩; rintro _ _ ⟨rfl, rfl⟩) | (refine ⟨⟨str_cells _, Nat.zero_lt_one⟩, ?_⟩) | (refine ⟨⟨(by have q1 := (inside_iff _ _ _).1 (hnx.trans (not_ok (by assumption : (!i2) = false))); omega), (by have q1 := (inside_iff _ _ _).1 (hnx.trans (not_ok (by assumption : (!i2) = false))); have q2 := of_decide_eq_true (not_ok (by assumption : (!decide (((s.disk.secs.map strD).length : Int) = 700)) = false)); omega)⟩, ?_⟩) | fail)) | ((with_reducible refine isCut ?_) <;> (first | refine ⟨⟨none⟩, ?_⟩)) | ((first | with_reducible refine isEx ?_ | with_reducible refine isAnd ?_ | with_reducible refine isOr ?_) <;> (first | (refine ⟨⟨str_cells _, Nat.zero_lt_one⟩, ?_⟩) | (refine ⟨⟨(by have q1 := (inside_iff _ _ _).1 (hnx.trans (not_ok (by assumption : (!i2) = false))); omega), (by have q1 := (inside_iff _ _ _).1 (hnx.trans (not_ok (by assumption : (!i2) = false))); have q2 := of_decide_eq_true (not_ok (by assumption : (!decide (((s.disk.secs.map strD).length : Int) = 700)) = false)); omega)⟩, ?_⟩) | ((with_reducible refine isSmall ?_) <;> (refine ⟨?_, ?_⟩; kernel_rfl)) | refine ⟨rfl, ?_⟩ | refine ⟨Int.natCast_nonneg _, ?_⟩)) | with_reducible refine Both.mk ?_ ?_ | rintro _ rfl | exact rfl | (split <;> (rename_i h; first | (simp only [beq_self_eq_true, eq_self, decide_true, Bool.not_true, Bool.false_eq_true] at h; done) | (try rw [h])))))
    all_goals try (conv => whnf)
    all_goals first
      | (refine ⟨congrArg (fun b => AV.d (D.b b)) ?_, rfl⟩; rw [ho]; clear ho c1 c2 c3 hnx hu w1 w2; simp only [l1, l2] at *; generalize s.disk.secs.length = n1 at *; generalize s.disk.cache.length = n2 at *; simp_all; try omega)
      | trace_state
end Go.Pm.Tryz
namespace Go.Pm.Tryz
open Go Go.Proofs
set_option linter.unusedVariables false
set_option linter.unusedSimpArgs false
set_option maxRecDepth 100000
def wStr (t : List UInt8) : Nat := t.length
def wWr (w : Wr) : Nat := w.text.length
def wDisk (d : Disk) : Nat := wl wStr d.secs + wl wWr d.cache
def wSto (s : Sto) : Nat := wDisk s.disk + wl wTab s.tabs
def fitWr (w : Wr) : Prop := w.text.length ≤ maxLen
structure fitDisk (d : Disk) : Prop where
  secs : d.secs.length ≤ maxLen
  sec : ∀ t, t ∈ d.secs → t.length ≤ maxLen
  cache : d.cache.length ≤ maxLen
  wr : ∀ w, w ∈ d.cache → fitWr w
structure Sto.fit2 (s : Sto) : Prop where
  disk : fitDisk s.disk
  tabs : s.tabs.length ≤ maxLen
  tab : ∀ t, t ∈ s.tabs → t.fit2
structure szSto (s : Sto) : Prop where
  secs : s.disk.secs.length ≤ 1048576
  cache : s.disk.cache.length ≤ 1048576
  tabs : s.tabs.length ≤ 1048576
  tab : ∀ t, t ∈ s.tabs → szTab t
theorem sz_sto {s : Sto} (h : wSto s ≤ 1048576) : szSto s := by
  unfold wSto wDisk at h
  obtain ⟨h1, h2⟩ := sz_tabs (ts := s.tabs) (by omega)
  unfold wl at h
  exact ⟨by omega, by omega, h1, h2⟩
theorem sto_fits {s : Sto} (h : wSto s ≤ 1048576) (hf : s.fit2) : s.fits := ⟨Nat.le_trans (sz_sto h).tabs (by decide), fun t ht => ⟨(hf.tab t ht).sch, (hf.tab t ht).rows, fun r hr => ((hf.tab t ht).row r hr).1⟩⟩
set_option maxHeartbeats 1000000 in
theorem szStringS (xs : List (List UInt8)) (hl : xs.length ≤ maxLen) (hf : ∀ x, x ∈ xs → x.length ≤ maxLen) (left : Int) (h0 : 0 ≤ left) (h1 : left ≤ 1048576) : EntQ Tryz.prog 55 [.d (.sl false (xs.map strD)), .d (.i .i64 left)] [] (fun R O => ∃ r, R = .d (.i .i64 r) ∧ O = [] ∧ r ≤ left ∧ (0 ≤ r → r + ((wl wStr xs : Nat) : Int) ≤ left)) := by
  have e1 := sub_small (n := (xs.map strD).length) h0 h1 (by rw [List.length_map]; exact hl)
  have hxl : (xs.map strD).length = xs.length := List.length_map ..
  refine ent_of tok mixed (f := 55) Tryz.func55 (by kernel_rfl) (keep := false) ?_
  repeat' ((conv => whnf) <;> (first | ((with_reducible refine isCall ?_) <;> (first | fail)) | ((with_reducible refine isLoop ?_) <;> (first | (refine ⟨[5, 1, 0], [], fun s => ∃ (k : Nat) (n l : Int), n = k ∧ k ≤ xs.length ∧ (0 ≤ l ∧ l + ((xs.length + wsum wStr (xs.take k) : Nat) : Int) ≤ left) ∧ s = ⟨[(5, .d (.i .i64 n)), (1, .d (.i .i64 l)), (0, .d (.sl false (xs.map strD)))], []⟩, fun s => match look 5 s.env with | some (.d (.i _ n)) => xs.length - n.toNat | _ => 0, rfl, ⟨0, _, _, rfl, Nat.zero_le _, (by have := of_decide_eq_false (by assumption : decide (IntKind.i64.wrap (left - ((xs.map strD).length : Int)) < 0) = false); rw [wsum_zero]; omega), rfl⟩, ?_⟩; rintro s ⟨k, n, l, rfl, hk, hl2, rfl⟩) | fail)) | ((with_reducible refine isCut ?_) <;> (first | refine ⟨⟨none⟩, ?_⟩)) | ((first | with_reducible refine isEx ?_ | with_reducible refine isAnd ?_ | with_reducible refine isOr ?_) <;> (first | ((with_reducible refine isGet (xs := xs.map strD) (i := ((k : Nat) : Int).toNat) ?_); obtain ⟨x, hx⟩ := get_ex (ss := xs) (k := k) (lt_of_dec (by assumption)); have e2 := sub_small (n := x.length) hl2.1 (by omega) (hf x (get_mem hx)); refine ⟨_, get_map' hx, ?_⟩) | ((with_reducible refine isSmall ?_) <;> (refine ⟨?_, ?_⟩; kernel_rfl)) | refine ⟨rfl, ?_⟩ | refine ⟨Int.natCast_nonneg _, ?_⟩)) | with_reducible refine Both.mk ?_ ?_ | rintro _ rfl | exact rfl | (split <;> (rename_i h; first | (simp only [beq_self_eq_true, eq_self, decide_true, Bool.not_true, Bool.false_eq_true] at h; done) | (try rw [h])))))
  all_goals (conv => whnf)
  all_goals first
    | exact ⟨_, rfl, rfl, by omega, fun h => absurd h (by decide)⟩
    | (have hp := of_decide_eq_false (by assumption : decide (IntKind.i64.wrap (l - (x.length : Int)) < 0) = false)
       exact ⟨⟨k + 1, _, _, step_up (get_lt hx) hl, get_lt hx, (by rw [wsum_up hx]; unfold wStr at *; omega), rfl⟩, mu_up (get_lt hx) hl⟩)
    | (have e : k = xs.length := by have := of_decide_eq_false h; omega
       rw [e, List.take_length] at hl2
       exact ⟨_, rfl, rfl, by omega, fun h => hl2.2⟩)
    | trace_state
theorem szWrite (x : Wr) (hf : x.text.length ≤ maxLen) (left : Int) (h0 : 0 ≤ left) (h1 : left ≤ 1048576) : EntQ Tryz.prog 95 [.d (wrD x), .d (.i .i64 left)] [] (fun R O => ∃ r, R = .d (.i .i64 r) ∧ O = [] ∧ r ≤ left ∧ (0 ≤ r → r + ((wWr x : Nat) : Int) ≤ left)) := by
  have e1 := sub_small (n := x.text.length) h0 h1 hf
  refine ent_of tok mixed (f := 95) Tryz.func95 (by kernel_rfl) (keep := false) ?_
  repeat' ((conv => whnf) <;> (first | ((with_reducible refine isCall ?_) <;> (first | fail)) | ((with_reducible refine isCut ?_) <;> (first | refine ⟨⟨none⟩, ?_⟩)) | ((first | with_reducible refine isEx ?_ | with_reducible refine isAnd ?_ | with_reducible refine isOr ?_) <;> (first | ((with_reducible refine isSmall ?_) <;> (refine ⟨?_, ?_⟩; kernel_rfl)) | refine ⟨rfl, ?_⟩ | refine ⟨Int.natCast_nonneg _, ?_⟩)) | with_reducible refine Both.mk ?_ ?_ | rintro _ rfl | exact rfl | (split <;> (rename_i h; first | (simp only [beq_self_eq_true, eq_self, decide_true, Bool.not_true, Bool.false_eq_true] at h; done) | (try rw [h])))))
  all_goals (conv => whnf)
  all_goals first
    | exact ⟨_, rfl, rfl, by omega, fun h => absurd h (by decide)⟩
    | exact ⟨_, rfl, rfl, by omega, fun _ => by unfold wWr; omega⟩
    | trace_state
set_option maxHeartbeats 1000000 in
theorem szWriteS (xs : List (Wr)) (hl : xs.length ≤ maxLen) (hf : ∀ x, x ∈ xs → fitWr x) (left : Int) (h0 : 0 ≤ left) (h1 : left ≤ 1048576) : EntQ Tryz.prog 56 [.d (.sl false (xs.map wrD)), .d (.i .i64 left)] [] (fun R O => ∃ r, R = .d (.i .i64 r) ∧ O = [] ∧ r ≤ left ∧ (0 ≤ r → r + ((wl wWr xs : Nat) : Int) ≤ left)) := by
  have e1 := sub_small (n := (xs.map wrD).length) h0 h1 (by rw [List.length_map]; exact hl)
  have hxl : (xs.map wrD).length = xs.length := List.length_map ..
  refine ent_of tok mixed (f := 56) Tryz.func56 (by kernel_rfl) (keep := false) ?_
  repeat' ((conv => whnf) <;> (first | ((with_reducible refine isCall ?_) <;> (first | (refine ⟨_, c1, ?_⟩; rintro _ _ ⟨r, rfl, rfl, hr, hro⟩) | fail)) | ((with_reducible refine isLoop ?_) <;> (first | (refine ⟨[5, 1, 0], [], fun s => ∃ (k : Nat) (n l : Int), n = k ∧ k ≤ xs.length ∧ (0 ≤ l ∧ l + ((xs.length + wsum wWr (xs.take k) : Nat) : Int) ≤ left) ∧ s = ⟨[(5, .d (.i .i64 n)), (1, .d (.i .i64 l)), (0, .d (.sl false (xs.map wrD)))], []⟩, fun s => match look 5 s.env with | some (.d (.i _ n)) => xs.length - n.toNat | _ => 0, rfl, ⟨0, _, _, rfl, Nat.zero_le _, (by have := of_decide_eq_false (by assumption : decide (IntKind.i64.wrap (left - ((xs.map wrD).length : Int)) < 0) = false); rw [wsum_zero]; omega), rfl⟩, ?_⟩; rintro s ⟨k, n, l, rfl, hk, hl2, rfl⟩) | fail)) | ((with_reducible refine isCut ?_) <;> (first | refine ⟨⟨none⟩, ?_⟩)) | ((first | with_reducible refine isEx ?_ | with_reducible refine isAnd ?_ | with_reducible refine isOr ?_) <;> (first | ((with_reducible refine isGet (xs := xs.map wrD) (i := ((k : Nat) : Int).toNat) ?_); obtain ⟨x, hx⟩ := get_ex (ss := xs) (k := k) (lt_of_dec (by assumption)); have c1 := szWrite x (hf x (get_mem hx)) l hl2.1 (by omega); refine ⟨_, get_map' hx, ?_⟩) | ((with_reducible refine isSmall ?_) <;> (refine ⟨?_, ?_⟩; kernel_rfl)) | refine ⟨rfl, ?_⟩ | refine ⟨Int.natCast_nonneg _, ?_⟩)) | with_reducible refine Both.mk ?_ ?_ | rintro _ rfl | exact rfl | (split <;> (rename_i h; first | (simp only [beq_self_eq_true, eq_self, decide_true, Bool.not_true, Bool.false_eq_true] at h; done) | (try rw [h])))))
  all_goals (conv => whnf)
  all_goals first
    | exact ⟨_, rfl, rfl, by omega, fun h => absurd h (by decide)⟩
    | (have hp := of_decide_eq_false (by assumption : decide (r < 0) = false)
       have hq := hro (by omega)
       exact ⟨⟨k + 1, _, _, step_up (get_lt hx) hl, get_lt hx, (by rw [wsum_up hx]; omega), rfl⟩, mu_up (get_lt hx) hl⟩)
    | (have e : k = xs.length := by have := of_decide_eq_false h; omega
       rw [e, List.take_length] at hl2
       exact ⟨_, rfl, rfl, by omega, fun h => hl2.2⟩)
    | trace_state
set_option maxHeartbeats 1000000 in
theorem szDisk (x : Disk) (hf : fitDisk x) (left : Int) (h0 : 0 ≤ left) (h1 : left ≤ 1048576) : EntQ Tryz.prog 28 [.d (diskD x), .d (.i .i64 left)] [] (fun R O => ∃ r, R = .d (.i .i64 r) ∧ O = [] ∧ r ≤ left ∧ (0 ≤ r → r + ((wDisk x : Nat) : Int) ≤ left)) := by
  refine ent_of tok mixed (f := 28) Tryz.func28 (by kernel_rfl) (keep := false) ?_
  repeat' ((conv => whnf) <;> (first | ((with_reducible refine isCall ?_) <;> (first | (refine ⟨_, szStringS x.secs hf.secs hf.sec left h0 h1, ?_⟩; rintro _ _ ⟨r1, rfl, rfl, hr1, ho1⟩) | (refine ⟨_, szWriteS x.cache hf.cache hf.wr _ (Int.not_lt.1 (of_decide_eq_false (by assumption))) (by omega), ?_⟩; rintro _ _ ⟨r2, rfl, rfl, hr2, ho2⟩) | fail)) | ((with_reducible refine isCut ?_) <;> (first | refine ⟨⟨none⟩, ?_⟩)) | ((first | with_reducible refine isEx ?_ | with_reducible refine isAnd ?_ | with_reducible refine isOr ?_) <;> (first | ((with_reducible refine isSmall ?_) <;> (refine ⟨?_, ?_⟩; kernel_rfl)) | refine ⟨rfl, ?_⟩ | refine ⟨Int.natCast_nonneg _, ?_⟩)) | with_reducible refine Both.mk ?_ ?_ | rintro _ rfl | exact rfl | (split <;> (rename_i h; first | (simp only [beq_self_eq_true, eq_self, decide_true, Bool.not_true, Bool.false_eq_true] at h; done) | (try rw [h])))))
  all_goals (conv => whnf)
  all_goals first
    | exact ⟨_, rfl, rfl, by omega, fun h => absurd h (by decide)⟩
    | exact ⟨_, rfl, rfl, by omega, fun h => by have q1 := ho1 (by omega); have q2 := ho2 (by omega); unfold wDisk; omega⟩
    | trace_state
theorem szDbL (xs : List Tab) (hl : xs.length ≤ maxLen) (hf : ∀ x, x ∈ xs → x.fit2) (left : Int) (h0 : 0 ≤ left) (h1 : left ≤ 1048576) : EntQ Tryz.prog 29 [.d (.agg [.sl false (xs.map tabD)]), .d (.i .i64 left)] [] (fun R O => ∃ r, R = .d (.i .i64 r) ∧ O = [] ∧ r ≤ left ∧ (0 ≤ r → r + ((wl wTab xs : Nat) : Int) ≤ left)) := by
  have c1 := szTableS xs hl hf left h0 h1
  refine ent_of tok mixed (f := 29) Tryz.func29 (by kernel_rfl) (keep := false) ?_
  repeat' ((conv => whnf) <;> (first | ((with_reducible refine isCall ?_) <;> (first | (refine ⟨_, c1, ?_⟩; rintro _ _ ⟨r, rfl, rfl, hr, hro⟩) | fail)) | ((with_reducible refine isCut ?_) <;> (first | refine ⟨⟨none⟩, ?_⟩)) | ((first | with_reducible refine isEx ?_ | with_reducible refine isAnd ?_ | with_reducible refine isOr ?_) <;> (first | ((with_reducible refine isSmall ?_) <;> (refine ⟨?_, ?_⟩; kernel_rfl)) | refine ⟨rfl, ?_⟩ | refine ⟨Int.natCast_nonneg _, ?_⟩)) | with_reducible refine Both.mk ?_ ?_ | rintro _ rfl | exact rfl | (split <;> (rename_i h; first | (simp only [beq_self_eq_true, eq_self, decide_true, Bool.not_true, Bool.false_eq_true] at h; done) | (try rw [h])))))
  all_goals (conv => whnf)
  all_goals first
    | exact ⟨_, rfl, rfl, by omega, fun h => absurd h (by decide)⟩
    | exact ⟨_, rfl, rfl, hr, hro⟩
    | trace_state
set_option maxHeartbeats 1000000 in
theorem szStore (x : Sto) (hf : x.fit2) (left : Int) (h0 : 0 ≤ left) (h1 : left ≤ 1048576) : EntQ Tryz.prog 7 [.d (stoD x), .d (.i .i64 left)] [] (fun R O => ∃ r, R = .d (.i .i64 r) ∧ O = [] ∧ r ≤ left ∧ (0 ≤ r → r + ((wSto x : Nat) : Int) ≤ left)) := by
  refine ent_of tok mixed (f := 7) Tryz.func7 (by kernel_rfl) (keep := false) ?_
  repeat' ((conv => whnf) <;> (first | ((with_reducible refine isCall ?_) <;> (first | (refine ⟨_, szDisk x.disk hf.disk left h0 h1, ?_⟩; rintro _ _ ⟨r1, rfl, rfl, hr1, ho1⟩) | (refine ⟨_, szDbL x.tabs hf.tabs hf.tab _ (Int.not_lt.1 (of_decide_eq_false (by assumption))) (by omega), ?_⟩; rintro _ _ ⟨r2, rfl, rfl, hr2, ho2⟩) | fail)) | ((with_reducible refine isCut ?_) <;> (first | refine ⟨⟨none⟩, ?_⟩)) | ((first | with_reducible refine isEx ?_ | with_reducible refine isAnd ?_ | with_reducible refine isOr ?_) <;> (first | ((with_reducible refine isSmall ?_) <;> (refine ⟨?_, ?_⟩; kernel_rfl)) | refine ⟨rfl, ?_⟩ | refine ⟨Int.natCast_nonneg _, ?_⟩)) | with_reducible refine Both.mk ?_ ?_ | rintro _ rfl | exact rfl | (split <;> (rename_i h; first | (simp only [beq_self_eq_true, eq_self, decide_true, Bool.not_true, Bool.false_eq_true] at h; done) | (try rw [h])))))
  all_goals (conv => whnf)
  all_goals first
    | exact ⟨_, rfl, rfl, by omega, fun h => absurd h (by decide)⟩
    | exact ⟨_, rfl, rfl, by omega, fun h => by have q1 := ho1 (by omega); have q2 := ho2 (by omega); unfold wSto; omega⟩
    | trace_state
set_option maxHeartbeats 4000000 in
theorem toStringS (xs : List (List UInt8)) (hl : xs.length ≤ 1048576) : Ent Tryz.prog 68 [.d (.sl false (xs.map strD))] [] (.own 0) [.arr 1 false (xs.map strD)] := by
  have hm : xs.length ≤ maxLen := Nat.le_trans hl (by decide)
  have hxl : (xs.map strD).length = xs.length := List.length_map ..
  refine ent_of (cx := ⟨tab, [], []⟩) tok mixed (f := 68) Tryz.func68 (by kernel_rfl) (keep := true) ?_
  repeat' ((conv => whnf) <;> (first | ((with_reducible refine isCall ?_) <;> (first | refine ⟨⟨rfl, Int.natCast_nonneg _, (by rw [List.length_map]; show (xs.length : Int) * ((16 : Nat) : Int) ≤ 281474976710656; omega), (by rw [List.length_map]; have : ((maxLen : Nat) : Int) = 9223372036854775807 := rfl; omega)⟩, ?_⟩ | refine ⟨⟨(by rw [hz]; show k < _; rw [filled_len hk]; exact get_lt hx), rfl⟩, ?_⟩ | refine ⟨⟨Int.natCast_nonneg _, (by rw [hz, filled_len hk]; have := get_lt hx; omega)⟩, ?_⟩ | fail)) | ((with_reducible refine isLoop ?_) <;> (first | (refine ⟨[4, 3, 0], [10007], fun s => ∃ (k : Nat) (n : Int) (zs : List D), n = k ∧ k ≤ xs.length ∧ zs = filled strD (.s []) xs k ∧ s = ⟨[(4, .d (.i .i64 n)), (3, .own 10007), (0, .d (.sl false (xs.map strD)))], [(10007, .arr 1 false zs)]⟩, fun s => match look 4 s.env with | some (.d (.i _ n)) => xs.length - n.toNat | _ => 0, rfl, ⟨0, _, _, rfl, Nat.zero_le _, ?_, rfl⟩, ?_⟩; rotate_left; rintro s ⟨k, n, zs, rfl, hk, hz, rfl⟩) | refine ⟨⟨rfl, Int.natCast_nonneg _, (by rw [List.length_map]; show (xs.length : Int) * ((16 : Nat) : Int) ≤ 281474976710656; omega), (by rw [List.length_map]; have : ((maxLen : Nat) : Int) = 9223372036854775807 := rfl; omega)⟩, ?_⟩ | refine ⟨⟨(by rw [hz]; show k < _; rw [filled_len hk]; exact get_lt hx), rfl⟩, ?_⟩ | refine ⟨⟨Int.natCast_nonneg _, (by rw [hz, filled_len hk]; have := get_lt hx; omega)⟩, ?_⟩ | fail)) | ((with_reducible refine isCut ?_) <;> (first | refine ⟨⟨none⟩, ?_⟩)) | ((first | with_reducible refine isEx ?_ | with_reducible refine isAnd ?_ | with_reducible refine isOr ?_) <;> (first | ((with_reducible refine isGet (xs := xs.map strD) (i := ((k : Nat) : Int).toNat) ?_); obtain ⟨x, hx⟩ := get_ex (ss := xs) (k := k) (lt_of_dec (by assumption)); refine ⟨_, get_map' hx, ?_⟩) | refine ⟨⟨rfl, Int.natCast_nonneg _, (by rw [List.length_map]; show (xs.length : Int) * ((16 : Nat) : Int) ≤ 281474976710656; omega), (by rw [List.length_map]; have : ((maxLen : Nat) : Int) = 9223372036854775807 := rfl; omega)⟩, ?_⟩ | refine ⟨⟨(by rw [hz]; show k < _; rw [filled_len hk]; exact get_lt hx), rfl⟩, ?_⟩ | refine ⟨⟨Int.natCast_nonneg _, (by rw [hz, filled_len hk]; have := get_lt hx; omega)⟩, ?_⟩ | ((with_reducible refine isSmall ?_) <;> (refine ⟨?_, ?_⟩; kernel_rfl)) | refine ⟨rfl, ?_⟩ | refine ⟨Int.natCast_nonneg _, ?_⟩)) | with_reducible refine Both.mk ?_ ?_ | rintro _ rfl | exact rfl | (split <;> (rename_i h; first | (simp only [beq_self_eq_true, eq_self, decide_true, Bool.not_true, Bool.false_eq_true] at h; done) | (try rw [h])))))
  all_goals (conv => whnf)
  all_goals first
    | exact ⟨⟨k + 1, _, _, step_up (get_lt hx) hm, get_lt hx, (by rw [hz]; exact filled_up hx), rfl⟩, mu_up (get_lt hx) hm⟩
    | (have e : k = xs.length := by have := of_decide_eq_false h; omega
       rw [hz, e, filled_all]; rfl)
    | (show List.replicate (xs.map strD).length _ = _
       rw [List.length_map]; exact filled_zero _ _ _)
    | trace_state
theorem toWrite (x : Wr) : Ent Tryz.prog 108 [.d (wrD x)] [] (.d (wrD x)) [] := by
  refine ent_of tok mixed (f := 108) Tryz.func108 (by kernel_rfl) (keep := false) ?_
  repeat' ((conv => whnf) <;> (first | ((with_reducible refine isCall ?_) <;> (first | fail)) | ((with_reducible refine isCut ?_) <;> (first | refine ⟨⟨none⟩, ?_⟩)) | ((first | with_reducible refine isEx ?_ | with_reducible refine isAnd ?_ | with_reducible refine isOr ?_) <;> (first | ((with_reducible refine isSmall ?_) <;> (refine ⟨?_, ?_⟩; kernel_rfl)) | refine ⟨rfl, ?_⟩ | refine ⟨Int.natCast_nonneg _, ?_⟩)) | with_reducible refine Both.mk ?_ ?_ | rintro _ rfl | exact rfl | (split <;> (rename_i h; first | (simp only [beq_self_eq_true, eq_self, decide_true, Bool.not_true, Bool.false_eq_true] at h; done) | (try rw [h])))))
set_option maxHeartbeats 4000000 in
theorem toWriteS (xs : List (Wr)) (hl : xs.length ≤ 1048576) : Ent Tryz.prog 69 [.d (.sl false (xs.map wrD))] [] (.own 0) [.arr 2 false (xs.map wrD)] := by
  have hm : xs.length ≤ maxLen := Nat.le_trans hl (by decide)
  have hxl : (xs.map wrD).length = xs.length := List.length_map ..
  refine ent_of (cx := ⟨tab, [], []⟩) tok mixed (f := 69) Tryz.func69 (by kernel_rfl) (keep := true) ?_
  repeat' ((conv => whnf) <;> (first | ((with_reducible refine isCall ?_) <;> (first | (refine ⟨_, toWrite x, ?_⟩; rintro _ _ ⟨rfl, rfl⟩) | refine ⟨⟨rfl, Int.natCast_nonneg _, (by rw [List.length_map]; show (xs.length : Int) * ((24 : Nat) : Int) ≤ 281474976710656; omega), (by rw [List.length_map]; have : ((maxLen : Nat) : Int) = 9223372036854775807 := rfl; omega)⟩, ?_⟩ | refine ⟨⟨(by rw [hz]; show k < _; rw [filled_len hk]; exact get_lt hx), rfl⟩, ?_⟩ | refine ⟨⟨Int.natCast_nonneg _, (by rw [hz, filled_len hk]; have := get_lt hx; omega)⟩, ?_⟩ | fail)) | ((with_reducible refine isLoop ?_) <;> (first | (refine ⟨[4, 3, 0], [10007], fun s => ∃ (k : Nat) (n : Int) (zs : List D), n = k ∧ k ≤ xs.length ∧ zs = filled wrD (.agg [.i .i64 (Int.ofNat 0), .s []]) xs k ∧ s = ⟨[(4, .d (.i .i64 n)), (3, .own 10007), (0, .d (.sl false (xs.map wrD)))], [(10007, .arr 2 false zs)]⟩, fun s => match look 4 s.env with | some (.d (.i _ n)) => xs.length - n.toNat | _ => 0, rfl, ⟨0, _, _, rfl, Nat.zero_le _, ?_, rfl⟩, ?_⟩; rotate_left; rintro s ⟨k, n, zs, rfl, hk, hz, rfl⟩) | refine ⟨⟨rfl, Int.natCast_nonneg _, (by rw [List.length_map]; show (xs.length : Int) * ((24 : Nat) : Int) ≤ 281474976710656; omega), (by rw [List.length_map]; have : ((maxLen : Nat) : Int) = 9223372036854775807 := rfl; omega)⟩, ?_⟩ | refine ⟨⟨(by rw [hz]; show k < _; rw [filled_len hk]; exact get_lt hx), rfl⟩, ?_⟩ | refine ⟨⟨Int.natCast_nonneg _, (by rw [hz, filled_len hk]; have := get_lt hx; omega)⟩, ?_⟩ | fail)) | ((with_reducible refine isCut ?_) <;> (first | refine ⟨⟨none⟩, ?_⟩)) | ((first | with_reducible refine isEx ?_ | with_reducible refine isAnd ?_ | with_reducible refine isOr ?_) <;> (first | ((with_reducible refine isGet (xs := xs.map wrD) (i := ((k : Nat) : Int).toNat) ?_); obtain ⟨x, hx⟩ := get_ex (ss := xs) (k := k) (lt_of_dec (by assumption)); refine ⟨_, get_map' hx, ?_⟩) | refine ⟨⟨rfl, Int.natCast_nonneg _, (by rw [List.length_map]; show (xs.length : Int) * ((24 : Nat) : Int) ≤ 281474976710656; omega), (by rw [List.length_map]; have : ((maxLen : Nat) : Int) = 9223372036854775807 := rfl; omega)⟩, ?_⟩ | refine ⟨⟨(by rw [hz]; show k < _; rw [filled_len hk]; exact get_lt hx), rfl⟩, ?_⟩ | refine ⟨⟨Int.natCast_nonneg _, (by rw [hz, filled_len hk]; have := get_lt hx; omega)⟩, ?_⟩ | ((with_reducible refine isSmall ?_) <;> (refine ⟨?_, ?_⟩; kernel_rfl)) | refine ⟨rfl, ?_⟩ | refine ⟨Int.natCast_nonneg _, ?_⟩)) | with_reducible refine Both.mk ?_ ?_ | rintro _ rfl | exact rfl | (split <;> (rename_i h; first | (simp only [beq_self_eq_true, eq_self, decide_true, Bool.not_true, Bool.false_eq_true] at h; done) | (try rw [h])))))
  all_goals (conv => whnf)
  all_goals first
    | exact ⟨⟨k + 1, _, _, step_up (get_lt hx) hm, get_lt hx, (by rw [hz]; exact filled_up hx), rfl⟩, mu_up (get_lt hx) hm⟩
    | (have e : k = xs.length := by have := of_decide_eq_false h; omega
       rw [hz, e, filled_all]; rfl)
    | (show List.replicate (xs.map wrD).length _ = _
       rw [List.length_map]; exact filled_zero _ _ _)
    | trace_state
theorem toDisk (x : Disk) (h1 : x.secs.length ≤ 1048576) (h2 : x.cache.length ≤ 1048576) : Ent Tryz.prog 34 [.d (diskD x)] [] (.agg [.own 0, .own 1]) [.arr 1 false (x.secs.map strD), .arr 2 false (x.cache.map wrD)] := by
  have c1 := toStringS x.secs h1
  have c2 := toWriteS x.cache h2
  refine ent_of (cx := ⟨tab, [], []⟩) tok mixed (f := 34) Tryz.func34 (by kernel_rfl) (keep := true) ?_
  repeat' ((conv => whnf) <;> (first | ((with_reducible refine isCall ?_) <;> (first | (refine ⟨_, c1, ?_⟩; rintro _ _ ⟨rfl, rfl⟩) | (refine ⟨_, c2, ?_⟩; rintro _ _ ⟨rfl, rfl⟩) | fail)) | ((with_reducible refine isCut ?_) <;> (first | refine ⟨⟨none⟩, ?_⟩)) | ((first | with_reducible refine isEx ?_ | with_reducible refine isAnd ?_ | with_reducible refine isOr ?_) <;> (first | ((with_reducible refine isSmall ?_) <;> (refine ⟨?_, ?_⟩; kernel_rfl)) | refine ⟨rfl, ?_⟩ | refine ⟨Int.natCast_nonneg _, ?_⟩)) | with_reducible refine Both.mk ?_ ?_ | rintro _ rfl | exact rfl | (split <;> (rename_i h; first | (simp only [beq_self_eq_true, eq_self, decide_true, Bool.not_true, Bool.false_eq_true] at h; done) | (try rw [h])))))
set_option maxHeartbeats 1000000 in
theorem toStore (x : Sto) (hz : szSto x) : Ent Tryz.prog 9 [.d (stoD x)] [] (.agg [.own 0, .own 1, .own 2, .d (.i .i64 x.seq), .d (.i .i64 x.next)]) [.arr 1 false (x.disk.secs.map strD), .arr 2 false (x.disk.cache.map wrD), .arr 5 true (x.tabs.map tabO)] := by
  have c1 := toDisk x.disk hz.secs hz.cache
  have c2 := toDb x.tabs hz.tabs hz.tab
  refine ent_of (cx := ⟨tab, [], []⟩) tok mixed (f := 9) Tryz.func9 (by kernel_rfl) (keep := true) ?_
  repeat' ((conv => whnf) <;> (first | ((with_reducible refine isCall ?_) <;> (first | (refine ⟨_, c1, ?_⟩; rintro _ _ ⟨rfl, rfl⟩) | (refine ⟨_, c2, ?_⟩; rintro _ _ ⟨rfl, rfl⟩) | fail)) | ((with_reducible refine isCut ?_) <;> (first | refine ⟨⟨none⟩, ?_⟩)) | ((first | with_reducible refine isEx ?_ | with_reducible refine isAnd ?_ | with_reducible refine isOr ?_) <;> (first | ((with_reducible refine isSmall ?_) <;> (refine ⟨?_, ?_⟩; kernel_rfl)) | refine ⟨rfl, ?_⟩ | refine ⟨Int.natCast_nonneg _, ?_⟩)) | with_reducible refine Both.mk ?_ ?_ | rintro _ rfl | exact rfl | (split <;> (rename_i h; first | (simp only [beq_self_eq_true, eq_self, decide_true, Bool.not_true, Bool.false_eq_true] at h; done) | (try rw [h])))))
end Go.Pm.Tryz
namespace Go.Pm.Tryz
open Go Go.Proofs
set_option linter.unusedVariables false
set_option linter.unusedSimpArgs false
set_option maxRecDepth 100000
def digit (m : Int) : UInt8 := byteOf (IntKind.i64.wrap (48 + m.tmod 10))
def digs : Nat → Int → List UInt8
  | 0, _ => []
  | f + 1, m => if m > 0 then digs f (m / 10) ++ [digit m] else []
def markTextM (n : Int) : List UInt8 := if n ≤ 0 then [109, 48] else 109 :: digs 19 n
theorem digs_no : ∀ {f : Nat} {m : Int}, ¬ m > 0 → digs f m = []
  | 0, m, _ => rfl
  | f + 1, m, h => by rw [digs, if_neg h]
theorem wrap_le (x : Int) : IntKind.i64.wrap x ≤ 9223372036854775807 := by rw [IntKind.wrap_i64]; omega
theorem div10 {n : Int} (h : decide (n > 0) = true) (hn : n ≤ 9223372036854775807) : IntKind.i64.wrap (n.tdiv 10) = n / 10 := by
  have h := of_decide_eq_true h
  rw [Int.tdiv_eq_ediv_of_nonneg (by omega)]
  exact wrap_i64_id _ (by omega) (by omega)
theorem digs_ok {m : Int} {f : Nat} (h : decide (m > 0) = true) (hf : m < 10 ^ f) : ∃ g, f = g + 1 ∧ m / 10 < 10 ^ g := by
  have h := of_decide_eq_true h
  cases f with
  | zero => simp at hf; omega
  | succ g => refine ⟨g, rfl, ?_⟩; rw [Int.pow_succ] at hf; omega
theorem cat_ok {l : List UInt8} {c : UInt8} {f : Nat} (hl : l.length + f ≤ 19) : (([c].length + l.length : Nat) : Int) ≤ 9223372036854775807 := by
  simp only [List.length_cons, List.length_nil]; omega
set_option maxHeartbeats 1000000 in
theorem markTextD (n : Int) (hn : n ≤ 9223372036854775807) : Ent Tryz.prog 47 [.d (.i .i64 n)] [] (.d (.s (markTextM n))) [] := by
  obtain ⟨o, ho⟩ : ∃ o, o = markTextM n := ⟨_, rfl⟩
  rw [← ho]
  unfold markTextM at ho
  refine ent_of tok mixed (f := 47) Tryz.func47 (by kernel_rfl) (keep := false) ?_
  repeat' ((conv => whnf) <;> (first | ((with_reducible refine isCall ?_) <;> (first | refine ⟨_, u8s_byte _, ?_⟩ | refine ⟨(by decide : (10 : Int) ≠ 0), ?_⟩ | refine ⟨cat_ok hl, ?_⟩ | fail)) | ((with_reducible refine isLoop ?_) <;> (first | (refine ⟨[0, 3], [], fun s => ∃ (m : Int) (l : List UInt8) (f : Nat), m ≤ 9223372036854775807 ∧ l.length + f ≤ 19 ∧ m < 10 ^ f ∧ digs 19 n = digs f m ++ l ∧ s = ⟨[(0, .d (.i .i64 m)), (3, .d (.s l))], []⟩, fun s => match look 0 s.env with | some (.d (.i _ m)) => m.toNat | _ => 0, rfl, ⟨n, [], 19, hn, by simp, (by omega), (List.append_nil _).symm, rfl⟩, ?_⟩; rintro s ⟨m, l, f, hm, hl, hf, hd, rfl⟩) | refine ⟨_, u8s_byte _, ?_⟩ | refine ⟨(by decide : (10 : Int) ≠ 0), ?_⟩ | refine ⟨cat_ok hl, ?_⟩ | fail)) | ((with_reducible refine isCut ?_) <;> (first | refine ⟨⟨none⟩, ?_⟩)) | ((first | with_reducible refine isEx ?_ | with_reducible refine isAnd ?_ | with_reducible refine isOr ?_) <;> (first | refine ⟨_, u8s_byte _, ?_⟩ | refine ⟨(by decide : (10 : Int) ≠ 0), ?_⟩ | refine ⟨cat_ok hl, ?_⟩ | ((with_reducible refine isSmall ?_) <;> (refine ⟨?_, ?_⟩; kernel_rfl)) | refine ⟨rfl, ?_⟩ | refine ⟨Int.natCast_nonneg _, ?_⟩)) | with_reducible refine Both.mk ?_ ?_ | rintro _ rfl | exact rfl | (split <;> (rename_i h; first | (simp only [beq_self_eq_true, eq_self, decide_true, Bool.not_true, Bool.false_eq_true] at h; done) | (try rw [h])))))
  all_goals (conv => whnf)
  · rw [if_pos (of_decide_eq_true h)] at ho
    rw [ho]; exact ⟨rfl, rfl⟩
  · have e := div10 h hm
    obtain ⟨g, rfl, hg⟩ := digs_ok h hf
    have h := of_decide_eq_true h
    refine ⟨⟨_, _, g, ?_, ?_, ?_, ?_, rfl⟩, ?_⟩
    · rw [e]; omega
    · simp only [List.cons_append, List.nil_append, List.length_cons]; omega
    · rw [e]; exact hg
    · rw [hd, digs, if_pos h, e, List.append_assoc]; rfl
    · show (IntKind.i64.wrap (m.tdiv 10)).toNat < m.toNat
      rw [e]; omega
  · rename_i h0 _
    rw [if_neg (of_decide_eq_false h0)] at ho
    rw [digs_no (of_decide_eq_false h), List.nil_append] at hd
    rw [ho, hd]; exact ⟨rfl, rfl⟩
mutual
def mkD : D → Int → D
  | .i k _, n => .i k n
  | .b _, n => .b (decide (n.tmod 3 = 0))
  | .s _, n => .s (markTextM n)
  | .agg cs, n => .agg (mkL cs n)
  | .sl u xs, n => .sl u (mkL xs n)
  | .os sz d xs, n => .os sz d (mkL xs n)
  | .junk, _ => .junk
def mkL : List D → Int → List D
  | [], _ => []
  | x :: xs, n => mkD x n :: mkL xs (ctD x n)
def ctD : D → Int → Int
  | .i _ _, n => up n
  | .b _, n => up n
  | .s _, n => up n
  | .agg cs, n => ctL cs n
  | .sl _ xs, n => ctL xs n
  | .os _ _ xs, n => ctL xs n
  | .junk, n => n
def ctL : List D → Int → Int
  | [], n => n
  | x :: xs, n => ctL xs (ctD x n)
end
mutual
def cntD : D → Nat
  | .i _ _ => 1
  | .b _ => 1
  | .s _ => 1
  | .agg cs => cntL cs
  | .sl _ xs => cntL xs
  | .os _ _ xs => cntL xs
  | .junk => 0
def cntL : List D → Nat
  | [] => 0
  | x :: xs => cntD x + cntL xs
end
theorem up_eq {n : Int} (h : 0 ≤ n) (h2 : n + 1 ≤ 1000000000000000) : up n = n + 1 := wrap_i64_id _ (by omega) (by omega)
mutual
theorem ctD_eq : ∀ (x : D) {n : Int}, 0 ≤ n → n + cntD x ≤ 1000000000000000 → ctD x n = n + cntD x
  | .i _ _, n, h, h2 => by simp only [cntD, ctD] at *; exact up_eq h h2
  | .b _, n, h, h2 => by simp only [cntD, ctD] at *; exact up_eq h h2
  | .s _, n, h, h2 => by simp only [cntD, ctD] at *; exact up_eq h h2
  | .agg cs, n, h, h2 => by simp only [cntD, ctD] at *; exact ctL_eq cs h h2
  | .sl _ xs, n, h, h2 => by simp only [cntD, ctD] at *; exact ctL_eq xs h h2
  | .os _ _ xs, n, h, h2 => by simp only [cntD, ctD] at *; exact ctL_eq xs h h2
  | .junk, n, h, h2 => by simp [cntD, ctD]
theorem ctL_eq : ∀ (xs : List D) {n : Int}, 0 ≤ n → n + cntL xs ≤ 1000000000000000 → ctL xs n = n + cntL xs
  | [], n, h, h2 => by simp [cntL, ctL]
  | x :: xs, n, h, h2 => by
    simp only [cntL, ctL] at *
    rw [ctD_eq x h (by omega), ctL_eq xs (by omega) (by omega)]; omega
end
mutual
theorem ctD_le : ∀ (x : D) {n : Int}, n ≤ 9223372036854775807 → ctD x n ≤ 9223372036854775807
  | .i _ _, n, h => by simp only [ctD]; exact wrap_le _
  | .b _, n, h => by simp only [ctD]; exact wrap_le _
  | .s _, n, h => by simp only [ctD]; exact wrap_le _
  | .agg cs, n, h => by simp only [ctD]; exact ctL_le cs h
  | .sl _ xs, n, h => by simp only [ctD]; exact ctL_le xs h
  | .os _ _ xs, n, h => by simp only [ctD]; exact ctL_le xs h
  | .junk, n, h => by simp only [ctD]; exact h
theorem ctL_le : ∀ (xs : List D) {n : Int}, n ≤ 9223372036854775807 → ctL xs n ≤ 9223372036854775807
  | [], n, h => by simp only [ctL]; exact h
  | x :: xs, n, h => by simp only [ctL]; exact ctL_le xs (ctD_le x h)
end
theorem mkL_len : ∀ (xs : List D) (n : Int), (mkL xs n).length = xs.length
  | [], n => by simp [mkL]
  | x :: xs, n => by simp [mkL, mkL_len xs]
theorem ctL_app : ∀ (xs ys : List D) (n : Int), ctL (xs ++ ys) n = ctL ys (ctL xs n)
  | [], ys, n => by simp [ctL]
  | x :: xs, ys, n => by simp only [List.cons_append, ctL, ctL_app xs]
theorem mkL_app : ∀ (xs ys : List D) (n : Int), mkL (xs ++ ys) n = mkL xs n ++ mkL ys (ctL xs n)
  | [], ys, n => by simp [mkL, ctL]
  | x :: xs, ys, n => by simp only [List.cons_append, mkL, ctL, mkL_app xs]
theorem cntL_app : ∀ (xs ys : List D), cntL (xs ++ ys) = cntL xs + cntL ys
  | [], ys => by simp [cntL]
  | x :: xs, ys => by simp only [List.cons_append, cntL, cntL_app xs]; omega
theorem ct_up {xs : List D} {k : Nat} {x : D} {n : Int} (h : xs[k]? = some x) : ctL (xs.take (k + 1)) n = ctD x (ctL (xs.take k) n) := by
  rw [take_up h, ctL_app]; simp only [ctL]
theorem mk_up {xs : List D} {k : Nat} {x : D} {n : Int} (h : xs[k]? = some x) : mkL (xs.take (k + 1)) n = mkL (xs.take k) n ++ [mkD x (ctL (xs.take k) n)] := by
  rw [take_up h, mkL_app]; simp only [mkL]
theorem mk_set {xs : List D} {k : Nat} {x : D} {n : Int} (h : xs[k]? = some x) : (mkL (xs.take k) n ++ xs.drop k).set k (mkD x (ctL (xs.take k) n)) = mkL (xs.take (k + 1)) n ++ xs.drop (k + 1) := by
  have hk := get_lt h
  have hl : (mkL (xs.take k) n).length = k := by rw [mkL_len, List.length_take]; omega
  obtain ⟨_, hx⟩ := List.getElem?_eq_some_iff.1 h
  rw [List.set_append_right _ _ (by omega), hl, Nat.sub_self, List.drop_eq_getElem_cons hk, mk_up h]
  simp only [List.set_cons_zero, List.append_assoc, List.cons_append, List.nil_append]
theorem mk_at {xs : List D} {k : Nat} {x : D} {n : Int} (h : xs[k]? = some x) : (mkL (xs.take k) n ++ xs.drop k)[k]? = some x := by
  have hk := get_lt h
  have hl : (mkL (xs.take k) n).length = k := by rw [mkL_len, List.length_take]; omega
  rw [List.getElem?_append_right (by omega), hl, Nat.sub_self, List.getElem?_drop, Nat.add_zero]; exact h
theorem mk_get {xs : List D} {k : Nat} {x : D} {n : Int} (h : xs[k]? = some x) : (mkL xs n)[k]? = some (mkD x (ctL (xs.take k) n)) := by
  have hk := get_lt h
  have hl : (mkL (xs.take k) n).length = k := by rw [mkL_len, List.length_take]; omega
  obtain ⟨_, hx⟩ := List.getElem?_eq_some_iff.1 h
  conv => lhs; rw [show xs = xs.take k ++ xs.drop k from (List.take_append_drop k xs).symm]
  rw [mkL_app, List.getElem?_append_right (by omega), hl, Nat.sub_self, List.drop_eq_getElem_cons hk, hx]
  simp only [mkL, List.getElem?_cons_zero]
theorem mk_all {xs : List D} {k : Nat} {n : Int} (h : k = xs.length) : mkL (xs.take k) n ++ xs.drop k = mkL xs n ∧ ctL (xs.take k) n = ctL xs n := by
  subst h; rw [List.take_length, List.drop_length, List.append_nil]; exact ⟨rfl, rfl⟩
structure Fine (xs : List D) (n : Int) : Prop where
  lo : 0 ≤ n
  hi : n + cntL xs ≤ 1000000000000000
theorem Fine.take {xs : List D} {n : Int} (h : Fine xs n) {k : Nat} {x : D} (hx : xs[k]? = some x) : 0 ≤ ctL (xs.take k) n ∧ ctL (xs.take k) n + cntD x ≤ 1000000000000000 := by
  have hk := get_lt hx
  have e : cntL xs = cntL (xs.take k) + (cntD x + cntL (xs.drop (k + 1))) := by
    conv => lhs; rw [show xs = xs.take k ++ xs.drop k from (List.take_append_drop k xs).symm]
    obtain ⟨_, hx'⟩ := List.getElem?_eq_some_iff.1 hx
    rw [cntL_app, List.drop_eq_getElem_cons hk, hx', cntL]
  have h1 := h.lo
  have h2 := h.hi
  rw [ctL_eq _ h1 (by omega)]; omega
theorem Fine.out {xs : List D} {n : Int} (h : Fine xs n) : 0 ≤ ctL xs n := by rw [ctL_eq xs h.lo h.hi]; have := h.lo; omega
mutual
theorem erase_mk : ∀ (x : D) (n : Int), (mkD x n).erase = mkD x.erase n ∧ ctD x.erase n = ctD x n
  | .i _ _, n => ⟨rfl, rfl⟩
  | .b _, n => ⟨rfl, rfl⟩
  | .s _, n => ⟨rfl, rfl⟩
  | .agg cs, n => by simp only [mkD, ctD, D.erase, (erase_mkL cs n).1, (erase_mkL cs n).2, and_self]
  | .sl u xs, n => by simp only [mkD, ctD, D.erase, (erase_mkL xs n).1, (erase_mkL xs n).2, and_self]
  | .os sz d xs, n => by simp only [mkD, ctD, D.erase, (erase_mkL xs n).1, (erase_mkL xs n).2, and_self]
  | .junk, n => ⟨rfl, rfl⟩
theorem erase_mkL : ∀ (xs : List D) (n : Int), eraseL (mkL xs n) = mkL (eraseL xs) n ∧ ctL (eraseL xs) n = ctL xs n
  | [], n => by simp only [mkL, eraseL, ctL, and_self]
  | x :: xs, n => by
    simp only [mkL, eraseL, ctL, (erase_mk x n).1, (erase_mk x n).2, (erase_mkL xs _).1, (erase_mkL xs _).2, and_self]
end
theorem Fine.cell {cs : List D} {c : Int} (h : 0 ≤ c ∧ c + cntL cs ≤ 1000000000000000) {j : Nat} {u : Bool} {ys : List D} (hj : cs[j]? = some (.sl u ys)) : Fine ys (ctL (cs.take j) c) := by
  have h1 := (Fine.mk h.1 h.2).take hj
  exact ⟨h1.1, by simpa only [cntD] using h1.2⟩
end Go.Pm.Tryz
