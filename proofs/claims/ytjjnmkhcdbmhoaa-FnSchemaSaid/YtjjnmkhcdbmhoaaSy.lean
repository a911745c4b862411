/-
Schemas as bytes: both sides.
-/
import Derived.Test.YtjjnmkhcdbmhoaaSz
import Derived.Test.YtjjnmkhcdbmhoaaBm
namespace Go.Pm.Try
open Go Go.Proofs
set_option linter.unusedVariables false
set_option linter.unusedSimpArgs false
set_option maxRecDepth 100000
section
variable {α : Type} {f : α → List UInt8} {xs : List α} {k : Nat} {x : α} {h acc : List UInt8}
theorem acc_zero (h : List UInt8) (f : α → List UInt8) (xs : List α) : h = h ++ (xs.take 0).flatMap f := by simp
theorem acc_next (ha : acc = h ++ (xs.take k).flatMap f) (hx : xs[k]? = some x) : acc ++ f x = h ++ (xs.take (k + 1)).flatMap f := by
  rw [flat_next hx, ha, List.append_assoc]
theorem acc_len {a b : Nat} (ha : acc = h ++ (xs.take k).flatMap f) (hh : h.length ≤ a) (hf : ∀ x, x ∈ xs → (f x).length ≤ b) : acc.length ≤ a + b * xs.length := by
  have := flatT_len hf k
  rw [ha, List.length_append]; omega
theorem acc_all {g : α → D} (ha : acc = h ++ (xs.take k).flatMap f) (hk : decide ((k : Int) < ((xs.map g).length : Int)) = false) : acc = h ++ xs.flatMap f := by
  have := of_decide_eq_false hk
  rw [List.length_map] at this
  rw [ha, List.take_of_length_le (by omega)]
end
theorem specBool (b : Bool) : Ent Try.prog 27 [.d (.b b)] [] (.d (.s (bitB b))) [] := by
  have c1 := specPutNum 1 (by decide) (by decide)
  have c0 := specPutNum 0 (by decide) (by decide)
  cases b
  all_goals
    refine ent_of tok mixed (f := 27) Try.func27 (by kernel_rfl) (keep := false) ?_
    repeat' ((conv => whnf) <;> (first | ((with_reducible refine isCall ?_) <;> (first | (refine ⟨_, c1, ?_⟩; rintro _ _ ⟨rfl, rfl⟩) | (refine ⟨_, c0, ?_⟩; rintro _ _ ⟨rfl, rfl⟩) | fail)) | ((with_reducible refine isCut ?_) <;> (first | refine ⟨⟨none⟩, ?_⟩)) | ((first | with_reducible refine isEx ?_ | with_reducible refine isAnd ?_ | with_reducible refine isOr ?_) <;> (first | ((with_reducible refine isSmall ?_) <;> (refine ⟨?_, ?_⟩; kernel_rfl)) | refine ⟨rfl, ?_⟩ | refine ⟨Int.natCast_nonneg _, ?_⟩)) | with_reducible refine Both.mk ?_ ?_ | rintro _ rfl | exact rfl | (split <;> (rename_i h; first | (simp only [beq_self_eq_true, eq_self, decide_true, Bool.not_true, Bool.false_eq_true] at h; done) | (try rw [h])))))
  all_goals exact ⟨rfl, rfl⟩
theorem implBit (b : Bool) : Ent Try.prog 21 [.d (.b b)] [] (.d (.s (bitB b))) [] := by
  have c1 := implPutNum 1 (by decide) (by decide)
  have c0 := implPutNum 0 (by decide) (by decide)
  cases b
  all_goals
    refine ent_of tok mixed (f := 21) Try.func21 (by kernel_rfl) (keep := false) ?_
    repeat' ((conv => whnf) <;> (first | ((with_reducible refine isCall ?_) <;> (first | (refine ⟨_, c1, ?_⟩; rintro _ _ ⟨rfl, rfl⟩) | (refine ⟨_, c0, ?_⟩; rintro _ _ ⟨rfl, rfl⟩) | fail)) | ((with_reducible refine isCut ?_) <;> (first | refine ⟨⟨none⟩, ?_⟩)) | ((first | with_reducible refine isEx ?_ | with_reducible refine isAnd ?_ | with_reducible refine isOr ?_) <;> (first | ((with_reducible refine isSmall ?_) <;> (refine ⟨?_, ?_⟩; kernel_rfl)) | refine ⟨rfl, ?_⟩ | refine ⟨Int.natCast_nonneg _, ?_⟩)) | with_reducible refine Both.mk ?_ ?_ | rintro _ rfl | exact rfl | (split <;> (rename_i h; first | (simp only [beq_self_eq_true, eq_self, decide_true, Bool.not_true, Bool.false_eq_true] at h; done) | (try rw [h])))))
  all_goals exact ⟨rfl, rfl⟩
theorem putLen {f : Int → D} {l : List Int} {F : FuncId} (c : Ent Try.prog F [.d (.i .i64 (l.length : Int))] [] (.d (.s (putNum (l.length : Int)))) []) : Ent Try.prog F [.d (.i .i64 ((l.map f).length : Int))] [] (.d (.s (putNum (l.length : Int)))) [] := by
  rw [List.length_map]; exact c
set_option maxHeartbeats 1000000 in
theorem specNums (l : List Int) (hp : IntsPut l) : Ent Try.prog 28 [.d (.sl false (l.map i64D))] [] (.d (.s (listB l))) [] := by
  have hl := hp.1
  have c1 := putLen (f := i64D) (specPutNum (l.length : Int) (by omega) (by omega))
  have hm : l.length ≤ maxLen := Nat.le_trans hl (Nat.le_of_ble_eq_true rfl)
  refine ent_of tok mixed (f := 28) Try.func28 (by kernel_rfl) (keep := false) ?_
  repeat' ((conv => whnf) <;> (first | ((with_reducible refine isCall ?_) <;> (first | (refine ⟨_, c1, ?_⟩; rintro _ _ ⟨rfl, rfl⟩) | (refine ⟨_, specPutNum x hx2.lo hx2.hi, ?_⟩; rintro _ _ ⟨rfl, rfl⟩) | (obtain ⟨x, hx⟩ := get_ex (k := k) (lt_of_dec (by assumption)); have hx2 := hp.2 x (get_mem hx); have q6 := putNum_len x; refine ⟨_, get_map' hx, ?_⟩) | (refine ⟨(by (try simp only [List.length_append]); omega), ?_⟩) | exact ⟨⟨k + 1, _, _, step_up (get_lt hx) hm, acc_next hacc hx, rfl⟩, mu_up (get_lt hx) hm⟩ | fail)) | ((with_reducible refine isLoop ?_) <;> (first | (refine ⟨[0, 3, 4], [], fun st => ∃ (k : Nat) (n : Int) (acc : List UInt8), n = k ∧ acc = putNum (l.length : Int) ++ (l.take k).flatMap putNum ∧ st = ⟨[(0, .d (.sl false (l.map i64D))), (3, .d (.s acc)), (4, .d (.i .i64 n))], []⟩, fun s => match look 4 s.env with | some (.d (.i _ n)) => l.length - n.toNat | _ => 0, rfl, ⟨0, _, _, rfl, acc_zero _ putNum l, rfl⟩, ?_⟩; rintro st ⟨k, n, acc, rfl, hacc, rfl⟩; have q7 := acc_len hacc (putNum_len _) fun x _ => putNum_len x) | (obtain ⟨x, hx⟩ := get_ex (k := k) (lt_of_dec (by assumption)); have hx2 := hp.2 x (get_mem hx); have q6 := putNum_len x; refine ⟨_, get_map' hx, ?_⟩) | (refine ⟨(by (try simp only [List.length_append]); omega), ?_⟩) | exact ⟨⟨k + 1, _, _, step_up (get_lt hx) hm, acc_next hacc hx, rfl⟩, mu_up (get_lt hx) hm⟩ | fail)) | ((with_reducible refine isCut ?_) <;> (first | refine ⟨⟨none⟩, ?_⟩)) | ((first | with_reducible refine isEx ?_ | with_reducible refine isAnd ?_ | with_reducible refine isOr ?_) <;> (first | (obtain ⟨x, hx⟩ := get_ex (k := k) (lt_of_dec (by assumption)); have hx2 := hp.2 x (get_mem hx); have q6 := putNum_len x; refine ⟨_, get_map' hx, ?_⟩) | (refine ⟨(by (try simp only [List.length_append]); omega), ?_⟩) | exact ⟨⟨k + 1, _, _, step_up (get_lt hx) hm, acc_next hacc hx, rfl⟩, mu_up (get_lt hx) hm⟩ | ((with_reducible refine isSmall ?_) <;> (refine ⟨?_, ?_⟩; kernel_rfl)) | refine ⟨rfl, ?_⟩ | refine ⟨Int.natCast_nonneg _, ?_⟩)) | with_reducible refine Both.mk ?_ ?_ | rintro _ rfl | exact rfl | (split <;> (rename_i h; first | (simp only [beq_self_eq_true, eq_self, decide_true, Bool.not_true, Bool.false_eq_true] at h; done) | (try rw [h])))))
  all_goals (conv => whnf)
  all_goals (refine ⟨congrArg (fun t => AV.d (D.s t)) ?_, rfl⟩)
  all_goals exact acc_all hacc h
set_option maxHeartbeats 1000000 in
theorem implPutList (l : List Int) (hp : IntsPut l) : Ent Try.prog 22 [.d (.sl false (l.map i64D))] [] (.d (.s (listB l))) [] := by
  have hl := hp.1
  have c1 := putLen (f := i64D) (implPutNum (l.length : Int) (by omega) (by omega))
  have hm : l.length ≤ maxLen := Nat.le_trans hl (Nat.le_of_ble_eq_true rfl)
  refine ent_of tok mixed (f := 22) Try.func22 (by kernel_rfl) (keep := false) ?_
  repeat' ((conv => whnf) <;> (first | ((with_reducible refine isCall ?_) <;> (first | (refine ⟨_, c1, ?_⟩; rintro _ _ ⟨rfl, rfl⟩) | (refine ⟨_, implPutNum x hx2.lo hx2.hi, ?_⟩; rintro _ _ ⟨rfl, rfl⟩) | (obtain ⟨x, hx⟩ := get_ex (k := k) (lt_of_dec (by assumption)); have hx2 := hp.2 x (get_mem hx); have q6 := putNum_len x; refine ⟨_, get_map' hx, ?_⟩) | (refine ⟨(by (try simp only [List.length_append]); omega), ?_⟩) | exact ⟨⟨k + 1, _, _, step_up (get_lt hx) hm, acc_next hacc hx, rfl⟩, mu_up (get_lt hx) hm⟩ | fail)) | ((with_reducible refine isLoop ?_) <;> (first | (refine ⟨[3, 9, 10, 11], [], fun st => ∃ (k : Nat) (n : Int) (acc : List UInt8), n = k ∧ acc = putNum (l.length : Int) ++ (l.take k).flatMap putNum ∧ st = ⟨[(3, .d (.s acc)), (9, .d (.sl false (l.map i64D))), (10, .d (.i .i64 ((l.map i64D).length : Int))), (11, .d (.i .i64 n))], []⟩, fun s => match look 11 s.env with | some (.d (.i _ n)) => l.length - n.toNat | _ => 0, rfl, ⟨0, _, _, rfl, acc_zero _ putNum l, rfl⟩, ?_⟩; rintro st ⟨k, n, acc, rfl, hacc, rfl⟩; have q7 := acc_len hacc (putNum_len _) fun x _ => putNum_len x) | (obtain ⟨x, hx⟩ := get_ex (k := k) (lt_of_dec (by assumption)); have hx2 := hp.2 x (get_mem hx); have q6 := putNum_len x; refine ⟨_, get_map' hx, ?_⟩) | (refine ⟨(by (try simp only [List.length_append]); omega), ?_⟩) | exact ⟨⟨k + 1, _, _, step_up (get_lt hx) hm, acc_next hacc hx, rfl⟩, mu_up (get_lt hx) hm⟩ | fail)) | ((with_reducible refine isCut ?_) <;> (first | refine ⟨⟨none⟩, ?_⟩)) | ((first | with_reducible refine isEx ?_ | with_reducible refine isAnd ?_ | with_reducible refine isOr ?_) <;> (first | (obtain ⟨x, hx⟩ := get_ex (k := k) (lt_of_dec (by assumption)); have hx2 := hp.2 x (get_mem hx); have q6 := putNum_len x; refine ⟨_, get_map' hx, ?_⟩) | (refine ⟨(by (try simp only [List.length_append]); omega), ?_⟩) | exact ⟨⟨k + 1, _, _, step_up (get_lt hx) hm, acc_next hacc hx, rfl⟩, mu_up (get_lt hx) hm⟩ | ((with_reducible refine isSmall ?_) <;> (refine ⟨?_, ?_⟩; kernel_rfl)) | refine ⟨rfl, ?_⟩ | refine ⟨Int.natCast_nonneg _, ?_⟩)) | with_reducible refine Both.mk ?_ ?_ | rintro _ rfl | exact rfl | (split <;> (rename_i h; first | (simp only [beq_self_eq_true, eq_self, decide_true, Bool.not_true, Bool.false_eq_true] at h; done) | (try rw [h])))))
  all_goals (conv => whnf)
  all_goals (refine ⟨congrArg (fun t => AV.d (D.s t)) ?_, rfl⟩)
  all_goals exact acc_all hacc h
structure ColFact (c : Col) : Prop where
  name : c.name.length ≤ 9223372036854775807
  lo : -9223372036854775808 ≤ c.kind
  hi : c.kind ≤ 9223372036854775807
  len : (colB c).length ≤ 50
  t : (putText c.name).length ≤ 30
  n : (putNum c.kind).length ≤ 10
  b : (bitB c.uniq).length ≤ 10
theorem col_fact {s : Schema} (h : schemaP s) {c : Col} (hc : c ∈ s.cols) : ColFact c := by
  obtain ⟨k, hk, e⟩ := List.mem_iff_getElem.1 hc
  obtain ⟨h1, h2, _⟩ := h.cols k c (by rw [List.getElem?_eq_getElem hk, e])
  have := name_len h1
  have t1 := text_len c.name; have t2 := putNum_len c.kind; have t3 := bitB_len c.uniq
  exact ⟨by omega, by omega, by omega, by simp only [colB, List.length_append]; omega, by omega, t2, t3⟩
structure IdxFact (i : Idx) : Prop where
  put : IntsPut i.cols
  len : (idxB i).length ≤ 120
  l : (listB i.cols).length ≤ 110
  b : (bitB i.uniq).length ≤ 10
theorem idx_fact {s : Schema} (h : schemaP s) {i : Idx} (hi : i ∈ s.idxs) : IdxFact i := by
  have hp := (sch_put h).idxs.2 i hi
  have := hp.1
  have t1 := listB_len i.cols; have t3 := bitB_len i.uniq
  exact ⟨hp, by simp only [idxB, List.length_append]; omega, by omega, t3⟩
theorem schH_len {s : Schema} (h : schemaP s) : (schH s).length ≤ 40 := by
  have := name_len h.name; have := text_len s.name; have := putNum_len (s.cols.length : Int)
  simp only [schH, List.length_append]; omega
theorem schM_len {s : Schema} (h : schemaP s) : (schM s).length ≤ 120 := by
  have := (sch_put h).keys.1; have := listB_len s.keys; have := putNum_len (s.idxs.length : Int)
  simp only [schM, List.length_append]; omega
theorem col_join {acc : List UInt8} {c : Col} : ((acc ++ putText c.name) ++ putNum c.kind) ++ bitB c.uniq = acc ++ colB c := by simp only [colB, List.append_assoc]
theorem idx_join {acc : List UInt8} {i : Idx} : (acc ++ listB i.cols) ++ bitB i.uniq = acc ++ idxB i := by simp only [idxB, List.append_assoc]
theorem mid_join {acc : List UInt8} {s : Schema} : (acc ++ listB s.keys) ++ putNum (s.idxs.length : Int) = acc ++ schM s := by simp only [schM, List.append_assoc]
theorem schB_fin {s : Schema} {a1 a2 : List UInt8} (h1 : a1 = schH s ++ s.cols.flatMap colB) (h2 : a2 = (a1 ++ schM s) ++ s.idxs.flatMap idxB) : a2 = schB s := by rw [h2, h1]; rfl
theorem sch_ne {s : Schema} {a : List UInt8} (h : a = schB s) : a ≠ [] := by rw [h]; exact schB_ne s
set_option maxHeartbeats 4000000 in
theorem specSchemaBytes (s : Schema) (hs : s.fits) : Ent Try.prog 6 [.d (schemaD s)] [] (.d (.s (schBytes s))) [] := by
  obtain ⟨o, ho⟩ : ∃ o, o = schBytes s := ⟨_, rfl⟩
  rw [← ho]
  have c1 := specSchemaRight s hs
  cases hok : dec (schemaP s) with
  | false =>
    rw [hok] at c1
    rw [schBytes_bad hok] at ho
    refine ent_of tok mixed (f := 6) Try.func6 (by kernel_rfl) (keep := false) ?_
    repeat' ((conv => whnf) <;> (first | ((with_reducible refine isCall ?_) <;> (first | (refine ⟨_, c1, ?_⟩; rintro _ _ ⟨rfl, rfl⟩) | fail)) | ((with_reducible refine isCut ?_) <;> (first | refine ⟨⟨none⟩, ?_⟩)) | ((first | with_reducible refine isEx ?_ | with_reducible refine isAnd ?_ | with_reducible refine isOr ?_) <;> (first | ((with_reducible refine isSmall ?_) <;> (refine ⟨?_, ?_⟩; kernel_rfl)) | refine ⟨rfl, ?_⟩ | refine ⟨Int.natCast_nonneg _, ?_⟩)) | with_reducible refine Both.mk ?_ ?_ | rintro _ rfl | exact rfl | (split <;> (rename_i h; first | (simp only [beq_self_eq_true, eq_self, decide_true, Bool.not_true, Bool.false_eq_true] at h; done) | (try rw [h])))))
    all_goals (conv => whnf)
    all_goals (rw [ho]; exact ⟨rfl, rfl⟩)
  | true =>
    rw [hok] at c1
    rw [schBytes_ok hok] at ho
    have hP := of_dec hok
    have hp := sch_put hP
    have hc0 := hp.cols.1
    have hi0 := hp.idxs.1
    have hcm : s.cols.length ≤ maxLen := hs.cols
    have him : s.idxs.length ≤ maxLen := hs.idxs
    have c2 := specPutText s.name hs.name
    have c3 : Ent Try.prog 26 [.d (.i .i64 ((s.cols.map colD).length : Int))] [] (.d (.s (putNum s.cols.length))) [] := by
      rw [List.length_map]; exact specPutNum (s.cols.length : Int) (by omega) (by omega)
    have c4 : Ent Try.prog 26 [.d (.i .i64 ((s.idxs.map idxD).length : Int))] [] (.d (.s (putNum s.idxs.length))) [] := by
      rw [List.length_map]; exact specPutNum (s.idxs.length : Int) (by omega) (by omega)
    have c5 := specNums s.keys hp.keys
    have h1 := putText_len s.name
    have h2 := putNum_len (s.cols.length : Int)
    have h3 := putNum_len (s.idxs.length : Int)
    have h4 := listB_len s.keys
    have h5 := hp.keys.1
    have h6 := schH_len hP
    have h7 := schM_len hP
    refine ent_of tok mixed (f := 6) Try.func6 (by kernel_rfl) (keep := false) ?_
    repeat' ((conv => whnf) <;> (first | ((with_reducible refine isCall ?_) <;> (first | (refine ⟨_, c1, ?_⟩; rintro _ _ ⟨rfl, rfl⟩) | (refine ⟨_, c2, ?_⟩; rintro _ _ ⟨rfl, rfl⟩) | (refine ⟨_, c3, ?_⟩; rintro _ _ ⟨rfl, rfl⟩) | (refine ⟨_, c4, ?_⟩; rintro _ _ ⟨rfl, rfl⟩) | (refine ⟨_, c5, ?_⟩; rintro _ _ ⟨rfl, rfl⟩) | (refine ⟨_, specPutText c.name hf.name, ?_⟩; rintro _ _ ⟨rfl, rfl⟩) | (refine ⟨_, specPutNum c.kind hf.lo hf.hi, ?_⟩; rintro _ _ ⟨rfl, rfl⟩) | (refine ⟨_, specBool c.uniq, ?_⟩; rintro _ _ ⟨rfl, rfl⟩) | (refine ⟨_, specNums i.cols hf2.put, ?_⟩; rintro _ _ ⟨rfl, rfl⟩) | (refine ⟨_, specBool i.uniq, ?_⟩; rintro _ _ ⟨rfl, rfl⟩) | (have e1 := acc_all hacc (by assumption); have q8 : (acc ++ schM s).length ≤ 1000 := (by rw [List.length_append]; omega); refine ⟨[1, 3, 5], [10001], fun st => ∃ (k : Nat) (n : Int) (a2 : List UInt8), n = k ∧ a2 = (acc ++ schM s) ++ (s.idxs.take k).flatMap idxB ∧ st = ⟨[(1, .ptr 10001 0), (3, .d (.s a2)), (5, .d (.i .i64 n))], [(10001, .var (schC s))]⟩, fun s' => match look 5 s'.env with | some (.d (.i _ n)) => s.idxs.length - n.toNat | _ => 0, rfl, ⟨0, _, _, rfl, mid_join.trans (acc_zero (acc ++ schM s) idxB s.idxs), rfl⟩, ?_⟩; rintro st ⟨k2, n2, a2, rfl, hacc2, rfl⟩; have q9 := acc_len hacc2 q8 fun i hi => (idx_fact hP hi).len) | refine ⟨_, get_map' hc, ?_⟩ | refine ⟨_, get_map' hi, ?_⟩ | (refine ⟨(by (try simp only [List.length_append]); omega), ?_⟩) | exact ⟨⟨k + 1, _, _, step_up (get_lt hc) hcm, col_join.trans (acc_next hacc hc), rfl⟩, mu_up (get_lt hc) hcm⟩ | exact ⟨⟨k2 + 1, _, _, step_up (get_lt hi) him, idx_join.trans (acc_next hacc2 hi), rfl⟩, mu_up (get_lt hi) him⟩ | fail)) | ((with_reducible refine isLoop ?_) <;> (first | (refine ⟨[1, 3, 4], [10001], fun st => ∃ (k : Nat) (n : Int) (acc : List UInt8), n = k ∧ acc = schH s ++ (s.cols.take k).flatMap colB ∧ st = ⟨[(1, .ptr 10001 0), (3, .d (.s acc)), (4, .d (.i .i64 n))], [(10001, .var (schC s))]⟩, fun s' => match look 4 s'.env with | some (.d (.i _ n)) => s.cols.length - n.toNat | _ => 0, rfl, ⟨0, _, _, rfl, acc_zero (schH s) colB s.cols, rfl⟩, ?_⟩; rintro st ⟨k, n, acc, rfl, hacc, rfl⟩; have q7 := acc_len hacc h6 fun c hc => (col_fact hP hc).len) | (have e1 := acc_all hacc (by assumption); have q8 : (acc ++ schM s).length ≤ 1000 := (by rw [List.length_append]; omega); refine ⟨[1, 3, 5], [10001], fun st => ∃ (k : Nat) (n : Int) (a2 : List UInt8), n = k ∧ a2 = (acc ++ schM s) ++ (s.idxs.take k).flatMap idxB ∧ st = ⟨[(1, .ptr 10001 0), (3, .d (.s a2)), (5, .d (.i .i64 n))], [(10001, .var (schC s))]⟩, fun s' => match look 5 s'.env with | some (.d (.i _ n)) => s.idxs.length - n.toNat | _ => 0, rfl, ⟨0, _, _, rfl, mid_join.trans (acc_zero (acc ++ schM s) idxB s.idxs), rfl⟩, ?_⟩; rintro st ⟨k2, n2, a2, rfl, hacc2, rfl⟩; have q9 := acc_len hacc2 q8 fun i hi => (idx_fact hP hi).len) | (have e1 := acc_all hacc (by assumption); have q8 : (acc ++ schM s).length ≤ 1000 := (by rw [List.length_append]; omega); refine ⟨[1, 3, 5], [10001], fun st => ∃ (k : Nat) (n : Int) (a2 : List UInt8), n = k ∧ a2 = (acc ++ schM s) ++ (s.idxs.take k).flatMap idxB ∧ st = ⟨[(1, .ptr 10001 0), (3, .d (.s a2)), (5, .d (.i .i64 n))], [(10001, .var (schC s))]⟩, fun s' => match look 5 s'.env with | some (.d (.i _ n)) => s.idxs.length - n.toNat | _ => 0, rfl, ⟨0, _, _, rfl, mid_join.trans (acc_zero (acc ++ schM s) idxB s.idxs), rfl⟩, ?_⟩; rintro st ⟨k2, n2, a2, rfl, hacc2, rfl⟩; have q9 := acc_len hacc2 q8 fun i hi => (idx_fact hP hi).len) | refine ⟨_, get_map' hc, ?_⟩ | refine ⟨_, get_map' hi, ?_⟩ | (refine ⟨(by (try simp only [List.length_append]); omega), ?_⟩) | exact ⟨⟨k + 1, _, _, step_up (get_lt hc) hcm, col_join.trans (acc_next hacc hc), rfl⟩, mu_up (get_lt hc) hcm⟩ | exact ⟨⟨k2 + 1, _, _, step_up (get_lt hi) him, idx_join.trans (acc_next hacc2 hi), rfl⟩, mu_up (get_lt hi) him⟩ | fail)) | ((with_reducible refine isCut ?_) <;> (first | refine ⟨⟨none⟩, ?_⟩)) | ((first | with_reducible refine isEx ?_ | with_reducible refine isAnd ?_ | with_reducible refine isOr ?_) <;> (first | (have e1 := acc_all hacc (by assumption); have q8 : (acc ++ schM s).length ≤ 1000 := (by rw [List.length_append]; omega); refine ⟨[1, 3, 5], [10001], fun st => ∃ (k : Nat) (n : Int) (a2 : List UInt8), n = k ∧ a2 = (acc ++ schM s) ++ (s.idxs.take k).flatMap idxB ∧ st = ⟨[(1, .ptr 10001 0), (3, .d (.s a2)), (5, .d (.i .i64 n))], [(10001, .var (schC s))]⟩, fun s' => match look 5 s'.env with | some (.d (.i _ n)) => s.idxs.length - n.toNat | _ => 0, rfl, ⟨0, _, _, rfl, mid_join.trans (acc_zero (acc ++ schM s) idxB s.idxs), rfl⟩, ?_⟩; rintro st ⟨k2, n2, a2, rfl, hacc2, rfl⟩; have q9 := acc_len hacc2 q8 fun i hi => (idx_fact hP hi).len) | refine ⟨_, get_map' hc, ?_⟩ | refine ⟨_, get_map' hi, ?_⟩ | ((with_reducible refine isGet (xs := s.idxs.map idxD) (i := ((k2 : Nat) : Int).toNat) ?_); obtain ⟨i, hi⟩ := get_ex (ss := s.idxs) (k := k2) (lt_of_dec (by assumption)); have hf2 := idx_fact hP (get_mem hi); have q1 := hf2.l; have q2 := hf2.b; refine ⟨_, get_map' hi, ?_⟩) | ((with_reducible refine isGet (xs := s.cols.map colD) (i := ((k : Nat) : Int).toNat) ?_); obtain ⟨c, hc⟩ := get_ex (ss := s.cols) (k := k) (lt_of_dec (by assumption)); have hf := col_fact hP (get_mem hc); have q1 := hf.t; have q2 := hf.n; have q3 := hf.b; refine ⟨_, get_map' hc, ?_⟩) | (refine ⟨(by (try simp only [List.length_append]); omega), ?_⟩) | exact ⟨⟨k + 1, _, _, step_up (get_lt hc) hcm, col_join.trans (acc_next hacc hc), rfl⟩, mu_up (get_lt hc) hcm⟩ | exact ⟨⟨k2 + 1, _, _, step_up (get_lt hi) him, idx_join.trans (acc_next hacc2 hi), rfl⟩, mu_up (get_lt hi) him⟩ | ((with_reducible refine isSmall ?_) <;> (refine ⟨?_, ?_⟩; kernel_rfl)) | refine ⟨rfl, ?_⟩ | refine ⟨Int.natCast_nonneg _, ?_⟩)) | with_reducible refine Both.mk ?_ ?_ | rintro _ rfl | exact rfl | (split <;> (rename_i h; first | (simp only [beq_self_eq_true, eq_self, decide_true, Bool.not_true, Bool.false_eq_true] at h; done) | (try rw [h])))))
    all_goals (conv => whnf)
    all_goals (refine ⟨congrArg (fun t => AV.d (D.s t)) ?_, rfl⟩)
    all_goals (rw [ho]; exact schB_fin e1 (acc_all hacc2 h))
set_option maxHeartbeats 4000000 in
theorem implSchemaBytes (s : Schema) (hs : s.fits) : Ent Try.prog 5 [.d (schemaD s)] [] (.d (.s (schBytes s))) [] := by
  obtain ⟨o, ho⟩ : ∃ o, o = schBytes s := ⟨_, rfl⟩
  rw [← ho]
  have c1 := implSchemaRight s hs
  cases hok : dec (schemaP s) with
  | false =>
    rw [hok] at c1
    rw [schBytes_bad hok] at ho
    refine ent_of tok mixed (f := 5) Try.func5 (by kernel_rfl) (keep := false) ?_
    repeat' ((conv => whnf) <;> (first | ((with_reducible refine isCall ?_) <;> (first | (refine ⟨_, c1, ?_⟩; rintro _ _ ⟨rfl, rfl⟩) | fail)) | ((with_reducible refine isCut ?_) <;> (first | refine ⟨⟨none⟩, ?_⟩)) | ((first | with_reducible refine isEx ?_ | with_reducible refine isAnd ?_ | with_reducible refine isOr ?_) <;> (first | ((with_reducible refine isSmall ?_) <;> (refine ⟨?_, ?_⟩; kernel_rfl)) | refine ⟨rfl, ?_⟩ | refine ⟨Int.natCast_nonneg _, ?_⟩)) | with_reducible refine Both.mk ?_ ?_ | rintro _ rfl | exact rfl | (split <;> (rename_i h; first | (simp only [beq_self_eq_true, eq_self, decide_true, Bool.not_true, Bool.false_eq_true] at h; done) | (try rw [h])))))
    all_goals (conv => whnf)
    all_goals (rw [ho]; exact ⟨rfl, rfl⟩)
  | true =>
    rw [hok] at c1
    rw [schBytes_ok hok] at ho
    have hP := of_dec hok
    have hp := sch_put hP
    have hc0 := hp.cols.1
    have hi0 := hp.idxs.1
    have hcm : s.cols.length ≤ maxLen := hs.cols
    have him : s.idxs.length ≤ maxLen := hs.idxs
    have c2 := implPutText s.name hs.name
    have c3 : Ent Try.prog 20 [.d (.i .i64 ((s.cols.map colD).length : Int))] [] (.d (.s (putNum s.cols.length))) [] := by
      rw [List.length_map]; exact implPutNum (s.cols.length : Int) (by omega) (by omega)
    have c4 : Ent Try.prog 20 [.d (.i .i64 ((s.idxs.map idxD).length : Int))] [] (.d (.s (putNum s.idxs.length))) [] := by
      rw [List.length_map]; exact implPutNum (s.idxs.length : Int) (by omega) (by omega)
    have c5 := implPutList s.keys hp.keys
    have h1 := putText_len s.name
    have h2 := putNum_len (s.cols.length : Int)
    have h3 := putNum_len (s.idxs.length : Int)
    have h4 := listB_len s.keys
    have h5 := hp.keys.1
    have h6 := schH_len hP
    have h7 := schM_len hP
    refine ent_of tok mixed (f := 5) Try.func5 (by kernel_rfl) (keep := false) ?_
    repeat' ((conv => whnf) <;> (first | ((with_reducible refine isCall ?_) <;> (first | (refine ⟨_, c1, ?_⟩; rintro _ _ ⟨rfl, rfl⟩) | (refine ⟨_, c2, ?_⟩; rintro _ _ ⟨rfl, rfl⟩) | (refine ⟨_, c3, ?_⟩; rintro _ _ ⟨rfl, rfl⟩) | (refine ⟨_, c4, ?_⟩; rintro _ _ ⟨rfl, rfl⟩) | (refine ⟨_, c5, ?_⟩; rintro _ _ ⟨rfl, rfl⟩) | (refine ⟨_, implPutText c.name hf.name, ?_⟩; rintro _ _ ⟨rfl, rfl⟩) | (refine ⟨_, implPutNum c.kind hf.lo hf.hi, ?_⟩; rintro _ _ ⟨rfl, rfl⟩) | (refine ⟨_, implBit c.uniq, ?_⟩; rintro _ _ ⟨rfl, rfl⟩) | (refine ⟨_, implPutList i.cols hf2.put, ?_⟩; rintro _ _ ⟨rfl, rfl⟩) | (refine ⟨_, implBit i.uniq, ?_⟩; rintro _ _ ⟨rfl, rfl⟩) | (refine ⟨_, writeString [] _ (by (try simp only [List.length_append, List.length_nil]); omega), ?_⟩; rintro _ _ ⟨rfl, rfl⟩) | (refine ⟨_, writeString a2 _ (by (try simp only [List.length_append]); omega), ?_⟩; rintro _ _ ⟨rfl, rfl⟩) | (refine ⟨_, writeString acc _ (by (try simp only [List.length_append]); omega), ?_⟩; rintro _ _ ⟨rfl, rfl⟩) | (refine ⟨_, builderString a2 (sch_ne (schB_fin e1 (acc_all hacc2 (by assumption)))), ?_⟩; rintro _ _ ⟨rfl, rfl⟩) | (have e1 := acc_all hacc (by assumption); have q8 : (acc ++ schM s).length ≤ 1000 := (by rw [List.length_append]; omega); refine ⟨[3, 50, 51, 52], [10003], fun st => ∃ (k : Nat) (n : Int) (a2 : List UInt8), n = k ∧ a2 = (acc ++ schM s) ++ (s.idxs.take k).flatMap idxB ∧ st = ⟨[(3, .ptr 10003 0), (50, .d (.sl false (s.idxs.map idxD))), (51, .d (.i .i64 ((s.idxs.map idxD).length : Int))), (52, .d (.i .i64 n))], [(10003, .bld 47 5 a2)]⟩, fun s' => match look 52 s'.env with | some (.d (.i _ n)) => s.idxs.length - n.toNat | _ => 0, rfl, ⟨0, _, _, rfl, acc_zero (acc ++ schM s) idxB s.idxs, rfl⟩, ?_⟩; rintro st ⟨k2, n2, a2, rfl, hacc2, rfl⟩; have q9 := acc_len hacc2 q8 fun i hi => (idx_fact hP hi).len) | refine ⟨_, get_map' hc, ?_⟩ | refine ⟨_, get_map' hi, ?_⟩ | (refine ⟨(by (try simp only [List.length_append]); omega), ?_⟩) | exact ⟨⟨k + 1, _, _, step_up (get_lt hc) hcm, acc_next hacc hc, rfl⟩, mu_up (get_lt hc) hcm⟩ | exact ⟨⟨k2 + 1, _, _, step_up (get_lt hi) him, acc_next hacc2 hi, rfl⟩, mu_up (get_lt hi) him⟩ | fail)) | ((with_reducible refine isLoop ?_) <;> (first | (refine ⟨[1, 3, 21, 22, 23], [10001, 10003], fun st => ∃ (k : Nat) (n : Int) (acc : List UInt8), n = k ∧ acc = schH s ++ (s.cols.take k).flatMap colB ∧ st = ⟨[(1, .ptr 10001 0), (3, .ptr 10003 0), (21, .d (.sl false (s.cols.map colD))), (22, .d (.i .i64 ((s.cols.map colD).length : Int))), (23, .d (.i .i64 n))], [(10001, .var (schC s)), (10003, .bld 47 5 acc)]⟩, fun s' => match look 23 s'.env with | some (.d (.i _ n)) => s.cols.length - n.toNat | _ => 0, rfl, ⟨0, _, _, rfl, acc_zero (schH s) colB s.cols, rfl⟩, ?_⟩; rintro st ⟨k, n, acc, rfl, hacc, rfl⟩; have q7 := acc_len hacc h6 fun c hc => (col_fact hP hc).len) | (have e1 := acc_all hacc (by assumption); have q8 : (acc ++ schM s).length ≤ 1000 := (by rw [List.length_append]; omega); refine ⟨[3, 50, 51, 52], [10003], fun st => ∃ (k : Nat) (n : Int) (a2 : List UInt8), n = k ∧ a2 = (acc ++ schM s) ++ (s.idxs.take k).flatMap idxB ∧ st = ⟨[(3, .ptr 10003 0), (50, .d (.sl false (s.idxs.map idxD))), (51, .d (.i .i64 ((s.idxs.map idxD).length : Int))), (52, .d (.i .i64 n))], [(10003, .bld 47 5 a2)]⟩, fun s' => match look 52 s'.env with | some (.d (.i _ n)) => s.idxs.length - n.toNat | _ => 0, rfl, ⟨0, _, _, rfl, acc_zero (acc ++ schM s) idxB s.idxs, rfl⟩, ?_⟩; rintro st ⟨k2, n2, a2, rfl, hacc2, rfl⟩; have q9 := acc_len hacc2 q8 fun i hi => (idx_fact hP hi).len) | (have e1 := acc_all hacc (by assumption); have q8 : (acc ++ schM s).length ≤ 1000 := (by rw [List.length_append]; omega); refine ⟨[3, 50, 51, 52], [10003], fun st => ∃ (k : Nat) (n : Int) (a2 : List UInt8), n = k ∧ a2 = (acc ++ schM s) ++ (s.idxs.take k).flatMap idxB ∧ st = ⟨[(3, .ptr 10003 0), (50, .d (.sl false (s.idxs.map idxD))), (51, .d (.i .i64 ((s.idxs.map idxD).length : Int))), (52, .d (.i .i64 n))], [(10003, .bld 47 5 a2)]⟩, fun s' => match look 52 s'.env with | some (.d (.i _ n)) => s.idxs.length - n.toNat | _ => 0, rfl, ⟨0, _, _, rfl, acc_zero (acc ++ schM s) idxB s.idxs, rfl⟩, ?_⟩; rintro st ⟨k2, n2, a2, rfl, hacc2, rfl⟩; have q9 := acc_len hacc2 q8 fun i hi => (idx_fact hP hi).len) | refine ⟨_, get_map' hc, ?_⟩ | refine ⟨_, get_map' hi, ?_⟩ | (refine ⟨(by (try simp only [List.length_append]); omega), ?_⟩) | exact ⟨⟨k + 1, _, _, step_up (get_lt hc) hcm, acc_next hacc hc, rfl⟩, mu_up (get_lt hc) hcm⟩ | exact ⟨⟨k2 + 1, _, _, step_up (get_lt hi) him, acc_next hacc2 hi, rfl⟩, mu_up (get_lt hi) him⟩ | fail)) | ((with_reducible refine isCut ?_) <;> (first | refine ⟨⟨none⟩, ?_⟩)) | ((first | with_reducible refine isEx ?_ | with_reducible refine isAnd ?_ | with_reducible refine isOr ?_) <;> (first | (have e1 := acc_all hacc (by assumption); have q8 : (acc ++ schM s).length ≤ 1000 := (by rw [List.length_append]; omega); refine ⟨[3, 50, 51, 52], [10003], fun st => ∃ (k : Nat) (n : Int) (a2 : List UInt8), n = k ∧ a2 = (acc ++ schM s) ++ (s.idxs.take k).flatMap idxB ∧ st = ⟨[(3, .ptr 10003 0), (50, .d (.sl false (s.idxs.map idxD))), (51, .d (.i .i64 ((s.idxs.map idxD).length : Int))), (52, .d (.i .i64 n))], [(10003, .bld 47 5 a2)]⟩, fun s' => match look 52 s'.env with | some (.d (.i _ n)) => s.idxs.length - n.toNat | _ => 0, rfl, ⟨0, _, _, rfl, acc_zero (acc ++ schM s) idxB s.idxs, rfl⟩, ?_⟩; rintro st ⟨k2, n2, a2, rfl, hacc2, rfl⟩; have q9 := acc_len hacc2 q8 fun i hi => (idx_fact hP hi).len) | refine ⟨_, get_map' hc, ?_⟩ | refine ⟨_, get_map' hi, ?_⟩ | ((with_reducible refine isGet (xs := s.idxs.map idxD) (i := ((k2 : Nat) : Int).toNat) ?_); obtain ⟨i, hi⟩ := get_ex (ss := s.idxs) (k := k2) (lt_of_dec (by assumption)); have hf2 := idx_fact hP (get_mem hi); have q1 := hf2.l; have q2 := hf2.b; refine ⟨_, get_map' hi, ?_⟩) | ((with_reducible refine isGet (xs := s.cols.map colD) (i := ((k : Nat) : Int).toNat) ?_); obtain ⟨c, hc⟩ := get_ex (ss := s.cols) (k := k) (lt_of_dec (by assumption)); have hf := col_fact hP (get_mem hc); have q1 := hf.t; have q2 := hf.n; have q3 := hf.b; refine ⟨_, get_map' hc, ?_⟩) | (refine ⟨(by (try simp only [List.length_append]); omega), ?_⟩) | exact ⟨⟨k + 1, _, _, step_up (get_lt hc) hcm, acc_next hacc hc, rfl⟩, mu_up (get_lt hc) hcm⟩ | exact ⟨⟨k2 + 1, _, _, step_up (get_lt hi) him, acc_next hacc2 hi, rfl⟩, mu_up (get_lt hi) him⟩ | ((with_reducible refine isSmall ?_) <;> (refine ⟨?_, ?_⟩; kernel_rfl)) | refine ⟨rfl, ?_⟩ | refine ⟨Int.natCast_nonneg _, ?_⟩)) | with_reducible refine Both.mk ?_ ?_ | rintro _ rfl | exact rfl | (split <;> (rename_i h; first | (simp only [beq_self_eq_true, eq_self, decide_true, Bool.not_true, Bool.false_eq_true] at h; done) | (try rw [h])))))
    all_goals (conv => whnf)
    all_goals (refine ⟨congrArg (fun t => AV.d (D.s t)) ?_, rfl⟩)
    all_goals (rw [ho]; exact schB_fin e1 (acc_all hacc2 h))
end Go.Pm.Try
