import Derived.Test.YtbenanocioeglaaNi
namespace Go.Pm.Try
open Go Go.Proofs
set_option linter.unusedVariables false
set_option linter.unusedSimpArgs false
set_option maxRecDepth 100000
/-! Marks, told. -/
def digit (m : Int) : UInt8 := byteOf (IntKind.i64.wrap (48 + m.tmod 10))
def digs : Nat → Int → List UInt8
  | 0, _ => []
  | f + 1, m => if m > 0 then digs f (m / 10) ++ [digit m] else []
def markTextM (n : Int) : List UInt8 := if n ≤ 0 then [109, 48] else 109 :: digs n.toNat n
theorem digs_no : ∀ {f : Nat} {m : Int}, ¬ m > 0 → digs f m = []
  | 0, m, _ => rfl
  | f + 1, m, h => by rw [digs, if_neg h]
theorem digs_up {f : Nat} {m : Int} (h : m > 0) (hf : m.toNat ≤ f) : digs f m = digs (f - 1) (m / 10) ++ [digit m] := by
  obtain ⟨g, rfl⟩ : ∃ g, f = g + 1 := ⟨f - 1, by omega⟩
  rw [digs, if_pos h, Nat.add_sub_cancel]
theorem markTextD (n : Int) (hn : n ≤ 1000000000000) : Ent Try.prog 120 [.d (.i .i64 n)] [] (.d (.s (markTextM n))) [] := by
  obtain ⟨o, ho⟩ : ∃ o, o = markTextM n := ⟨_, rfl⟩
  rw [← ho]
  unfold markTextM at ho
  refine ent_of tok mixed (f := 120) Try.func120 (by kernel_rfl) (keep := false) ?_
  repeat' ((conv => whnf) <;> (first
    | (refine ⟨[0, 3], [], fun s => ∃ (m : Int) (l : List UInt8) (f : Nat), m ≤ 1000000000000 ∧ l.length + m.toNat ≤ n.toNat ∧ m.toNat ≤ f ∧ digs n.toNat n = digs f m ++ l ∧ s = ⟨[(0, .d (.i .i64 m)), (3, .d (.s l))], []⟩, fun s => match look 0 s.env with | some (.d (.i _ m)) => m.toNat | _ => 0, rfl, ⟨n, [], n.toNat, hn, by simp, Nat.le_refl _, (List.append_nil _).symm, rfl⟩, ?_⟩; rintro s ⟨m, l, f, hm, hl, hf, hd, rfl⟩)
    | refine ⟨_, u8s_byte _, ?_⟩
    | refine ⟨(by decide : (10 : Int) ≠ 0), ?_⟩
    | refine ⟨cat_ok hl hn, ?_⟩
    | refine ⟨⟨none⟩, ?_⟩
    | refine Both.mk ?_ ?_
    | rintro _ rfl
    | refine ⟨rfl, ?_⟩
    | exact rfl
    | refine ⟨Int.natCast_nonneg _, ?_⟩
    | (split <;> (rename_i h; first | (simp only [beq_self_eq_true, eq_self, decide_true, Bool.not_true, Bool.false_eq_true] at h; done) | (try rw [h])))))
  all_goals (conv => whnf)
  · rw [if_pos (of_decide_eq_true h)] at ho
    rw [ho]; exact ⟨rfl, rfl⟩
  · have e := div10 h hm
    have h := of_decide_eq_true h
    refine ⟨⟨_, _, f - 1, ?_, ?_, ?_, ?_, rfl⟩, ?_⟩
    · rw [e]; omega
    · rw [e]; simp only [List.cons_append, List.nil_append, List.length_cons]; omega
    · rw [e]; omega
    · rw [hd, digs_up h hf, e, List.append_assoc]; rfl
    · show (IntKind.i64.wrap (m.tdiv 10)).toNat < m.toNat
      rw [e]; omega
  · rename_i h0 _
    rw [if_neg (of_decide_eq_false h0)] at ho
    rw [digs_no (of_decide_eq_false h), List.nil_append] at hd
    rw [ho, hd]; exact ⟨rfl, rfl⟩
end Go.Pm.Try
