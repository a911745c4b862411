/-
A walk of Go's code over values: arguments, as a law's reader finds them.
-/
import Derived.Test.YtjjnmkhcdbmhoaaPmO
import Derived.ChangeArms
import Derived.Deep.Slices
import Derived.WideShapes
namespace Go.Pm
open Go Go.ChangeShapes Go.WideShapes
set_option linter.unusedVariables false

/-- What a type's data look like. -/
inductive Sh where
  | bool | int (k : IntKind) | str
  | sl (e : Sh)
  | agg (fs : List Sh)
def Sh.cells : Sh → List Sh
  | .agg fs => fs
  | x => [x]
def Sh.one : Sh → Bool
  | .agg _ => false
  | _ => true
mutual
def Sh.of : Sh → D → Prop
  | .bool, x => ∃ t, x = .b t
  | .int k, x => ∃ n, x = .i k n ∧ k.min ≤ n ∧ n ≤ k.max
  | .str, x => ∃ l, x = .s l ∧ l.length ≤ maxLen
  | .sl e, x => ∃ xs, x = .sl false xs ∧ (∀ y, y ∈ xs → e.of y) ∧ xs.length ≤ maxLen
  | .agg fs, x => ∃ cs, x = .agg cs ∧ ofL fs cs
def ofL : List Sh → List D → Prop
  | [], l => l = []
  | f :: fs, l => ∃ x r, l = x :: r ∧ f.of x ∧ ofL fs r
end
def shFields (P : Program) (f : TypeId → Option Sh) : List Field → Nat → Option (List Sh)
  | [], _ => some []
  | x :: r, off => if x.offset = off then (f x.type).bind fun s => if s.cells.length = P.cellsOf x.type ∧ s.cells.all Sh.one = true then (shFields P f r (off + P.cellsOf x.type)).map fun l => s.cells ++ l else none else none
def shOf (P : Program) : Nat → TypeId → Option Sh
  | 0, _ => none
  | n + 1, t => match P.underlying t with
    | some .bool => some .bool
    | some (.int k) => some (.int k)
    | some .string => some .str
    | some (.slice e) => (shOf P n e).bind fun s => if s.cells.length = P.cellsOf e ∧ 0 < P.cellsOf e ∧ s.cells.all Sh.one = true then some (.sl s) else none
    | some (.struct fs) => (shFields P (shOf P n) fs.toList 0).bind fun l => if l.length = P.cellsOf t then some (.agg l) else none
    | _ => none

theorem ofL_append : ∀ {a b : List Sh} {x y : List D}, ofL a x → ofL b y → ofL (a ++ b) (x ++ y)
  | [], b, x, y, h1, h2 => by simp only [ofL] at h1; subst h1; exact h2
  | f :: a, b, x, y, h1, h2 => by
    simp only [ofL] at h1
    obtain ⟨u, r, rfl, h3, h4⟩ := h1
    simp only [List.cons_append, ofL]
    exact ⟨u, r ++ y, rfl, h3, ofL_append h4 h2⟩
theorem repL_app {w : World} {X : Nat → Prop} : ∀ {xs ys : List D} {us vs : List Value}, repL w X xs us [] → repL w X ys vs [] → repL w X (xs ++ ys) (us ++ vs) []
  | [], ys, us, vs, h1, h2 => by simp only [repL] at h1; rw [h1.1]; exact h2
  | x :: xs, ys, us, vs, h1, h2 => by
    simp only [repL] at h1
    obtain ⟨u, us', b1, b2, rfl, hb, h3, h4⟩ := h1
    obtain ⟨rfl, rfl⟩ := List.append_eq_nil_iff.1 hb.symm
    simp only [List.cons_append, repL]
    exact ⟨u, us' ++ vs, [], [], rfl, rfl, h3, repL_app h4 h2⟩
theorem ofL_len : ∀ {a : List Sh} {x : List D}, ofL a x → x.length = a.length
  | [], x, h => by simp only [ofL] at h; subst h; rfl
  | f :: a, x, h => by
    simp only [ofL] at h
    obtain ⟨u, r, rfl, _, h4⟩ := h
    simp [ofL_len h4]

theorem rows_of {w : World} {X : Nat → Prop} {b sz : Nat} {e : Sh} : ∀ {n off : Nat},
    (∀ i, i < n → ∃ x v, e.of x ∧ x.rep w X v [] ∧ v.cells.size = sz ∧ x.cells.length = sz ∧ (∀ u ∈ v.cells.toList, u.oneCell' = true) ∧ w.rangeAt b (off + i * sz) v.cells.toList) →
    ∃ xs : List D, xs.length = n ∧ (∀ y, y ∈ xs → e.of y) ∧ repRows w X b sz xs off []
  | 0, off, h => ⟨[], rfl, fun y hy => (by cases hy), by simp [repRows]⟩
  | n + 1, off, h => by
    obtain ⟨x, v, h1, h2, h3, h4, h5, h6⟩ := h 0 (Nat.succ_pos n)
    obtain ⟨xs, g1, g2, g3⟩ := rows_of (w := w) (X := X) (b := b) (sz := sz) (e := e) (n := n) (off := off + sz) (fun i hi => by
      obtain ⟨x, v, h1, h2, h3, h4, h5, h6⟩ := h (i + 1) (by omega)
      refine ⟨x, v, h1, h2, h3, h4, h5, ?_⟩
      rwa [show off + sz + i * sz = off + (i + 1) * sz by rw [Nat.add_mul, Nat.one_mul]; omega])
    refine ⟨x :: xs, by simp [g1], fun y hy => ?_, ?_⟩
    · rcases List.mem_cons.1 hy with rfl | hy
      · exact h1
      · exact g2 y hy
    · simp only [repRows]
      exact ⟨v, [], [], rfl, h2, h3, ⟨h4, h5⟩, by simpa using h6, g3⟩

section
variable {H : Type} {enc : TypeId × Value → H} {P : Program} {w : World} {base : Nat} {spare : Nat → Bool} {held : Bool} {X : Nat → Prop}

theorem one_value {s : Sh} {xs : List D} {cs : List Value} (h1 : s.one = true) (ho : ofL s.cells xs) (hr : repL w X xs cs []) : ∃ x u, xs = [x] ∧ cs = [u] ∧ s.of x ∧ x.rep w X u [] := by
  have hc : s.cells = [s] := by cases s <;> first | rfl | cases h1
  rw [hc] at ho
  simp only [ofL] at ho
  obtain ⟨x, r, rfl, h3, rfl⟩ := ho
  simp only [repL] at hr
  obtain ⟨u, us, b1, b2, rfl, hb, h4, rfl, rfl⟩ := hr
  obtain ⟨rfl, _⟩ := List.append_eq_nil_iff.1 hb.symm
  exact ⟨x, u, rfl, rfl, h3, h4⟩

theorem fields_rep (f : TypeId → Option Sh) (cs : List Value) (m : Nat)
    (hf : ∀ t s cs' d, f t = some s → DataW.trod enc P w base spare held m t cs' = some d → ∃ xs, ofL s.cells xs ∧ repL w X xs cs' [] ∧ ∀ u ∈ cs', u.oneCell' = true) :
    ∀ (fs : List Field) (off : Nat) (l : List Sh), shFields P f fs off = some l →
      (∀ (j : Nat) (x : Field), fs[j]? = some x → ∃ d, DataW.trod enc P w base spare held m x.type ((cs.drop x.offset).take (P.cellsOf x.type)) = some d) →
      off + l.length = cs.length → ∃ xs, ofL l xs ∧ repL w X xs (cs.drop off) [] ∧ ∀ u ∈ cs.drop off, u.oneCell' = true
  | [], off, l, h, _, hl => by
    cases h
    have : cs.drop off = [] := List.drop_eq_nil_of_le (by simp at hl; omega)
    rw [this]
    exact ⟨[], by simp [ofL], by simp [repL], by simp⟩
  | x :: fs, off, l, h, hd, hl => by
    simp only [shFields] at h
    split at h
    case isFalse => cases h
    rename_i ho
    cases hs : f x.type with
    | none => rw [hs] at h; cases h
    | some s =>
      rw [hs] at h
      simp only [Option.bind_some] at h
      split at h
      case isFalse => cases h
      rename_i hcl
      cases hr : shFields P f fs (off + P.cellsOf x.type) with
      | none => rw [hr] at h; cases h
      | some l' =>
        rw [hr] at h
        cases h
        obtain ⟨d, hdd⟩ := hd 0 x rfl
        rw [ho] at hdd
        obtain ⟨xs1, h1, h2, h3⟩ := hf _ _ _ _ hs hdd
        obtain ⟨xs2, g1, g2, g3⟩ := fields_rep f cs m hf fs _ l' hr (fun j y hj => hd (j + 1) y (by simpa using hj)) (by rw [← hcl.1]; simp only [List.length_append] at hl; omega)
        have hsplit : cs.drop off = (cs.drop off).take (P.cellsOf x.type) ++ cs.drop (off + P.cellsOf x.type) := by
          rw [← List.drop_drop]; exact (List.take_append_drop _ _).symm
        refine ⟨xs1 ++ xs2, ofL_append h1 g1, ?_, ?_⟩
        · rw [hsplit]; exact repL_app h2 g2
        · rw [hsplit]
          intro u hu
          rcases List.mem_append.1 hu with hu | hu
          · exact h3 u hu
          · exact g3 u hu

theorem typed_rep (hX : ∀ b, ¬ X b) : ∀ (n : Nat) (t : TypeId) (s : Sh) (fuel : Nat) (cs : List Value) (d : DataW H × List MemPlace), shOf P n t = some s → DataW.trod enc P w base spare held fuel t cs = some d →
    ∃ xs, ofL s.cells xs ∧ repL w X xs cs [] ∧ ∀ u ∈ cs, u.oneCell' = true
  | 0, t, s, fuel, cs, d, h, _ => by cases h
  | n + 1, t, s, fuel, cs, d, h, hd => by
    simp only [shOf] at h
    split at h
    · rename_i hu
      cases h
      obtain ⟨b, rfl, _⟩ := DataW.trod_bool hu hd
      refine ⟨[.b b], ?_, ?_, ?_⟩
      · simp only [Sh.cells, ofL, Sh.of]; exact ⟨_, [], rfl, ⟨b, rfl⟩, rfl⟩
      · simp only [repL, D.rep]; exact ⟨_, [], [], [], rfl, rfl, ⟨rfl, rfl⟩, rfl, rfl⟩
      · intro u hu; rw [List.mem_singleton.1 hu]; rfl
    · rename_i k hu
      cases h
      obtain ⟨b, rfl, _, hw⟩ := DataW.trod_int hu hd
      simp only [Lit.wf, Bool.and_eq_true, decide_eq_true_eq] at hw
      refine ⟨[.i k b], ?_, ?_, ?_⟩
      · simp only [Sh.cells, ofL, Sh.of]; exact ⟨_, [], rfl, ⟨b, rfl, hw.1, hw.2⟩, rfl⟩
      · simp only [repL, D.rep]; exact ⟨_, [], [], [], rfl, rfl, ⟨rfl, rfl⟩, rfl, rfl⟩
      · intro u hu; rw [List.mem_singleton.1 hu]; rfl
    · rename_i hu
      cases h
      obtain ⟨b, rfl, _, hw⟩ := DataW.trod_string hu hd
      refine ⟨[.s b.data.toList], ?_, ?_, ?_⟩
      · simp only [Sh.cells, ofL, Sh.of]; exact ⟨_, [], rfl, ⟨_, rfl, by rw [Array.length_toList]; exact hw⟩, rfl⟩
      · simp only [repL, D.rep]; exact ⟨_, [], [], [], rfl, rfl, ⟨rfl, rfl⟩, rfl, rfl⟩
      · intro u hu; rw [List.mem_singleton.1 hu]; rfl
    · rename_i e hu
      cases hs : shOf P n e with
      | none => rw [hs] at h; cases h
      | some s' =>
        rw [hs] at h
        simp only [Option.bind_some] at h
        split at h
        case isFalse => cases h
        rename_i hcl
        obtain ⟨hcl, hpos, hone⟩ := hcl
        cases h
        rcases Go.Deep.open_slice hu hd with ⟨rfl, _⟩ | ⟨a, len, cap, m, n', DD, Pl, rfl, hb, hl, hm, hmm, hx, hi⟩
        · refine ⟨[.sl false []], ?_, ?_, ?_⟩
          · simp only [Sh.cells, ofL, Sh.of]; exact ⟨_, [], rfl, ⟨[], rfl, fun y hy => (by cases hy), Nat.zero_le _⟩, rfl⟩
          · simp only [repL, D.rep]; exact ⟨_, [], [], [], rfl, rfl, ⟨trivial, rfl, none, 0, rfl, Nat.le_refl _, .inl trivial⟩, rfl, rfl⟩
          · intro u hu; rw [List.mem_singleton.1 hu]; rfl
        · have hmlen : len ≤ m := by rw [hmm]; split <;> omega
          have hspot : 0 < len → a.spot = none := by
            intro hl0
            obtain ⟨cs', hcs, htr⟩ := hi 0 (by omega)
            obtain ⟨_, hlen, hcell⟩ := World.cells?_some hcs
            have h0 := hcell 0 hpos
            simp only [Addr.add, Nat.zero_mul, if_true] at h0
            have hsome : cs'[0]? = some (cs'[0]'(by omega)) := List.getElem?_eq_getElem (by omega)
            rw [hsome] at h0
            unfold World.cell? at h0
            split at h0
            · split at h0
              · cases h0
              · rename_i hss
                cases hh : a.spot with
                | none => rfl
                | some _ => rw [hh] at hss; exact absurd rfl hss
            · cases h0
          have hrow : ∀ i, i < len → ∃ x v, s'.of x ∧ x.rep w X v [] ∧ v.cells.size = P.cellsOf e ∧ x.cells.length = P.cellsOf e ∧ (∀ u ∈ v.cells.toList, u.oneCell' = true) ∧ w.rangeAt a.block (a.off + i * P.cellsOf e) v.cells.toList := by
            intro i hil
            obtain ⟨cs', hcs, htr⟩ := hi i (by omega)
            obtain ⟨_, hlen, hcell⟩ := World.cells?_some hcs
            obtain ⟨xs, h1, h2, h3⟩ := typed_rep hX n e s' n' cs' _ hs htr
            have hrange : w.rangeAt a.block (a.off + i * P.cellsOf e) cs' := by
              intro j v hj
              have hjl : j < P.cellsOf e := by rw [← hlen]; exact (List.getElem?_eq_some_iff.1 hj).1
              have := hcell j hjl
              rw [hj] at this
              have hadd : ∀ (x : Addr) (k : Nat), x.spot = none → x.add k = ⟨x.block, x.off + k, none⟩ := by
                intro x k hx
                obtain ⟨xb, xo, xs⟩ := x
                simp only at hx
                subst hx
                unfold Addr.add
                split
                · rename_i hk; subst hk; rfl
                · rfl
              have hsp : w.cell? ⟨a.block, a.off + i * P.cellsOf e + j, none⟩ = w.cell? ((a.add (i * P.cellsOf e)).add j) := by
                rw [hadd a _ (hspot (by omega))]
                rw [hadd _ _ rfl]
              rw [hsp]; exact this
            cases hso : s'.one with
            | true =>
              obtain ⟨x, u, rfl, rfl, hx1, hx2⟩ := one_value hso h1 h2
              have hu1 : u.oneCell' = true := h3 u (List.mem_cons_self ..)
              have huc : u.cells = #[u] := by cases u <;> first | rfl | cases hu1
              have hxc : x.cells = [x] := by
                cases s' with
                | agg _ => cases hso
                | bool => simp only [Sh.of] at hx1; obtain ⟨_, rfl⟩ := hx1; rfl
                | int k => simp only [Sh.of] at hx1; obtain ⟨_, rfl, _⟩ := hx1; rfl
                | str => simp only [Sh.of] at hx1; obtain ⟨_, rfl, _⟩ := hx1; rfl
                | sl _ => simp only [Sh.of] at hx1; obtain ⟨_, rfl, _⟩ := hx1; rfl
              refine ⟨x, u, hx1, hx2, ?_, ?_, ?_, ?_⟩
              · rw [huc]; simpa using hlen
              · rw [hxc]; simpa using hlen
              · rw [huc]; simpa using hu1
              · rw [huc]; exact hrange
            | false =>
              cases s' with
              | agg fs =>
                refine ⟨.agg xs, .agg cs'.toArray, ?_, ?_, ?_, ?_, ?_, ?_⟩
                · simp only [Sh.of]; exact ⟨xs, rfl, h1⟩
                · simp only [D.rep]; exact ⟨_, rfl, by simpa using h2⟩
                · simpa [Value.cells] using hlen
                · simp only [D.cells]; rw [ofL_len h1]; exact hcl
                · simpa [Value.cells] using h3
                · simpa [Value.cells] using hrange
              | _ => cases hso
          obtain ⟨xs, g1, g2, g3⟩ := rows_of hrow
          refine ⟨[.sl false xs], ?_, ?_, ?_⟩
          · simp only [Sh.cells, ofL, Sh.of]; exact ⟨_, [], rfl, ⟨xs, rfl, g2, by omega⟩, rfl⟩
          · simp only [repL, D.rep]
            refine ⟨_, [], [], [], rfl, rfl, ⟨trivial, rfl, some a, cap, by rw [g1], by omega, ?_⟩, rfl, rfl⟩
            by_cases hne : xs = []
            · exact .inl hne
            · refine .inr ⟨a.block, a.off, P.cellsOf e, hne, ?_, hpos, g3, hX _⟩
              have hl0 : 0 < len := by rw [← g1]; exact List.length_pos_iff.2 hne
              rw [← hspot hl0]
          · intro u hu; rw [List.mem_singleton.1 hu]; rfl
    · rename_i fs hu
      cases hs : shFields P (shOf P n) fs.toList 0 with
      | none => rw [hs] at h; cases h
      | some l =>
        rw [hs] at h
        simp only [Option.bind_some] at h
        split at h
        case isFalse => cases h
        rename_i hcl
        cases h
        obtain ⟨xs, n', _, _, hl, hlen, hf⟩ := DataW.trod_struct hu hd
        have := fields_rep (X := X) (shOf P n) cs n' (fun t s cs' d h1 h2 => typed_rep hX n t s n' cs' d h1 h2) fs.toList 0 l hs (fun j x hj => by
          have hj' : fs[j]? = some x := by simpa using hj
          have hjl : j < xs.length := by rw [hlen]; exact (Array.getElem?_eq_some_iff.1 hj').1
          exact ⟨_, (hf j x hj').trans (List.getElem?_eq_getElem hjl)⟩) (by rw [hl, hcl]; omega)
        simp only [List.drop_zero] at this
        exact this
    · cases h

/-- An argument, as data. -/
theorem arg_rep (hX : ∀ b, ¬ X b) {n : Nat} {t : TypeId} {s : Sh} {v : Value} {d : DataW H} {p : List MemPlace} {r : Reach} {b0 : Nat} (hs : shOf P n t = some s) (hv : Value.okWide P w r b0 t v) (h : DataW.Trod enc P w base spare held t v d p) :
    ∃ x, s.of x ∧ x.rep w X v [] := by
  obtain ⟨fuel, hf⟩ := h
  obtain ⟨xs, h1, h2, h3⟩ := typed_rep hX n t s fuel _ _ hs hf
  cases n with
  | zero => cases hs
  | succ n =>
    have single : s.one = true → v.cells.toList = [v] → ∃ x, s.of x ∧ x.rep w X v [] := by
      intro hso hc
      rw [hc] at h2
      obtain ⟨x, u, rfl, hu, hx1, hx2⟩ := one_value hso h1 h2
      cases hu
      exact ⟨x, hx1, hx2⟩
    simp only [shOf] at hs
    split at hs
    · rename_i hu; cases hs; obtain ⟨b, rfl⟩ := okWide_bool hu hv; exact single rfl rfl
    · rename_i hu; cases hs; obtain ⟨b, rfl⟩ := okWide_int hu hv; exact single rfl rfl
    · rename_i hu; cases hs; obtain ⟨b, rfl⟩ := okWide_string hu hv; exact single rfl rfl
    · rename_i hu
      obtain ⟨a, len, cap, rfl⟩ := okWide_slice hu hv
      refine single ?_ rfl
      cases hs' : shOf P n _ with
      | none => rw [hs'] at hs; cases hs
      | some s' =>
        rw [hs'] at hs
        simp only [Option.bind_some] at hs
        split at hs
        · cases hs; rfl
        · cases hs
    · rename_i hu
      obtain ⟨cs, rfl, _⟩ := okWide_struct hu hv
      cases hs' : shFields P (shOf P n) _ 0 with
      | none => rw [hs'] at hs; cases hs
      | some l =>
        rw [hs'] at hs
        simp only [Option.bind_some] at hs
        split at hs
        · cases hs
          refine ⟨.agg xs, ?_, ?_⟩
          · simp only [Sh.of]; exact ⟨xs, rfl, h1⟩
          · simp only [D.rep]; exact ⟨cs, rfl, h2⟩
        · cases hs
    · cases hs
end
end Go.Pm
