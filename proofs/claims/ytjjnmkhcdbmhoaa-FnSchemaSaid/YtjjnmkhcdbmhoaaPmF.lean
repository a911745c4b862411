/-
A walk of Go's code over values: operations that reckon.
-/
import Derived.Test.YtjjnmkhcdbmhoaaPmE
namespace Go.Pm
open Go
set_option linter.unusedVariables false
variable {P : Program}
section
variable {cx : Cx} {X0 : Nat → Prop} {J : Nat → Option Place} {st : St} {a : Act} {w : World} {o : Oper} {K : St → Prop} {next : Act → World → Prop} {Q : Exit → Act → World → Prop}

theorem list_beq (x y : List UInt8) : (x == y) = decide (x = y) := by rw [Bool.eq_iff_iff]; simp
theorem int_beq (x y : Int) : (x == y) = decide (x = y) := by rw [Bool.eq_iff_iff]; simp

theorem bytes_eq (x y : List UInt8) : (ByteArray.mk x.toArray == ByteArray.mk y.toArray) = decide (x = y) := by
  rw [beq_toListBytes, ByteArray.toList_mk, ByteArray.toList_mk, list_beq]

theorem eqGuard_plain {op : BinOp} {t : TypeId} {x y : Operand} {u v : Value} {w : World} (h : ∀ c d, ¬ (u = .agg c ∧ v = .agg d)) (h2 : u ≠ .nilIface) : (eqGuard op t x y u v).run P w = .ok () w := by
  unfold eqGuard
  cases op <;> simp <;> (cases u <;> cases v <;> simp_all)

theorem op_binOp_flat (r : Rel X0 J st a w) (hd : ∀ d, o.dst = some d → d < a.tmps.size) (hn : Leads P X0 J a w K next) {op : BinOp} {t yt : TypeId} {x y : Operand} (hop : o.op = .binOp op t x y yt)
    {p q : D} (hx : st.ev x = some (.d p)) (hy : st.ev y = some (.d q)) (hflat : ∀ l, p ≠ .agg l)
    (hc : evCmd P cx o.dst (binC (tdOf P t) op p q) st K) : o.wp P a w next Q := by
  have hxv := r.ev hx
  have hyv := r.ev hy
  have go : ∀ {z : AV} {u : Value}, K (st.put o.dst z) → (binOp op t (a.eval x) (a.eval y)).run P w = .ok u w → z.rep w (Xof X0 J) J u → (∀ c, a.eval x ≠ .agg c) → a.eval x ≠ .nilIface → o.wp P a w next Q := by
    intro z u hK hrun hz h1 h2
    refine wp_val r hd hn hK (u := u) (w' := w) ?_ (Same.refl w) hz
    simp [execOp, hop, eqGuard_plain (P := P) (op := op) (t := t) (x := x) (y := y) (w := w) (u := a.eval x) (v := a.eval y) (fun c d hh => h1 c hh.1) h2, hrun]
  cases p with
  | agg l => exact absurd rfl (hflat l)
  | sl u xs => exact hc.elim
  | os sz dp xs => exact hc.elim
  | junk => exact hc.elim
  | b b1 =>
    cases q <;> try exact hc.elim
    rename_i b2
    simp only [AV.rep, D.rep] at hxv hyv
    simp only [binC] at hc
    split at hc
    case h_2 => exact hc.elim
    rename_i hk
    have hu := kind_bool (P := P) (t := t) hk
    have heq := run_equal_bool (P := P) w t b1 b2 hu
    split at hc
    · refine go hc (u := .bool (b1 == b2)) ?_ (by simp [AV.rep, D.rep]) (by rw [hxv.1]; intro c h; cases h) (by rw [hxv.1]; intro h; cases h)
      rw [hxv.1, hyv.1]
      simp [binOp, heq]
    · refine go hc (u := .bool (!(b1 == b2))) ?_ (by simp [AV.rep, D.rep]) (by rw [hxv.1]; intro c h; cases h) (by rw [hxv.1]; intro h; cases h)
      rw [hxv.1, hyv.1]
      simp [binOp, heq]
    · exact hc.elim
  | s s1 =>
    cases q <;> try exact hc.elim
    rename_i s2
    simp only [AV.rep, D.rep] at hxv hyv
    have hsz : ∀ l : List UInt8, (ByteArray.mk l.toArray).size = l.length := fun l => by simp [ByteArray.size]
    have hap : ByteArray.mk s1.toArray ++ ByteArray.mk s2.toArray = ⟨(s1 ++ s2).toArray⟩ := by
      apply ByteArray.ext; rw [ByteArray.data_append]; simp
    simp only [binC] at hc
    unfold binS at hc
    split at hc
    · obtain ⟨hl, hc⟩ := hc
      refine go hc (u := .string ⟨(s1 ++ s2).toArray⟩) ?_ (by simp [AV.rep, D.rep]) (by rw [hxv.1]; intro c h; cases h) (by rw [hxv.1]; intro h; cases h)
      rw [hxv.1, hyv.1]
      have : ¬ ((((ByteArray.mk s1.toArray).size + (ByteArray.mk s2.toArray).size : Nat) : Int) > IntKind.i64.max) := by
        rw [hsz, hsz]; show ¬ (_ > (9223372036854775807 : Int)); omega
      simp only [binOp, Op.stringOp, if_neg this, Sem.run_pure, hap]
    all_goals first
      | exact hc.elim
      | (refine go hc (u := .bool _) ?_ (by simp only [AV.rep, D.rep]; exact ⟨rfl, trivial⟩) (by rw [hxv.1]; intro c h; cases h) (by rw [hxv.1]; intro h; cases h)
         rw [hxv.1, hyv.1]
         simp only [binOp, Op.stringOp, ByteArray.toList_mk, Sem.run_pure, list_beq]; done)
  | i k n =>
    cases q <;> try (simp only [binC] at hc; exact hc.elim)
    rename_i k' m
    simp only [AV.rep, D.rep] at hxv hyv
    have g1 : ∀ c, a.eval x ≠ .agg c := by rw [hxv.1]; intro c h; cases h
    have g2 : a.eval x ≠ .nilIface := by rw [hxv.1]; intro h; cases h
    simp only [binC] at hc
    split at hc
    · obtain ⟨h0, hc⟩ := hc
      refine go hc (u := .int k _) ?_ (by simp only [AV.rep, D.rep]; exact ⟨rfl, trivial⟩) g1 g2
      rw [hxv.1, hyv.1]
      simp [binOp, Op.shift, Int.not_lt.2 h0]
    · obtain ⟨h0, hc⟩ := hc
      refine go hc (u := .int k _) ?_ (by simp only [AV.rep, D.rep]; exact ⟨rfl, trivial⟩) g1 g2
      rw [hxv.1, hyv.1]
      simp [binOp, Op.shift, Int.not_lt.2 h0]
    · rename_i hs1 hs2
      obtain ⟨rfl, hc⟩ := hc
      unfold binI at hc
      split at hc
      all_goals first
        | exact hc.elim
        | (refine go hc (u := .int k _) ?_ (by simp only [AV.rep, D.rep]; exact ⟨rfl, trivial⟩) g1 g2
           rw [hxv.1, hyv.1]
           simp [binOp, Op.intArith])
        | (obtain ⟨h0, hc⟩ := hc
           refine go hc (u := .int k _) ?_ (by simp only [AV.rep, D.rep]; exact ⟨rfl, trivial⟩) g1 g2
           rw [hxv.1, hyv.1]
           simp [binOp, Op.intDiv, h0])
        | (refine go hc (u := .int k _) ?_ (by simp only [AV.rep, D.rep, bitD]; exact ⟨rfl, trivial⟩) g1 g2
           rw [hxv.1, hyv.1]
           simp [binOp, Op.intBits]; done)
        | (refine go hc (u := .bool _) ?_ (by simp only [AV.rep, D.rep]; exact ⟨rfl, trivial⟩) g1 g2
           rw [hxv.1, hyv.1]
           simp [binOp, Op.intCmp]; done)
        | (refine go hc (u := .bool _) ?_ (by simp only [AV.rep, D.rep]; exact ⟨rfl, trivial⟩) g1 g2
           rw [hxv.1, hyv.1]
           simp [binOp, Op.intCmp, int_beq, bne]; done)

/-! ### == on structs -/
/-- The cells of a value of a type, as the type's == reads them. -/
def eqOf (P : Program) (t : TypeId) (l : List Value) : Value := match P.underlying t with | some (.struct _) => .agg l.toArray | _ => l.headD undef

theorem flatKinds_len : ∀ (d : Nat) (t : TypeId) (l : List FK), flatKinds P d t = some l → l.length = P.cellsOf t
  | 0, t, l, h => by cases h
  | d + 1, t, l, h => by
    unfold flatKinds at h
    split at h
    · split at h
      · rename_i h1; cases h; simp [h1]
      · cases h
    · split at h
      · rename_i h1; cases h; simp [h1]
      · cases h
    · split at h
      · rename_i h1; cases h; simp [h1]
      · cases h
    · split at h
      · cases h
      · simp only [Option.bind_eq_some_iff] at h
        obtain ⟨l', _, h⟩ := h
        split at h
        · rename_i h1; cases h; exact h1
        · cases h
    · cases h

theorem eqK_len : ∀ {ks : List FK} {xs ys : List D} {r : Bool}, eqK ks xs ys = some r → xs.length = ks.length ∧ ys.length = ks.length
  | [], [], [], r, _ => ⟨rfl, rfl⟩
  | k :: ks, x :: xs, y :: ys, r, h => by
    unfold eqK at h
    split at h
    · split at h
      · rename_i q hq
        have := eqK_len hq
        simp [this.1, this.2]
      · cases h
    · cases h
  | [], [], _ :: _, r, h => by simp [eqK] at h
  | [], _ :: _, _, r, h => by simp [eqK] at h
  | _ :: _, [], _, r, h => by simp [eqK] at h
  | _ :: _, _ :: _, [], r, h => by simp [eqK] at h

theorem eqK_append : ∀ {k1 k2 : List FK} {xs ys : List D} {r : Bool}, eqK (k1 ++ k2) xs ys = some r →
    ∃ p q, eqK k1 (xs.take k1.length) (ys.take k1.length) = some p ∧ eqK k2 (xs.drop k1.length) (ys.drop k1.length) = some q ∧ r = (p && q)
  | [], k2, xs, ys, r, h => ⟨true, r, by simp [eqK], by simpa using h, by simp⟩
  | k :: k1, k2, [], ys, r, h => by simp [eqK] at h
  | k :: k1, k2, x :: xs, [], r, h => by simp [eqK] at h
  | k :: k1, k2, x :: xs, y :: ys, r, h => by
    simp only [List.cons_append] at h
    unfold eqK at h
    split at h
    · rename_i p0 hp0
      split at h
      · rename_i q0 hq0
        obtain ⟨p, q, h1, h2, h3⟩ := eqK_append hq0
        refine ⟨p0 && p, q, ?_, by simpa using h2, ?_⟩
        · simp only [List.length_cons, List.take_succ_cons]
          unfold eqK
          rw [hp0]; simp only; rw [h1]
        · cases h; rw [h3, Bool.and_assoc]
      · cases h
    · cases h

theorem und_row {t : TypeId} {d : Nat} {l : List FK} (h : flatKinds P d t = some l) : (∃ ty, P.underlying t = some ty ∧ ty.isRow = false ∧ P.cellsOf t = 1) ∨ ∃ fs, P.underlying t = some (.struct fs) := by
  cases d with
  | zero => cases h
  | succ d =>
    unfold flatKinds at h
    split at h
    · rename_i hu; split at h <;> first | (rename_i h1; exact .inl ⟨_, hu, rfl, h1⟩) | cases h
    · rename_i hu; split at h <;> first | (rename_i h1; exact .inl ⟨_, hu, rfl, h1⟩) | cases h
    · rename_i hu; split at h <;> first | (rename_i h1; exact .inl ⟨_, hu, rfl, h1⟩) | cases h
    · rename_i hu; exact .inr ⟨_, hu⟩
    · cases h

theorem run_part_eq {t : TypeId} {vs : Array Value} {off d : Nat} {l : List FK} (hf : flatKinds P d t = some l) (hle : off + P.cellsOf t ≤ vs.size) :
    (part t vs off).run P w = .ok (eqOf P t ((vs.toList.drop off).take (P.cellsOf t))) w := by
  rcases und_row hf with ⟨ty, hu, hr, h1⟩ | ⟨fs, hu⟩
  · have hagg : (isAgg t).run P w = .ok false w := by
      unfold isAgg
      rw [Sem.run_bind, run_underlying hu w]
      cases ty <;> simp_all
    have hlt : off < vs.size := by omega
    have e : eqOf P t ((vs.toList.drop off).take (P.cellsOf t)) = vs[off] := by
      have hd : vs.toList.drop off = vs[off] :: vs.toList.drop (off + 1) := by
        rw [List.drop_eq_getElem_cons (by simpa using hlt)]; simp
      unfold eqOf
      rw [hu, h1, hd]
      cases ty <;> simp_all
    rw [e]
    simp [part, hagg, hlt]
  · have hagg : (isAgg t).run P w = .ok true w := by
      unfold isAgg
      rw [Sem.run_bind, run_underlying hu w]
      simp
    have e : eqOf P t ((vs.toList.drop off).take (P.cellsOf t)) = .agg (vs.extract off (off + P.cellsOf t)) := by
      unfold eqOf
      rw [hu]
      simp only
      congr 1
      apply Array.ext'
      simp [List.extract]
    rw [e]
    simp [part, hagg, run_size hu]

theorem run_eqFields_flat {w : World} {X : Nat → Prop} {d e : Nat}
    (ih : ∀ (t : TypeId) (l : List FK), flatKinds P d t = some l → ∀ (xs ys : List D) (us vs : List Value), repL w X xs us [] → repL w X ys vs [] → ∀ r, eqK l xs ys = some r → (Op.equalIn (d + e) t (eqOf P t us) (eqOf P t vs)).run P w = .ok r w) :
    ∀ (fs : List Field) (off : Nat) (l : List FK), fieldKinds P (flatKinds P d) fs off = some l → ∀ (xs ys : List D) (us vs : Array Value), off ≤ us.size → off ≤ vs.size → repL w X xs (us.toList.drop off) [] → repL w X ys (vs.toList.drop off) [] →
      ∀ r, eqK l xs ys = some r → (Op.eqFields (d + e) us vs fs).run P w = .ok r w
  | [], off, l, hl, xs, ys, us, vs, _, _, hx, hy, r, hr => by
    simp only [fieldKinds, Option.some.injEq] at hl
    subst hl
    have := eqK_len hr
    obtain rfl := List.eq_nil_of_length_eq_zero this.1
    obtain rfl := List.eq_nil_of_length_eq_zero this.2
    simp only [eqK, Option.some.injEq] at hr
    subst hr
    simp [Op.eqFields]
  | f :: fs, off, l, hl, xs, ys, us, vs, ho1, ho2, hx, hy, r, hr => by
    simp only [fieldKinds] at hl
    split at hl
    case isFalse => cases hl
    rename_i hoff
    obtain ⟨rfl, hname⟩ := hoff
    simp only [Option.bind_eq_some_iff, Option.map_eq_some_iff] at hl
    obtain ⟨k1, hk1, k2, hk2, rfl⟩ := hl
    have hlen1 := flatKinds_len _ _ _ hk1
    have hxl := eqK_len hr
    simp only [List.length_append] at hxl
    obtain ⟨p, q, hp, hq, rfl⟩ := eqK_append hr
    rw [hlen1] at hp hq
    have hux := repL_length hx
    have huy := repL_length hy
    simp only [List.length_drop, Array.length_toList] at hux huy
    have e1 := run_part_eq (P := P) (w := w) (vs := us) (off := f.offset) hk1 (by omega)
    have e2 := run_part_eq (P := P) (w := w) (vs := vs) (off := f.offset) hk1 (by omega)
    have e3 := ih f.type k1 hk1 _ _ _ _ (repL_take (n := P.cellsOf f.type) hx) (repL_take (n := P.cellsOf f.type) hy) p hp
    have e4 := run_eqFields_flat ih fs (f.offset + P.cellsOf f.type) k2 hk2 _ _ us vs (by omega) (by omega) (by simpa [List.drop_drop] using repL_drop (n := P.cellsOf f.type) hx) (by simpa [List.drop_drop] using repL_drop (n := P.cellsOf f.type) hy) q hq
    simp only [Op.eqFields, if_pos hname, Sem.run_bind, e1, e2, e3, Result.andThen_ok, Sem.run_ite, e4, Sem.run_pure]
    cases p <;> simp

theorem run_equalIn_flat {w : World} {X : Nat → Prop} : ∀ (d : Nat) (t : TypeId) (l : List FK), flatKinds P d t = some l → ∀ (e : Nat) (xs ys : List D) (us vs : List Value),
    repL w X xs us [] → repL w X ys vs [] → ∀ r, eqK l xs ys = some r → (Op.equalIn (d + e) t (eqOf P t us) (eqOf P t vs)).run P w = .ok r w := by
  intro d
  induction d with
  | zero => intro t l h; cases h
  | succ d ih =>
    intro t l hf e xs ys us vs hx hy r hr
    have hde : d + 1 + e = (d + e) + 1 := by omega
    rw [hde]
    have hlen := eqK_len hr
    have scal : ∀ {k : FK}, l = [k] → ∃ x y u v, xs = [x] ∧ ys = [y] ∧ us = [u] ∧ vs = [v] ∧ x.rep w X u [] ∧ y.rep w X v [] := by
      rintro k rfl
      obtain ⟨x, rfl⟩ := List.length_eq_one_iff.1 hlen.1
      obtain ⟨y, rfl⟩ := List.length_eq_one_iff.1 hlen.2
      simp only [repL] at hx hy
      obtain ⟨u, us', b1, b2, rfl, hb, hxu, rfl, _⟩ := hx
      obtain ⟨v, vs', c1, c2, rfl, hc, hyv, rfl, _⟩ := hy
      obtain ⟨rfl, rfl⟩ := List.append_eq_nil_iff.1 hb.symm
      obtain ⟨rfl, rfl⟩ := List.append_eq_nil_iff.1 hc.symm
      exact ⟨x, y, u, v, rfl, rfl, rfl, rfl, hxu, hyv⟩
    unfold flatKinds at hf
    split at hf
    · rename_i hu
      split at hf
      case isFalse => cases hf
      cases hf
      obtain ⟨x, y, u, v, rfl, rfl, rfl, rfl, hxu, hyv⟩ := scal rfl
      cases x <;> try (simp [eqK] at hr; done)
      cases y <;> try (simp [eqK] at hr; done)
      simp only [D.rep] at hxu hyv
      simp only [eqK, Bool.and_true, Option.some.injEq] at hr
      subst hr
      simp [eqOf, hu, hxu.1, hyv.1, Op.equalIn, run_underlying hu]
    · rename_i k hu
      split at hf
      case isFalse => cases hf
      cases hf
      obtain ⟨x, y, u, v, rfl, rfl, rfl, rfl, hxu, hyv⟩ := scal rfl
      cases x <;> try (simp [eqK] at hr; done)
      cases y <;> try (simp [eqK] at hr; done)
      simp only [D.rep] at hxu hyv
      unfold eqK at hr
      simp only at hr
      split at hr
      · rename_i p0 hp0
        split at hp0
        · rename_i hk
          simp only [Bool.and_eq_true, decide_eq_true_eq] at hk
          obtain ⟨rfl, h2⟩ := hk
          cases hp0
          simp only [eqK, Bool.and_true, Option.some.injEq] at hr
          subst hr
          simp [eqOf, hu, hxu.1, hyv.1, h2, Op.equalIn, run_underlying hu, int_beq]
        · cases hp0
      · cases hr
    · rename_i hu
      split at hf
      case isFalse => cases hf
      cases hf
      obtain ⟨x, y, u, v, rfl, rfl, rfl, rfl, hxu, hyv⟩ := scal rfl
      cases x <;> try (simp [eqK] at hr; done)
      cases y <;> try (simp [eqK] at hr; done)
      simp only [D.rep] at hxu hyv
      simp only [eqK, Bool.and_true, Option.some.injEq] at hr
      subst hr
      simp [eqOf, hu, hxu.1, hyv.1, Op.equalIn, run_underlying hu, bytes_eq]
    · rename_i fs hu
      split at hf
      case isTrue => cases hf
      rename_i hst
      simp only [Option.bind_eq_some_iff] at hf
      obtain ⟨l', hl', hf⟩ := hf
      split at hf
      case isFalse => cases hf
      cases hf
      have hfo : P.fieldsOf t = fs := by simp [Program.fieldsOf, hu]
      have e1 : ∀ z : List Value, eqOf P t z = .agg z.toArray := fun z => by simp [eqOf, hu]
      rw [e1, e1, run_equalIn_struct w (d + e) t us.toArray vs.toArray (by rw [hfo]; exact hu) (by simpa using hst), hfo]
      exact run_eqFields_flat (fun t l hl xs ys us vs hx hy r hr => ih t l hl e xs ys us vs hx hy r hr) fs.toList 0 l hl' xs ys us.toArray vs.toArray (Nat.zero_le _) (Nat.zero_le _) (by simpa using hx) (by simpa using hy) r hr
    · cases hf

/-- eqGuard lets structs by that hold no interface. -/
theorem eqGuard_agg {op : BinOp} {t : TypeId} {x y : Operand} {c d : Array Value} {w : World} (h : P.eqGuardType P.depth t = false) : (eqGuard op t x y (.agg c) (.agg d)).run P w = .ok () w := by
  unfold eqGuard
  cases op <;> simp [h]

theorem op_binOp (tok : TOk P cx.T) (r : Rel X0 J st a w) (hd : ∀ d, o.dst = some d → d < a.tmps.size) (hn : Leads P X0 J a w K next) {op : BinOp} {t yt : TypeId} {x y : Operand} (hop : o.op = .binOp op t x y yt)
    (hc : evCmd P cx o.dst (opCmd cx.T o st) st K) : o.wp P a w next Q := by
  simp only [opCmd, hop] at hc
  split at hc
  case h_2 => exact hc.elim
  rename_i p hx
  split at hc
  case h_3 => exact hc.elim
  case h_2 =>
    rename_i hy
    split at hc
    case h_2 => exact hc.elim
    rename_i u xs
    split at hc
    case h_2 => exact hc.elim
    split at hc
    case h_2 => exact hc.elim
    rename_i i hi
    have hti := tok t i hi
    subst hti
    split at hc
    case h_2 => exact hc.elim
    rename_i e hk
    have hu := kind_slice (P := P) (t := t) hk
    have hxv := r.ev hx
    have hyv := r.ev hy
    simp only [AV.rep, D.rep] at hxv hyv
    obtain ⟨_, _, a', cap, hv, hcap, hor⟩ := hxv
    simp only [evCmd] at hc
    refine wp_val r hd hn (hc a'.isNone fun hb => ?_) (u := .bool a'.isNone) (w' := w) ?_ (Same.refl w) (by simp [AV.rep, D.rep])
    · rcases hor with h | ⟨b, off, sz, _, ha, _⟩
      · exact h
      · rw [ha] at hb; cases hb
    · have h0 : ∀ d, (Op.equalIn (d + 1) t (.slice a' xs.length cap) (.slice none 0 0)).run P w = .ok a'.isNone w := fun d => by
        cases a' <;> simp [Op.equalIn, run_underlying hu]
      have hrun : (Op.equal t (.slice a' xs.length cap) (.slice none 0 0)).run P w = .ok a'.isNone w := h0 9999
      have hg : (eqGuard .eql t x y (.slice a' xs.length cap) (.slice none 0 0)).run P w = .ok () w := eqGuard_plain (fun c d hh => nomatch hh.1) (fun h => nomatch h)
      simp [execOp, hop, hv, hyv, binOp, hg, hrun]
  rename_i q hy
  split at hc
  case h_2 => exact hc.elim
  rename_i i hi
  have hti := tok t i hi
  subst hti
  by_cases hflat : ∀ l, p ≠ .agg l
  · exact op_binOp_flat r hd hn hop hx hy hflat hc
  · obtain ⟨l, hl⟩ := Classical.not_forall.1 hflat
    have := Classical.not_not.1 hl
    subst this
    cases q with
    | agg l2 =>
      simp only [binC] at hc
      split at hc
      case h_2 => exact hc.elim
      rename_i lk hkind
      obtain ⟨fs, hu, _⟩ := kind_struct (P := P) (t := t) hkind
      split at hc
      case h_2 => exact hc.elim
      rename_i ks hks
      split at hc
      case h_2 => exact hc.elim
      rename_i rr hrr
      simp only [tdOf] at hks
      split at hks
      case isTrue => cases hks
      rename_i hg
      have hxv := r.ev hx
      have hyv := r.ev hy
      simp only [AV.rep, D.rep] at hxv hyv
      obtain ⟨us, hus, hxr⟩ := hxv
      obtain ⟨vs, hvs, hyr⟩ := hyv
      have heq := run_equalIn_flat 20 t ks hks 9980 l l2 us.toList vs.toList hxr hyr rr hrr
      have e1 : eqOf P t us.toList = .agg us := by simp [eqOf, hu]
      have e2 : eqOf P t vs.toList = .agg vs := by simp [eqOf, hu]
      rw [e1, e2] at heq
      have heq' : (Op.equal t (.agg us) (.agg vs)).run P w = .ok rr w := heq
      have hgd := fun op => eqGuard_agg (P := P) (op := op) (t := t) (x := x) (y := y) (c := us) (d := vs) (w := w) (by simpa using hg)
      split at hc
      · exact wp_val r hd hn hc (u := .bool rr) (w' := w) (by simp [execOp, hop, hus, hvs, hgd, binOp, heq']) (Same.refl w) (by simp [AV.rep, D.rep])
      · exact wp_val r hd hn hc (u := .bool (!rr)) (w' := w) (by simp [execOp, hop, hus, hvs, hgd, binOp, heq']) (Same.refl w) (by simp [AV.rep, D.rep])
      · exact hc.elim
    | _ => exact hc.elim
end
end Go.Pm
