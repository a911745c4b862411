/-
A part of the proof (packed).
-/
import Derived.Test.YtdhogadndcjjlaaGreatKwb
namespace Go.Pm
open Go
set_option linter.unusedVariables false
variable {P : Program}
section
variable {cx : Cx} {X0 : Nat → Prop} {J : Nat → Option Place} {st : St} {a : Act} {w : World} {o : Oper} {K : St → Prop} {next : Act → World → Prop} {Q : Exit → Act → World → Prop}
theorem list_beq (x y : List UInt8) : (x == y) = decide (x = y) := by rw [Bool.eq_iff_iff]; simp
theorem int_beq (x y : Int) : (x == y) = decide (x = y) := by rw [Bool.eq_iff_iff]; simp
theorem bytes_eq (x y : List UInt8) : (ByteArray.mk x.toArray == ByteArray.mk y.toArray) = decide (x = y) := by
  rw [beq_toListBytes, ByteArray.toList_mk, ByteArray.toList_mk, list_beq]
theorem eqGuard_plain {op : BinOp} {t : TypeId} {x y : Operand} {u v : Value} {w : World} (h : ∀ c d, ¬ (u = .agg c ∧ v = .agg d)) (h2 : u ≠ .nilIface) : (eqGuard op t x y u v).run P w = .ok () w := by
  unfold eqGuard
  cases op <;> simp <;> (cases u <;> cases v <;> simp_all)
theorem op_binOp_flat (r : Rel X0 J st a w) (hd : ∀ d, o.dst = some d → d < a.tmps.size) (hn : Leads P X0 J a w K next) {op : BinOp} {t yt : TypeId} {x y : Operand} (hop : o.op = .binOp op t x y yt)
    {p q : D} (hx : st.ev x = some (.d p)) (hy : st.ev y = some (.d q)) (hflat : ∀ l, p ≠ .agg l)
    (hc : evCmd P cx o.dst (binC (tdOf P t) op p q) st K) : o.wp P a w next Q := by
  have hxv := r.ev hx
  have hyv := r.ev hy
  have go : ∀ {z : AV} {u : Value}, K (st.put o.dst z) → (binOp op t (a.eval x) (a.eval y)).run P w = .ok u w → z.rep w (Xof X0 J) J u → (∀ c, a.eval x ≠ .agg c) → a.eval x ≠ .nilIface → o.wp P a w next Q := by
    intro z u hK hrun hz h1 h2
    refine wp_val r hd hn hK (u := u) (w' := w) ?_ (Same.refl w) hz
    simp [execOp, hop, eqGuard_plain (P := P) (op := op) (t := t) (x := x) (y := y) (w := w) (u := a.eval x) (v := a.eval y) (fun c d hh => h1 c hh.1) h2, hrun]
  cases p with
  | agg l => exact absurd rfl (hflat l)
  | sl u xs => exact hc.elim
  | os sz dp xs => exact hc.elim
  | junk => exact hc.elim
  | b b1 =>
    cases q <;> try exact hc.elim
    rename_i b2
    simp only [AV.rep, D.rep] at hxv hyv
    simp only [binC] at hc
    split at hc
    case h_2 => exact hc.elim
    rename_i hk
    have hu := kind_bool (P := P) (t := t) hk
    have heq := run_equal_bool (P := P) w t b1 b2 hu
    split at hc
    · refine go hc (u := .bool (b1 == b2)) ?_ (by simp [AV.rep, D.rep]) (by rw [hxv.1]; intro c h; cases h) (by rw [hxv.1]; intro h; cases h)
      rw [hxv.1, hyv.1]
      simp [binOp, heq]
    · refine go hc (u := .bool (!(b1 == b2))) ?_ (by simp [AV.rep, D.rep]) (by rw [hxv.1]; intro c h; cases h) (by rw [hxv.1]; intro h; cases h)
      rw [hxv.1, hyv.1]
      simp [binOp, heq]
    · exact hc.elim
  | s s1 =>
    cases q <;> try exact hc.elim
    rename_i s2
    simp only [AV.rep, D.rep] at hxv hyv
    have hsz : ∀ l : List UInt8, (ByteArray.mk l.toArray).size = l.length := fun l => by simp [ByteArray.size]
    have hap : ByteArray.mk s1.toArray ++ ByteArray.mk s2.toArray = ⟨(s1 ++ s2).toArray⟩ := by
      apply ByteArray.ext; rw [ByteArray.data_append]; simp
    simp only [binC] at hc
    unfold binS at hc
    split at hc
    · obtain ⟨hl, hc⟩ := hc
      refine go hc (u := .string ⟨(s1 ++ s2).toArray⟩) ?_ (by simp [AV.rep, D.rep]) (by rw [hxv.1]; intro c h; cases h) (by rw [hxv.1]; intro h; cases h)
      rw [hxv.1, hyv.1]
      have : ¬ ((((ByteArray.mk s1.toArray).size + (ByteArray.mk s2.toArray).size : Nat) : Int) > IntKind.i64.max) := by
        rw [hsz, hsz]; show ¬ (_ > (9223372036854775807 : Int)); omega
      simp only [binOp, Op.stringOp, if_neg this, Sem.run_pure, hap]
    all_goals first
      | exact hc.elim
      | (refine go hc (u := .bool _) ?_ (by simp only [AV.rep, D.rep]; exact ⟨rfl, trivial⟩) (by rw [hxv.1]; intro c h; cases h) (by rw [hxv.1]; intro h; cases h)
         rw [hxv.1, hyv.1]
         simp only [binOp, Op.stringOp, ByteArray.toList_mk, Sem.run_pure, list_beq]; done)
  | i k n =>
    cases q <;> try (simp only [binC] at hc; exact hc.elim)
    rename_i k' m
    simp only [AV.rep, D.rep] at hxv hyv
    have g1 : ∀ c, a.eval x ≠ .agg c := by rw [hxv.1]; intro c h; cases h
    have g2 : a.eval x ≠ .nilIface := by rw [hxv.1]; intro h; cases h
    simp only [binC] at hc
    split at hc
    · obtain ⟨h0, hc⟩ := hc
      refine go hc (u := .int k _) ?_ (by simp only [AV.rep, D.rep]; exact ⟨rfl, trivial⟩) g1 g2
      rw [hxv.1, hyv.1]
      simp [binOp, Op.shift, Int.not_lt.2 h0]
    · obtain ⟨h0, hc⟩ := hc
      refine go hc (u := .int k _) ?_ (by simp only [AV.rep, D.rep]; exact ⟨rfl, trivial⟩) g1 g2
      rw [hxv.1, hyv.1]
      simp [binOp, Op.shift, Int.not_lt.2 h0]
    · rename_i hs1 hs2
      obtain ⟨rfl, hc⟩ := hc
      unfold binI at hc
      split at hc
      all_goals first
        | exact hc.elim
        | (refine go hc (u := .int k _) ?_ (by simp only [AV.rep, D.rep]; exact ⟨rfl, trivial⟩) g1 g2
           rw [hxv.1, hyv.1]
           simp [binOp, Op.intArith])
        | (obtain ⟨h0, hc⟩ := hc
           refine go hc (u := .int k _) ?_ (by simp only [AV.rep, D.rep]; exact ⟨rfl, trivial⟩) g1 g2
           rw [hxv.1, hyv.1]
           simp [binOp, Op.intDiv, h0])
        | (refine go hc (u := .int k _) ?_ (by simp only [AV.rep, D.rep, bitD]; exact ⟨rfl, trivial⟩) g1 g2
           rw [hxv.1, hyv.1]
           simp [binOp, Op.intBits]; done)
        | (refine go hc (u := .bool _) ?_ (by simp only [AV.rep, D.rep]; exact ⟨rfl, trivial⟩) g1 g2
           rw [hxv.1, hyv.1]
           simp [binOp, Op.intCmp]; done)
        | (refine go hc (u := .bool _) ?_ (by simp only [AV.rep, D.rep]; exact ⟨rfl, trivial⟩) g1 g2
           rw [hxv.1, hyv.1]
           simp [binOp, Op.intCmp, int_beq, bne]; done)
def eqOf (P : Program) (t : TypeId) (l : List Value) : Value := match P.underlying t with | some (.struct _) => .agg l.toArray | _ => l.headD undef
theorem flatKinds_len : ∀ (d : Nat) (t : TypeId) (l : List FK), flatKinds P d t = some l → l.length = P.cellsOf t
  | 0, t, l, h => by cases h
  | d + 1, t, l, h => by
    unfold flatKinds at h
    split at h
    · split at h
      · rename_i h1; cases h; simp [h1]
      · cases h
    · split at h
      · rename_i h1; cases h; simp [h1]
      · cases h
    · split at h
      · rename_i h1; cases h; simp [h1]
      · cases h
    · split at h
      · cases h
      · simp only [Option.bind_eq_some_iff] at h
        obtain ⟨l', _, h⟩ := h
        split at h
        · rename_i h1; cases h; exact h1
        · cases h
    · cases h
theorem eqK_len : ∀ {ks : List FK} {xs ys : List D} {r : Bool}, eqK ks xs ys = some r → xs.length = ks.length ∧ ys.length = ks.length
  | [], [], [], r, _ => ⟨rfl, rfl⟩
  | k :: ks, x :: xs, y :: ys, r, h => by
    unfold eqK at h
    split at h
    · split at h
      · rename_i q hq
        have := eqK_len hq
        simp [this.1, this.2]
      · cases h
    · cases h
  | [], [], _ :: _, r, h => by simp [eqK] at h
  | [], _ :: _, _, r, h => by simp [eqK] at h
  | _ :: _, [], _, r, h => by simp [eqK] at h
  | _ :: _, _ :: _, [], r, h => by simp [eqK] at h
theorem eqK_append : ∀ {k1 k2 : List FK} {xs ys : List D} {r : Bool}, eqK (k1 ++ k2) xs ys = some r →
    ∃ p q, eqK k1 (xs.take k1.length) (ys.take k1.length) = some p ∧ eqK k2 (xs.drop k1.length) (ys.drop k1.length) = some q ∧ r = (p && q)
  | [], k2, xs, ys, r, h => ⟨true, r, by simp [eqK], by simpa using h, by simp⟩
  | k :: k1, k2, [], ys, r, h => by simp [eqK] at h
  | k :: k1, k2, x :: xs, [], r, h => by simp [eqK] at h
  | k :: k1, k2, x :: xs, y :: ys, r, h => by
    simp only [List.cons_append] at h
    unfold eqK at h
    split at h
    · rename_i p0 hp0
      split at h
      · rename_i q0 hq0
        obtain ⟨p, q, h1, h2, h3⟩ := eqK_append hq0
        refine ⟨p0 && p, q, ?_, by simpa using h2, ?_⟩
        · simp only [List.length_cons, List.take_succ_cons]
          unfold eqK
          rw [hp0]; simp only; rw [h1]
        · cases h; rw [h3, Bool.and_assoc]
      · cases h
    · cases h
theorem und_row {t : TypeId} {d : Nat} {l : List FK} (h : flatKinds P d t = some l) : (∃ ty, P.underlying t = some ty ∧ ty.isRow = false ∧ P.cellsOf t = 1) ∨ ∃ fs, P.underlying t = some (.struct fs) := by
  cases d with
  | zero => cases h
  | succ d =>
    unfold flatKinds at h
    split at h
    · rename_i hu; split at h <;> first | (rename_i h1; exact .inl ⟨_, hu, rfl, h1⟩) | cases h
    · rename_i hu; split at h <;> first | (rename_i h1; exact .inl ⟨_, hu, rfl, h1⟩) | cases h
    · rename_i hu; split at h <;> first | (rename_i h1; exact .inl ⟨_, hu, rfl, h1⟩) | cases h
    · rename_i hu; exact .inr ⟨_, hu⟩
    · cases h
theorem run_part_eq {t : TypeId} {vs : Array Value} {off d : Nat} {l : List FK} (hf : flatKinds P d t = some l) (hle : off + P.cellsOf t ≤ vs.size) :
    (part t vs off).run P w = .ok (eqOf P t ((vs.toList.drop off).take (P.cellsOf t))) w := by
  rcases und_row hf with ⟨ty, hu, hr, h1⟩ | ⟨fs, hu⟩
  · have hagg : (isAgg t).run P w = .ok false w := by
      unfold isAgg
      rw [Sem.run_bind, run_underlying hu w]
      cases ty <;> simp_all
    have hlt : off < vs.size := by omega
    have e : eqOf P t ((vs.toList.drop off).take (P.cellsOf t)) = vs[off] := by
      have hd : vs.toList.drop off = vs[off] :: vs.toList.drop (off + 1) := by
        rw [List.drop_eq_getElem_cons (by simpa using hlt)]; simp
      unfold eqOf
      rw [hu, h1, hd]
      cases ty <;> simp_all
    rw [e]
    simp [part, hagg, hlt]
  · have hagg : (isAgg t).run P w = .ok true w := by
      unfold isAgg
      rw [Sem.run_bind, run_underlying hu w]
      simp
    have e : eqOf P t ((vs.toList.drop off).take (P.cellsOf t)) = .agg (vs.extract off (off + P.cellsOf t)) := by
      unfold eqOf
      rw [hu]
      simp only
      congr 1
      apply Array.ext'
      simp [List.extract]
    rw [e]
    simp [part, hagg, run_size hu]
theorem run_eqFields_flat {w : World} {X : Nat → Prop} {d e : Nat}
    (ih : ∀ (t : TypeId) (l : List FK), flatKinds P d t = some l → ∀ (xs ys : List D) (us vs : List Value), repL w X xs us [] → repL w X ys vs [] → ∀ r, eqK l xs ys = some r → (Op.equalIn (d + e) t (eqOf P t us) (eqOf P t vs)).run P w = .ok r w) :
    ∀ (fs : List Field) (off : Nat) (l : List FK), fieldKinds P (flatKinds P d) fs off = some l → ∀ (xs ys : List D) (us vs : Array Value), off ≤ us.size → off ≤ vs.size → repL w X xs (us.toList.drop off) [] → repL w X ys (vs.toList.drop off) [] →
      ∀ r, eqK l xs ys = some r → (Op.eqFields (d + e) us vs fs).run P w = .ok r w
  | [], off, l, hl, xs, ys, us, vs, _, _, hx, hy, r, hr => by
    simp only [fieldKinds, Option.some.injEq] at hl
    subst hl
    have := eqK_len hr
    obtain rfl := List.eq_nil_of_length_eq_zero this.1
    obtain rfl := List.eq_nil_of_length_eq_zero this.2
    simp only [eqK, Option.some.injEq] at hr
    subst hr
    simp [Op.eqFields]
  | f :: fs, off, l, hl, xs, ys, us, vs, ho1, ho2, hx, hy, r, hr => by
    simp only [fieldKinds] at hl
    split at hl
    case isFalse => cases hl
    rename_i hoff
    obtain ⟨rfl, hname⟩ := hoff
    simp only [Option.bind_eq_some_iff, Option.map_eq_some_iff] at hl
    obtain ⟨k1, hk1, k2, hk2, rfl⟩ := hl
    have hlen1 := flatKinds_len _ _ _ hk1
    have hxl := eqK_len hr
    simp only [List.length_append] at hxl
    obtain ⟨p, q, hp, hq, rfl⟩ := eqK_append hr
    rw [hlen1] at hp hq
    have hux := repL_length hx
    have huy := repL_length hy
    simp only [List.length_drop, Array.length_toList] at hux huy
    have e1 := run_part_eq (P := P) (w := w) (vs := us) (off := f.offset) hk1 (by omega)
    have e2 := run_part_eq (P := P) (w := w) (vs := vs) (off := f.offset) hk1 (by omega)
    have e3 := ih f.type k1 hk1 _ _ _ _ (repL_take (n := P.cellsOf f.type) hx) (repL_take (n := P.cellsOf f.type) hy) p hp
    have e4 := run_eqFields_flat ih fs (f.offset + P.cellsOf f.type) k2 hk2 _ _ us vs (by omega) (by omega) (by simpa [List.drop_drop] using repL_drop (n := P.cellsOf f.type) hx) (by simpa [List.drop_drop] using repL_drop (n := P.cellsOf f.type) hy) q hq
    simp only [Op.eqFields, if_pos hname, Sem.run_bind, e1, e2, e3, Result.andThen_ok, Sem.run_ite, e4, Sem.run_pure]
    cases p <;> simp
theorem run_equalIn_flat {w : World} {X : Nat → Prop} : ∀ (d : Nat) (t : TypeId) (l : List FK), flatKinds P d t = some l → ∀ (e : Nat) (xs ys : List D) (us vs : List Value),
    repL w X xs us [] → repL w X ys vs [] → ∀ r, eqK l xs ys = some r → (Op.equalIn (d + e) t (eqOf P t us) (eqOf P t vs)).run P w = .ok r w := by
  intro d
  induction d with
  | zero => intro t l h; cases h
  | succ d ih =>
    intro t l hf e xs ys us vs hx hy r hr
    have hde : d + 1 + e = (d + e) + 1 := by omega
    rw [hde]
    have hlen := eqK_len hr
    have scal : ∀ {k : FK}, l = [k] → ∃ x y u v, xs = [x] ∧ ys = [y] ∧ us = [u] ∧ vs = [v] ∧ x.rep w X u [] ∧ y.rep w X v [] := by
      rintro k rfl
      obtain ⟨x, rfl⟩ := List.length_eq_one_iff.1 hlen.1
      obtain ⟨y, rfl⟩ := List.length_eq_one_iff.1 hlen.2
      simp only [repL] at hx hy
      obtain ⟨u, us', b1, b2, rfl, hb, hxu, rfl, _⟩ := hx
      obtain ⟨v, vs', c1, c2, rfl, hc, hyv, rfl, _⟩ := hy
      obtain ⟨rfl, rfl⟩ := List.append_eq_nil_iff.1 hb.symm
      obtain ⟨rfl, rfl⟩ := List.append_eq_nil_iff.1 hc.symm
      exact ⟨x, y, u, v, rfl, rfl, rfl, rfl, hxu, hyv⟩
    unfold flatKinds at hf
    split at hf
    · rename_i hu
      split at hf
      case isFalse => cases hf
      cases hf
      obtain ⟨x, y, u, v, rfl, rfl, rfl, rfl, hxu, hyv⟩ := scal rfl
      cases x <;> try (simp [eqK] at hr; done)
      cases y <;> try (simp [eqK] at hr; done)
      simp only [D.rep] at hxu hyv
      simp only [eqK, Bool.and_true, Option.some.injEq] at hr
      subst hr
      simp [eqOf, hu, hxu.1, hyv.1, Op.equalIn, run_underlying hu]
    · rename_i k hu
      split at hf
      case isFalse => cases hf
      cases hf
      obtain ⟨x, y, u, v, rfl, rfl, rfl, rfl, hxu, hyv⟩ := scal rfl
      cases x <;> try (simp [eqK] at hr; done)
      cases y <;> try (simp [eqK] at hr; done)
      simp only [D.rep] at hxu hyv
      unfold eqK at hr
      simp only at hr
      split at hr
      · rename_i p0 hp0
        split at hp0
        · rename_i hk
          simp only [Bool.and_eq_true, decide_eq_true_eq] at hk
          obtain ⟨rfl, h2⟩ := hk
          cases hp0
          simp only [eqK, Bool.and_true, Option.some.injEq] at hr
          subst hr
          simp [eqOf, hu, hxu.1, hyv.1, h2, Op.equalIn, run_underlying hu, int_beq]
        · cases hp0
      · cases hr
    · rename_i hu
      split at hf
      case isFalse => cases hf
      cases hf
      obtain ⟨x, y, u, v, rfl, rfl, rfl, rfl, hxu, hyv⟩ := scal rfl
      cases x <;> try (simp [eqK] at hr; done)
      cases y <;> try (simp [eqK] at hr; done)
      simp only [D.rep] at hxu hyv
      simp only [eqK, Bool.and_true, Option.some.injEq] at hr
      subst hr
      simp [eqOf, hu, hxu.1, hyv.1, Op.equalIn, run_underlying hu, bytes_eq]
    · rename_i fs hu
      split at hf
      case isTrue => cases hf
      rename_i hst
      simp only [Option.bind_eq_some_iff] at hf
      obtain ⟨l', hl', hf⟩ := hf
      split at hf
      case isFalse => cases hf
      cases hf
      have hfo : P.fieldsOf t = fs := by simp [Program.fieldsOf, hu]
      have e1 : ∀ z : List Value, eqOf P t z = .agg z.toArray := fun z => by simp [eqOf, hu]
      rw [e1, e1, run_equalIn_struct w (d + e) t us.toArray vs.toArray (by rw [hfo]; exact hu) (by simpa using hst), hfo]
      exact run_eqFields_flat (fun t l hl xs ys us vs hx hy r hr => ih t l hl e xs ys us vs hx hy r hr) fs.toList 0 l hl' xs ys us.toArray vs.toArray (Nat.zero_le _) (Nat.zero_le _) (by simpa using hx) (by simpa using hy) r hr
    · cases hf
theorem eqGuard_agg {op : BinOp} {t : TypeId} {x y : Operand} {c d : Array Value} {w : World} (h : P.eqGuardType P.depth t = false) : (eqGuard op t x y (.agg c) (.agg d)).run P w = .ok () w := by
  unfold eqGuard
  cases op <;> simp [h]
theorem op_binOp (tok : TOk P cx.T) (r : Rel X0 J st a w) (hd : ∀ d, o.dst = some d → d < a.tmps.size) (hn : Leads P X0 J a w K next) {op : BinOp} {t yt : TypeId} {x y : Operand} (hop : o.op = .binOp op t x y yt)
    (hc : evCmd P cx o.dst (opCmd cx.T o st) st K) : o.wp P a w next Q := by
  simp only [opCmd, hop] at hc
  split at hc
  case h_2 => exact hc.elim
  rename_i p hx
  split at hc
  case h_3 => exact hc.elim
  case h_2 =>
    rename_i hy
    split at hc
    case h_2 => exact hc.elim
    rename_i u xs
    split at hc
    case h_2 => exact hc.elim
    split at hc
    case h_2 => exact hc.elim
    rename_i i hi
    have hti := tok t i hi
    subst hti
    split at hc
    case h_2 => exact hc.elim
    rename_i e hk
    have hu := kind_slice (P := P) (t := t) hk
    have hxv := r.ev hx
    have hyv := r.ev hy
    simp only [AV.rep, D.rep] at hxv hyv
    obtain ⟨_, _, a', cap, hv, hcap, hor⟩ := hxv
    simp only [evCmd] at hc
    refine wp_val r hd hn (hc a'.isNone fun hb => ?_) (u := .bool a'.isNone) (w' := w) ?_ (Same.refl w) (by simp [AV.rep, D.rep])
    · rcases hor with h | ⟨b, off, sz, _, ha, _⟩
      · exact h
      · rw [ha] at hb; cases hb
    · have h0 : ∀ d, (Op.equalIn (d + 1) t (.slice a' xs.length cap) (.slice none 0 0)).run P w = .ok a'.isNone w := fun d => by
        cases a' <;> simp [Op.equalIn, run_underlying hu]
      have hrun : (Op.equal t (.slice a' xs.length cap) (.slice none 0 0)).run P w = .ok a'.isNone w := h0 9999
      have hg : (eqGuard .eql t x y (.slice a' xs.length cap) (.slice none 0 0)).run P w = .ok () w := eqGuard_plain (fun c d hh => nomatch hh.1) (fun h => nomatch h)
      simp [execOp, hop, hv, hyv, binOp, hg, hrun]
  rename_i q hy
  split at hc
  case h_2 => exact hc.elim
  rename_i i hi
  have hti := tok t i hi
  subst hti
  by_cases hflat : ∀ l, p ≠ .agg l
  · exact op_binOp_flat r hd hn hop hx hy hflat hc
  · obtain ⟨l, hl⟩ := Classical.not_forall.1 hflat
    have := Classical.not_not.1 hl
    subst this
    cases q with
    | agg l2 =>
      simp only [binC] at hc
      split at hc
      case h_2 => exact hc.elim
      rename_i lk hkind
      obtain ⟨fs, hu, _⟩ := kind_struct (P := P) (t := t) hkind
      split at hc
      case h_2 => exact hc.elim
      rename_i ks hks
      split at hc
      case h_2 => exact hc.elim
      rename_i rr hrr
      simp only [tdOf] at hks
      split at hks
      case isTrue => cases hks
      rename_i hg
      have hxv := r.ev hx
      have hyv := r.ev hy
      simp only [AV.rep, D.rep] at hxv hyv
      obtain ⟨us, hus, hxr⟩ := hxv
      obtain ⟨vs, hvs, hyr⟩ := hyv
      have heq := run_equalIn_flat 20 t ks hks 9980 l l2 us.toList vs.toList hxr hyr rr hrr
      have e1 : eqOf P t us.toList = .agg us := by simp [eqOf, hu]
      have e2 : eqOf P t vs.toList = .agg vs := by simp [eqOf, hu]
      rw [e1, e2] at heq
      have heq' : (Op.equal t (.agg us) (.agg vs)).run P w = .ok rr w := heq
      have hgd := fun op => eqGuard_agg (P := P) (op := op) (t := t) (x := x) (y := y) (c := us) (d := vs) (w := w) (by simpa using hg)
      split at hc
      · exact wp_val r hd hn hc (u := .bool rr) (w' := w) (by simp [execOp, hop, hus, hvs, hgd, binOp, heq']) (Same.refl w) (by simp [AV.rep, D.rep])
      · exact wp_val r hd hn hc (u := .bool (!rr)) (w' := w) (by simp [execOp, hop, hus, hvs, hgd, binOp, heq']) (Same.refl w) (by simp [AV.rep, D.rep])
      · exact hc.elim
    | _ => exact hc.elim
end
end Go.Pm
namespace Go.Pm
open Go
set_option linter.unusedVariables false
variable {P : Program}
section
variable {cx : Cx} {X0 : Nat → Prop} {J : Nat → Option Place} {st : St} {a : Act} {w : World} {o : Oper} {K : St → Prop} {next : Act → World → Prop} {Q : Exit → Act → World → Prop}
def given (J : Nat → Option Place) (k : Nat) : List Nat := match J k with | some p => p.fp | none => []
theorem given_some {k : Nat} {p : Place} (h : J k = some p) : given J k = p.fp := by unfold given; rw [h]
theorem given_fp {k b : Nat} (h : b ∈ given J k) : ∃ p, J k = some p ∧ b ∈ p.fp := by
  unfold given at h
  split at h
  · rename_i p hp; exact ⟨p, hp, h⟩
  · cases h
theorem given_nodup {obj : Nat → Option Ob} (m : Mem X0 J obj w) : ∀ {ks : List Nat}, nodup ks = true → (ks.flatMap (given J)).Nodup
  | [], _ => by simp
  | k :: ks, h => by
    simp only [nodup] at h
    split at h
    · cases h
    · rename_i hk
      have hk' : k ∉ ks := fun hm => by rw [(has_iff k ks).2 hm] at hk; cases hk
      simp only [List.flatMap_cons]
      rw [List.nodup_append]
      refine ⟨?_, given_nodup m h, ?_⟩
      · unfold given
        split
        · rename_i p hp; exact m.nd k p hp
        · exact List.nodup_nil
      · intro x hx y hy e
        subst e
        obtain ⟨k', hk2, hy⟩ := List.mem_flatMap.1 hy
        obtain ⟨p, hp, hxp⟩ := given_fp hx
        obtain ⟨p', hp', hyp⟩ := given_fp hy
        exact m.sep k k' p p' hp hp' (by rintro rfl; exact hk' hk2) x hxp hyp
theorem baseXs_over {xs : List D} : ∀ {els els' : List OE}, els'.map (·.i) = els.map (·.i) → (els.map (·.i)).Nodup → baseXs (baseXs xs els) els' = baseXs xs els'
  | [], [], _, _ => rfl
  | [], e' :: r', h, _ => by simp at h
  | e :: r, [], h, _ => by simp at h
  | e :: r, e' :: r', h, hn => by
    simp only [List.map_cons, List.cons.injEq] at h
    simp only [List.map_cons, List.nodup_cons] at hn
    obtain ⟨h1, h2⟩ := h
    obtain ⟨hn1, hn2⟩ := hn
    have key : ∀ (l : List OE) (L : List D) (x : D), e.i ∉ l.map (·.i) → baseXs (L.set e.i x) l = (baseXs L l).set e.i x := by
      intro l
      induction l with
      | nil => intro L x _; rfl
      | cons y l ih =>
        intro L x hy
        simp only [List.map_cons, List.mem_cons, not_or] at hy
        simp only [baseXs]
        rw [ih L x hy.2, List.set_comm _ _ hy.1]
    simp only [baseXs]
    rw [key r' _ _ (by rw [h2]; exact hn1), h1, List.set_set, baseXs_over h2 hn2]
theorem absorbCells_rep {X : Nat → Prop} {g : Nat → Option (D × List Nat)} (hg : ∀ key y ks q, g key = some (y, ks) → J key = some q → ∃ bs, y.rep w X q.v bs ∧ bs.Perm (ks.flatMap (given J)) ∧ y.isAgg = false)
    {b sz j : Nat} {ag : Bool} (hag : ag = false → sz = 1) : ∀ {cs pre : List OC} {L : List D} {nest : List Nat} {cs' : List OC} {ks : List Nat}, repRows w X b sz L 0 nest → L[j]? = some (OE.D ⟨j, ag, pre ++ cs⟩) → (pre ++ cs).length = sz → allOneD (ocD (pre ++ cs)) = true →
      (∀ n key, cs[n]? = some (.k key) → ∃ q, J key = some q ∧ w.cell? ⟨b, j * sz + (pre.length + n), none⟩ = some q.v ∧ q.v.oneCell' = true) → absorbCells g cs = (cs', ks) →
      ∃ nest', repRows w X b sz (L.set j (OE.D ⟨j, ag, pre ++ cs'⟩)) 0 nest' ∧ nest'.Perm (nest ++ ks.flatMap (given J)) ∧ cs'.length = cs.length ∧ allOneD (ocD (pre ++ cs')) = true
  | [], pre, L, nest, cs', ks, h, hL, hlen, h1, hk, ha => by
    simp only [absorbCells, Prod.mk.injEq] at ha; obtain ⟨rfl, rfl⟩ := ha
    exact ⟨nest, by rw [set_same hL]; exact h, by simp, rfl, h1⟩
  | .d x :: cs, pre, L, nest, cs', ks, h, hL, hlen, h1, hk, ha => by
    simp only [absorbCells] at ha
    obtain ⟨l, k2, hl⟩ : ∃ l k2, absorbCells g cs = (l, k2) := ⟨_, _, rfl⟩
    rw [hl] at ha
    simp only [Prod.mk.injEq] at ha; obtain ⟨rfl, rfl⟩ := ha
    have e : ∀ l : List OC, pre ++ .d x :: l = (pre ++ [.d x]) ++ l := by intro l; simp
    rw [e] at hL hlen h1
    obtain ⟨nest', g1, g2, g3, g4⟩ := absorbCells_rep hg hag (cs := cs) (pre := pre ++ [.d x]) h hL hlen h1 (fun n key hn => by
      have := hk (n + 1) key (by simpa using hn)
      rwa [show pre.length + (n + 1) = (pre ++ [OC.d x]).length + n by simp; omega] at this) hl
    exact ⟨nest', by rw [e]; exact g1, g2, by simp [g3], by rw [e]; exact g4⟩
  | .k key :: cs, pre, L, nest, cs', ks, h, hL, hlen, h1, hk, ha => by
    obtain ⟨l, k2, hl⟩ : ∃ l k2, absorbCells g cs = (l, k2) := ⟨_, _, rfl⟩
    have e : ∀ (y : OC) (l : List OC), pre ++ y :: l = (pre ++ [y]) ++ l := by intro y l; simp
    have hlen1 : ag = false → (pre ++ .k key :: cs).length = 1 := fun h => hlen.trans (hag h)
    simp only [absorbCells] at ha
    cases hgk : g key with
    | none =>
      rw [hgk, hl] at ha
      simp only [Prod.mk.injEq] at ha; obtain ⟨rfl, rfl⟩ := ha
      have hD : (OE.D ⟨j, ag, pre ++ .k key :: cs⟩) = OE.D ⟨j, ag, (pre ++ [.d .junk]) ++ cs⟩ := by
        unfold OE.D; simp only [ocD_app, ocD, OC.D, List.append_assoc, List.cons_append, List.nil_append]
      obtain ⟨nest', g1, g2, g3, g4⟩ := absorbCells_rep hg hag (cs := cs) (pre := pre ++ [.d .junk]) h (by rw [hL, hD]) (by simpa using hlen) (by
        rw [← e]; simp only [ocD_app, ocD, OC.D] at h1 ⊢; exact h1) (fun n key' hn => by
        have := hk (n + 1) key' (by simpa using hn)
        rwa [show pre.length + (n + 1) = (pre ++ [OC.d .junk]).length + n by simp; omega] at this) hl
      exact ⟨nest', by rw [e]; exact g1, g2, by simp [g3], by rw [e]; exact g4⟩
    | some yk =>
      obtain ⟨y, k1⟩ := yk
      rw [hgk, hl] at ha
      simp only [Prod.mk.injEq] at ha; obtain ⟨rfl, rfl⟩ := ha
      obtain ⟨q, hq, hqc, hq1⟩ := hk 0 key rfl
      obtain ⟨bs, y1, y2, y3⟩ := hg key y k1 q hgk hq
      have hcells := OE.D_cells (e := ⟨j, ag, pre ++ .k key :: cs⟩) hlen1 h1
      obtain ⟨b1, bm, b2, um, hnest, hum, hone, hrg, hl0, hl1, hput⟩ := repRows_at (pre := ocD pre) (mid := [.junk]) (post := ocD cs) h hL (by rw [hcells]; simp [ocD_app, ocD, OC.D])
      simp only [repL, D.rep] at hum
      obtain ⟨u, us, c1, c2, rfl, rfl, ⟨_, rfl⟩, rfl, rfl⟩ := hum
      have hu : u = q.v := by
        have := hrg 0 u rfl
        rw [Nat.zero_add, ocD_length, Nat.add_zero] at this
        rw [Nat.add_zero] at hqc
        rw [hqc] at this
        exact (Option.some.inj this).symm
      subst hu
      have := hput (w' := w) (X' := X) (mid' := [y]) (um' := [q.v]) (bm' := bs) rfl (by cases y <;> first | rfl | cases y3) (by simp only [repL]; exact ⟨q.v, [], bs, [], rfl, by simp, y1, rfl, rfl⟩) (by simpa using hq1) (fun _ _ h => h) (fun _ _ _ => rfl) (fun _ _ => rfl) hrg
      have hD : (OE.D ⟨j, ag, pre ++ .k key :: cs⟩).withCells (ocD pre ++ [y] ++ ocD cs) = OE.D ⟨j, ag, (pre ++ [.d y]) ++ cs⟩ := by
        have := OE.D_with (i := j) (cs' := (pre ++ [.d y]) ++ cs) hlen1 h1
        rw [this]
        simp [ocD_app, ocD, OC.D]
      rw [hD] at this
      have h1' : allOneD (ocD ((pre ++ [.d y]) ++ cs)) = true := by
        refine allOneD_of fun z hz => ?_
        have h2 := allOneD_cells h1
        simp only [ocD_app, ocD, OC.D, List.append_assoc, List.cons_append, List.nil_append, List.mem_append, List.mem_cons] at hz h2
        rcases hz with hz | rfl | hz
        · exact h2 z (.inl hz)
        · exact y3
        · exact h2 z (.inr (.inr hz))
      have hjlt : j < L.length := (List.getElem?_eq_some_iff.1 hL).1
      obtain ⟨nest', g1, g2, g3, g4⟩ := absorbCells_rep hg hag (cs := cs) (pre := pre ++ [.d y]) this (List.getElem?_set_self hjlt) (by simpa using hlen) h1' (fun n key' hn => by
        have := hk (n + 1) key' (by simpa using hn)
        rwa [show pre.length + (n + 1) = (pre ++ [OC.d y]).length + n by simp; omega] at this) hl
      refine ⟨nest', by rw [e, ← List.set_set]; exact g1, g2.trans ?_, by simp [g3], by rw [e]; exact g4⟩
      rw [hnest]
      simp only [List.append_nil, List.append_assoc, List.flatMap_append]
      refine List.Perm.append_left _ ?_
      refine (List.perm_append_comm_assoc _ _ _).trans ?_
      exact List.Perm.append_left _ (List.Perm.append_right _ y2)
theorem absorbCells_noKey {g : Nat → Option (D × List Nat)} : ∀ {cs cs' : List OC} {ks : List Nat}, absorbCells g cs = (cs', ks) → cellKeys cs' = []
  | [], cs', ks, h => by simp only [absorbCells, Prod.mk.injEq] at h; obtain ⟨rfl, rfl⟩ := h; rfl
  | .d x :: cs, cs', ks, h => by
    simp only [absorbCells] at h
    obtain ⟨l, k2, hl⟩ : ∃ l k2, absorbCells g cs = (l, k2) := ⟨_, _, rfl⟩
    rw [hl] at h
    simp only [Prod.mk.injEq] at h; obtain ⟨rfl, rfl⟩ := h
    simp only [cellKeys]; exact absorbCells_noKey hl
  | .k key :: cs, cs', ks, h => by
    simp only [absorbCells] at h
    obtain ⟨l, k2, hl⟩ : ∃ l k2, absorbCells g cs = (l, k2) := ⟨_, _, rfl⟩
    cases hgk : g key with
    | none => rw [hgk, hl] at h; simp only [Prod.mk.injEq] at h; obtain ⟨rfl, rfl⟩ := h; simp only [cellKeys]; exact absorbCells_noKey hl
    | some yk => obtain ⟨y, k1⟩ := yk; rw [hgk, hl] at h; simp only [Prod.mk.injEq] at h; obtain ⟨rfl, rfl⟩ := h; simp only [cellKeys]; exact absorbCells_noKey hl
theorem absorbEls_rep {X : Nat → Prop} {g : Nat → Option (D × List Nat)} (hg : ∀ key y ks q, g key = some (y, ks) → J key = some q → ∃ bs, y.rep w X q.v bs ∧ bs.Perm (ks.flatMap (given J)) ∧ y.isAgg = false) {b sz : Nat} :
    ∀ {els : List OE} {L : List D} {nest : List Nat} {els' : List OE} {ks : List Nat}, repRows w X b sz L 0 nest → (els.map (·.i)).Nodup →
      (∀ e ∈ els, L[e.i]? = some e.D ∧ (e.cells.length = sz ∧ (e.ag = false → sz = 1) ∧ allOneD (ocD e.cells) = true) ∧ ∀ (c key : Nat), e.cells[c]? = some (.k key) → ∃ q, J key = some q ∧ w.cell? ⟨b, e.i * sz + c, none⟩ = some q.v ∧ q.v.oneCell' = true) →
      absorbEls g els = (els', ks) → ∃ nest', repRows w X b sz (baseXs L els') 0 nest' ∧ nest'.Perm (nest ++ ks.flatMap (given J)) ∧ els'.map (·.i) = els.map (·.i)
  | [], L, nest, els', ks, h, _, _, ha => by
    simp only [absorbEls, Prod.mk.injEq] at ha; obtain ⟨rfl, rfl⟩ := ha
    exact ⟨nest, h, by simp, rfl⟩
  | e :: r, L, nest, els', ks, h, hn, hk, ha => by
    simp only [absorbEls] at ha
    obtain ⟨cs, k1, hcs⟩ : ∃ cs k1, absorbCells g e.cells = (cs, k1) := ⟨_, _, rfl⟩
    obtain ⟨l, k2, hl⟩ : ∃ l k2, absorbEls g r = (l, k2) := ⟨_, _, rfl⟩
    rw [hcs, hl] at ha
    simp only [Prod.mk.injEq] at ha; obtain ⟨rfl, rfl⟩ := ha
    simp only [List.map_cons, List.nodup_cons] at hn
    obtain ⟨nest1, g1, g2, g3⟩ := absorbEls_rep hg (els := r) h hn.2 (fun e' he' => hk e' (List.mem_cons_of_mem _ he')) hl
    obtain ⟨q1, ⟨q2, q3, q4⟩, q5⟩ := hk e (List.mem_cons_self ..)
    have hget : (baseXs L l)[e.i]? = some e.D := by rw [baseXs_get (by rw [g3]; exact hn.1)]; exact q1
    obtain ⟨nest2, p1, p2, p3, p4⟩ := absorbCells_rep hg (j := e.i) (ag := e.ag) q3 (cs := e.cells) (pre := []) g1 (by rw [hget]; rfl) q2 q4 (fun n key hn => by simpa using q5 n key hn) hcs
    refine ⟨nest2, p1, p2.trans ?_, by simp [g3]⟩
    rw [List.flatMap_append]
    refine (List.Perm.append_right _ g2).trans ?_
    rw [List.append_assoc]
    exact List.Perm.append_left _ (List.perm_append_comm)
theorem absorbEls_noKey {g : Nat → Option (D × List Nat)} : ∀ {els els' : List OE} {ks : List Nat}, absorbEls g els = (els', ks) → elKeys els' = []
  | [], els', ks, h => by simp only [absorbEls, Prod.mk.injEq] at h; obtain ⟨rfl, rfl⟩ := h; rfl
  | e :: r, els', ks, h => by
    simp only [absorbEls] at h
    obtain ⟨cs, k1, hcs⟩ : ∃ cs k1, absorbCells g e.cells = (cs, k1) := ⟨_, _, rfl⟩
    obtain ⟨l, k2, hl⟩ : ∃ l k2, absorbEls g r = (l, k2) := ⟨_, _, rfl⟩
    rw [hcs, hl] at h
    simp only [Prod.mk.injEq] at h; obtain ⟨rfl, rfl⟩ := h
    simp only [elKeys, absorbCells_noKey hcs, absorbEls_noKey hl, List.append_nil]
theorem opn_whole {X : Nat → Prop} {g : Nat → Option (D × List Nat)} (hg : ∀ key y ks q, g key = some (y, ks) → J key = some q → ∃ bs, y.rep w X q.v bs ∧ bs.Perm (ks.flatMap (given J)) ∧ y.isAgg = false) {p : Place} {sz : Nat} {xs : List D} {els els' : List OE} {ks : List Nat}
    (hr : (Ob.opn sz xs els).rep w X J p) (ha : absorbEls g els = (els', ks)) : ∃ nest', repRows w X p.blk sz (baseXs xs els') 0 nest' ∧ nest'.Perm (p.nest ++ ks.flatMap (given J)) := by
  obtain ⟨h0, cap, h1, h2, hh, h3, h4, h5, h6⟩ := hr
  have hget : ∀ e ∈ els, (baseXs xs els)[e.i]? = some e.D := by
    have key : ∀ {l : List OE}, (l.map (·.i)).Nodup → (∀ e ∈ l, e.i < xs.length) → ∀ e ∈ l, (baseXs xs l)[e.i]? = some e.D := by
      intro l
      induction l with
      | nil => intro _ _ e he; cases he
      | cons y l ih =>
        intro hn hlt e he
        simp only [List.map_cons, List.nodup_cons] at hn
        simp only [baseXs]
        rcases List.mem_cons.1 he with rfl | he
        · exact List.getElem?_set_self (by rw [baseXs_len]; exact hlt e (List.mem_cons_self ..))
        · rw [List.getElem?_set_ne (fun e' => hn.1 (by rw [e']; exact List.mem_map_of_mem (f := fun x : OE => x.i) he))]
          exact ih hn.2 (fun e he => hlt e (List.mem_cons_of_mem _ he)) e he
    exact key h5 fun e he => (h6 e he).1.1
  obtain ⟨nest', g1, g2, g3⟩ := absorbEls_rep hg h4 h5 (fun e he => ⟨hget e he, (h6 e he).1.2, (h6 e he).2⟩) ha
  exact ⟨nest', by rw [← baseXs_over g3 h5]; exact g1, g2⟩
theorem absorbK_rep {obj : Nat → Option Ob} (m : Mem X0 J obj w) : ∀ (n key : Nat) (y : D) (ks : List Nat) (q : Place), absorbK obj n key = some (y, ks) → J key = some q →
    ∃ bs, y.rep w (Xof X0 J) q.v bs ∧ bs.Perm (ks.flatMap (given J)) ∧ y.isAgg = false
  | 0, key, y, ks, q, h, _ => by cases h
  | n + 1, key, y, ks, q, h, hq => by
    simp only [absorbK] at h
    split at h
    · rename_i sz dp xs hob
      cases h
      obtain ⟨q', hq', hr⟩ := m.ob key _ hob
      rw [hq] at hq'; cases hq'
      exact ⟨q.fp, arr_place hr, by simp [given_some hq], rfl⟩
    · rename_i sz xs els hob
      obtain ⟨els', k1, he⟩ : ∃ els' k1, absorbEls (absorbK obj n) els = (els', k1) := ⟨_, _, rfl⟩
      rw [he] at h
      simp only [Option.some.injEq, Prod.mk.injEq] at h; obtain ⟨rfl, rfl⟩ := h
      obtain ⟨q', hq', hr⟩ := m.ob key _ hob
      rw [hq] at hq'; cases hq'
      obtain ⟨nest', g1, g2⟩ := opn_whole (fun key y ks q h1 h2 => absorbK_rep m n key y ks q h1 h2) hr he
      obtain ⟨h0, cap, h1, h2, hh, h3, h4, h5, h6⟩ := hr
      refine ⟨q.blk :: nest', ?_, ?_, rfl⟩
      · simp only [D.rep]
        exact ⟨h0, _, cap, by rw [baseXs_len]; exact h1, by rw [baseXs_len]; exact h2, .inr ⟨q.blk, nest', rfl, h3, g1, rfl, fun h => by cases h⟩⟩
      · simp only [List.flatMap_cons, given_some hq, q.fp_hd hh, List.cons_append]
        exact g2.cons _
    · cases h
mutual
theorem absorb_rep {obj : Nat → Option Ob} (m : Mem X0 J obj w) : ∀ (v : AV) (u : Value) (x : D) (ks : List Nat), v.absorb obj = some (x, ks) → v.rep w (Xof X0 J) J u → ∃ bs, x.rep w (Xof X0 J) u bs ∧ bs.Perm (ks.flatMap (given J))
  | .d y, u, x, ks, h, hr => by simp only [AV.absorb, Option.some.injEq, Prod.mk.injEq] at h; obtain ⟨rfl, rfl⟩ := h; exact ⟨[], hr, by simp⟩
  | .snil, u, x, ks, h, hr => by
    simp only [AV.absorb, Option.some.injEq, Prod.mk.injEq] at h; obtain ⟨rfl, rfl⟩ := h
    simp only [AV.rep] at hr
    refine ⟨[], ?_, by simp⟩
    simp only [D.rep]
    exact ⟨trivial, trivial, none, 0, hr, Nat.le_refl _, .inl trivial⟩
  | .own k, u, x, ks, h, hr => by
    simp only [AV.absorb] at h
    simp only [AV.rep] at hr
    obtain ⟨p, hp, rfl, _⟩ := hr
    obtain ⟨bs, g1, g2, _⟩ := absorbK_rep m 10 k x ks p h hp
    exact ⟨bs, g1, g2⟩
  | .agg cs, u, x, ks, h, hr => by
    simp only [AV.absorb] at h
    split at h
    · rename_i l ks' hl
      simp only [Option.some.injEq, Prod.mk.injEq] at h; obtain ⟨rfl, rfl⟩ := h
      simp only [AV.rep] at hr
      obtain ⟨vs, rfl, hr⟩ := hr
      obtain ⟨bs, g1, g2⟩ := absorbL_rep m cs vs.toList l ks' hl hr
      refine ⟨bs, ?_, g2⟩
      simp only [D.rep]
      exact ⟨vs, rfl, g1⟩
    · cases h
  | .c _, u, x, ks, h, hr => by cases h
  | .tup _, u, x, ks, h, hr => by cases h
  | .ptr .., u, x, ks, h, hr => by cases h
  | .eptr .., u, x, ks, h, hr => by cases h
  | .win .., u, x, ks, h, hr => by cases h
  | .rd _, u, x, ks, h, hr => by cases h
  | .fn .., u, x, ks, h, hr => by cases h
  | .bot, u, x, ks, h, hr => by cases h
theorem absorbL_rep {obj : Nat → Option Ob} (m : Mem X0 J obj w) : ∀ (vs : List AV) (us : List Value) (xs : List D) (ks : List Nat), absorbL obj vs = some (xs, ks) → AV.repL w (Xof X0 J) J vs us → ∃ bs, repL w (Xof X0 J) xs us bs ∧ bs.Perm (ks.flatMap (given J))
  | [], us, xs, ks, h, hr => by
    simp only [absorbL, Option.some.injEq, Prod.mk.injEq] at h; obtain ⟨rfl, rfl⟩ := h
    simp only [AV.repL] at hr; subst hr
    exact ⟨[], by simp [repL], by simp⟩
  | v :: vs, us, xs, ks, h, hr => by
    simp only [absorbL] at h
    split at h
    · rename_i x k1 hx
      split at h
      · rename_i l k2 hl
        simp only [Option.some.injEq, Prod.mk.injEq] at h; obtain ⟨rfl, rfl⟩ := h
        simp only [AV.repL] at hr
        obtain ⟨u, us', rfl, h1, h2⟩ := hr
        obtain ⟨c1, g1, g2⟩ := absorb_rep m v u x k1 hx h1
        obtain ⟨c2, g3, g4⟩ := absorbL_rep m vs us' l k2 hl h2
        refine ⟨c1 ++ c2, ?_, by rw [List.flatMap_append]; exact g2.append g4⟩
        simp only [repL]
        exact ⟨u, us', _, _, rfl, rfl, g1, g3⟩
      · cases h
    · cases h
end
theorem without_id {ks : List Nat} {k j : Nat} (h : without ks k = some j) : j = k := by
  unfold without at h; split at h <;> simp_all
theorem without_none {ks : List Nat} {k : Nat} (h : k ∈ ks) : without ks k = none := by
  unfold without; rw [(has_iff k ks).2 h]
theorem without_self {ks : List Nat} {k : Nat} (h : k ∉ ks) : without ks k = some k := by
  unfold without
  cases hk : has k ks with
  | true => exact absurd ((has_iff k ks).1 hk) h
  | false => rfl
end
end Go.Pm
namespace Go.Pm
open Go
set_option linter.unusedVariables false
variable {P : Program}
section
variable {cx : Cx} {X0 : Nat → Prop} {J : Nat → Option Place} {st : St} {a : Act} {w : World} {o : Oper} {K : St → Prop} {next : Act → World → Prop} {Q : Exit → Act → World → Prop}
def putAt (cs : Array Value) : Nat → List Value → Array Value
  | _, [] => cs
  | o, v :: r => putAt (cs.setIfInBounds o v) (o + 1) r
theorem putAt_size : ∀ (vs : List Value) (cs : Array Value) (o : Nat), (putAt cs o vs).size = cs.size
  | [], cs, o => rfl
  | v :: r, cs, o => by rw [putAt, putAt_size r]; simp
theorem setCells_heap {b : Nat} {t : TypeId} {fr : Nat × Nat} : ∀ (vs : List Value) (o : Nat) (w : World) (cs : Array Value), w.heap[b]? = some (.cells cs t fr) →
    (w.setCells b o vs).heap[b]? = some (.cells (putAt cs o vs) t fr)
  | [], o, w, cs, h => by simpa [World.setCells, putAt] using h
  | v :: r, o, w, cs, h => by
    rw [World.setCells, putAt]
    refine setCells_heap r (o + 1) _ _ ?_
    simp only [World.setCell, Array.getElem?_modify, if_true, h, Option.map_some]
    rfl
theorem setCells_other {b : Nat} : ∀ (vs : List Value) (o : Nat) (w : World) (c : Nat), c ≠ b → (w.setCells b o vs).heap[c]? = w.heap[c]?
  | [], o, w, c, h => by simp [World.setCells]
  | v :: r, o, w, c, h => by rw [World.setCells, setCells_other r (o + 1) _ c h, RowKit.Below.heap_setCell _ _ _ _ h]
theorem setCells_kept {b : Nat} : ∀ (vs : List Value) (o : Nat) (w : World), (w.setCells b o vs).os = w.os ∧ (w.setCells b o vs).tape = w.tape ∧ (w.setCells b o vs).output = w.output ∧ (w.setCells b o vs).heap.size = w.heap.size
  | [], o, w => by simp [World.setCells]
  | v :: r, o, w => by
    rw [World.setCells]
    obtain ⟨h1, h2, h3, h4⟩ := setCells_kept r (o + 1) (w.setCell ⟨b, o, none⟩ v)
    exact ⟨h1, h2, h3, by rw [h4]; simp [World.setCell]⟩
theorem kept_setCells (b o : Nat) (vs : List Value) (w : World) : Kept (· = b) w (w.setCells b o vs) := by
  obtain ⟨h1, h2, h3, h4⟩ := setCells_kept (b := b) vs o w
  exact ⟨h1, h2, h3, Nat.le_of_eq h4.symm, fun c _ hc => setCells_other vs o w c hc⟩
theorem putAt_toList : ∀ (vs : List Value) (cs : Array Value) (o : Nat), (putAt cs o vs).toList = (cs.toList.take o ++ vs.take (cs.size - o)) ++ cs.toList.drop (o + vs.length)
  | [], cs, o => by simp [putAt]
  | v :: r, cs, o => by
    rw [putAt, putAt_toList r]
    simp only [Array.toList_setIfInBounds, Array.size_setIfInBounds, List.length_cons]
    by_cases h : o < cs.size
    · have e1 : (cs.toList.set o v).take (o + 1) = cs.toList.take o ++ [v] := by
        rw [List.take_set, List.take_succ_eq_append_getElem (by simpa using h), List.set_append_right _ _ (by rw [List.length_take]; omega)]
        simp only [List.length_take, Array.length_toList, Nat.min_eq_left (Nat.le_of_lt h), Nat.sub_self, List.set_cons_zero]
      have e2 : (cs.toList.set o v).drop (o + 1 + r.length) = cs.toList.drop (o + (r.length + 1)) := by
        rw [List.drop_set_of_lt (by omega)]; congr 1; omega
      have e3 : cs.size - o = (cs.size - (o + 1)) + 1 := by omega
      rw [e1, e2, e3, List.take_succ_cons]; simp
    · have e0 : cs.toList.set o v = cs.toList := List.set_eq_of_length_le (by simpa using Nat.le_of_not_lt h)
      rw [e0]
      have e1 : cs.size - o = 0 := by omega
      have e2 : cs.size - (o + 1) = 0 := by omega
      rw [e1, e2]
      simp only [List.take_zero, List.append_nil]
      rw [List.take_of_length_le (by simp; omega), List.take_of_length_le (by simp; omega), List.drop_of_length_le (by simp; omega), List.drop_of_length_le (by simp; omega)]
theorem setCells_some {α : Type} : ∀ {o : Nat} {vs l r : List α}, setCells o vs l = some r → r = l.take o ++ vs ++ l.drop (o + vs.length) ∧ (vs = [] ∨ o + vs.length ≤ l.length)
  | o, [], l, r, h => by
    have : r = l := by cases o <;> cases l <;> (simp only [setCells, Option.some.injEq] at h; exact h.symm)
    subst this; simp
  | 0, v :: vs, x :: l, r, h => by
    simp only [setCells] at h
    split at h
    · rename_i r' hr
      cases h
      obtain ⟨e, hl⟩ := setCells_some hr
      refine ⟨by rw [e]; simp, .inr ?_⟩
      rcases hl with rfl | hl
      · simp
      · simp only [List.length_cons] at hl ⊢; omega
    · cases h
  | 0, v :: vs, [], r, h => by simp [setCells] at h
  | o + 1, v :: vs, x :: l, r, h => by
    simp only [setCells] at h
    split at h
    · rename_i r' hr
      cases h
      obtain ⟨e, hl⟩ := setCells_some hr
      refine ⟨by rw [e, show o + 1 + (v :: vs).length = (o + (v :: vs).length) + 1 by omega]; simp only [List.take_succ_cons, List.cons_append, List.drop_succ_cons], .inr ?_⟩
      rcases hl with hl | hl
      · cases hl
      · simp only [List.length_cons] at hl ⊢; omega
    · cases h
  | o + 1, v :: vs, [], r, h => by simp [setCells] at h
theorem AV.repL_append {w : World} {X : Nat → Prop} {J : Nat → Option Place} : ∀ {xs ys : List AV} {us vs : List Value}, AV.repL w X J xs us → AV.repL w X J ys vs → AV.repL w X J (xs ++ ys) (us ++ vs)
  | [], ys, us, vs, h1, h2 => by simp only [AV.repL] at h1; subst h1; simpa using h2
  | x :: xs, ys, us, vs, h1, h2 => by
    simp only [AV.repL] at h1
    obtain ⟨u, us', rfl, g1, g2⟩ := h1
    simp only [List.cons_append, AV.repL]
    exact ⟨u, _, rfl, g1, AV.repL_append g2 h2⟩
theorem oneOf {w : World} {X : Nat → Prop} {J : Nat → Option Place} {x : AV} {v : Value} (h : x.rep w X J v) (h1 : x.one = true) : v.oneCell' = true := by
  cases x with
  | d x =>
    cases x with
    | agg cs => cases h1
    | b x => simp only [AV.rep, D.rep] at h; rw [h.1]; rfl
    | i k n => simp only [AV.rep, D.rep] at h; rw [h.1]; rfl
    | s l => simp only [AV.rep, D.rep] at h; rw [h.1]; rfl
    | sl u xs => simp only [AV.rep, D.rep] at h; obtain ⟨_, _, a, c, hv, _⟩ := h; rw [hv]; rfl
    | os sz dp xs => simp only [AV.rep, D.rep] at h; obtain ⟨_, a, c, hv, _⟩ := h; rw [hv]; rfl
    | junk => simp only [AV.rep, D.rep] at h; exact h.1
  | c u => simp only [AV.rep] at h; rw [h.1]; exact h.2
  | snil => simp only [AV.rep] at h; rw [h]; rfl
  | agg cs => cases h1
  | tup cs => cases h1
  | ptr k off => simp only [AV.rep] at h; obtain ⟨p, _, hv⟩ := h; rw [hv]; rfl
  | eptr k sz i off => simp only [AV.rep] at h; obtain ⟨p, _, hv⟩ := h; rw [hv]; rfl
  | own k => simp only [AV.rep] at h; obtain ⟨p, _, hv, h1⟩ := h; rw [hv]; exact h1
  | win k sz lo hi => simp only [AV.rep] at h; obtain ⟨p, a0, n0, c0, a, c, _, _, _, _, _, hv, _⟩ := h; rw [hv]; rfl
  | rd cs => simp only [AV.rep] at h; obtain ⟨b, off, vs, hv, _⟩ := h; rw [hv]; rfl
  | fn g caps => simp only [AV.rep] at h; obtain ⟨cs, hv, _⟩ := h; rw [hv]; rfl
  | bot => simp only [AV.rep] at h; exact h
theorem oneAll {w : World} {X : Nat → Prop} {J : Nat → Option Place} : ∀ {xs : List AV} {vs : List Value}, AV.repL w X J xs vs → allOne xs = true → ∀ v ∈ vs, v.oneCell' = true
  | [], vs, h, _ => by simp only [AV.repL] at h; subst h; simp
  | x :: xs, vs, h, h1 => by
    simp only [AV.repL] at h
    obtain ⟨v, vs', rfl, g1, g2⟩ := h
    simp only [allOne] at h1
    split at h1
    · rename_i hx
      intro u hu
      rcases List.mem_cons.1 hu with rfl | hu
      · exact oneOf g1 hx
      · exact oneAll g2 h1 u hu
    · cases h1
theorem run_storeAt_of {t : TypeId} {b off : Nat} {v : Value} {cs : Array Value} {tt : TypeId} (hb : w.heap[b]? = some (.cells cs tt (0, 0))) (hoff : off + v.cells.size ≤ cs.size) {i : TypeInfo} (hi : P.info? t = some i) (hs : v.cells.size = i.size)
    (h1 : ∀ u ∈ v.cells.toList, u.oneCell' = true) : (Instr.storeAt t (.pointer (some ⟨b, off, none⟩)) v).run P w = .ok () (w.setCells b off v.cells.toList) := by
  have := run_storeCells_cells (P := P) b off v.cells.toList 0 w (fun j hj => by
    simp only [Array.length_toList] at hj
    have : off + 0 + j < cs.size := by omega
    simp [World.cell?, hb]; omega) (fun j hj => by simp [World.frozen?, hb]) h1
  simp only [Nat.add_zero] at this
  simp [Instr.storeAt, Instr.sureAddr, storeVar, sizeOf, typeInfo, hi, hs, this]
mutual
theorem AV.ren_fix {X : Nat → Prop} {f : Nat → Option Nat} (hf : ∀ k p, J k = some p → f k = some k) : ∀ (x : AV) (v : Value), x.rep w X J v → x.ren f = x
  | .d x, v, h => rfl
  | .c u, v, h => rfl
  | .snil, v, h => rfl
  | .agg cs, v, h => by simp only [AV.rep] at h; obtain ⟨vs, _, hr⟩ := h; simp only [AV.ren, AV.renL_fix hf cs _ hr]
  | .tup cs, v, h => by simp only [AV.rep] at h; obtain ⟨vs, _, hr⟩ := h; simp only [AV.ren, AV.renL_fix hf cs _ hr]
  | .ptr k off, v, h => by simp only [AV.rep] at h; obtain ⟨p, hp, _⟩ := h; simp only [AV.ren, hf k p hp]
  | .eptr k sz i off, v, h => by simp only [AV.rep] at h; obtain ⟨p, hp, _⟩ := h; simp only [AV.ren, hf k p hp]
  | .own k, v, h => by simp only [AV.rep] at h; obtain ⟨p, hp, _⟩ := h; simp only [AV.ren, hf k p hp]
  | .win k s lo hi, v, h => by simp only [AV.rep] at h; obtain ⟨p, a0, n0, c0, a, c, hp, _⟩ := h; simp only [AV.ren, hf k p hp]
  | .rd cs, v, h => rfl
  | .fn g cs, v, h => by simp only [AV.rep] at h; obtain ⟨vs, _, hr⟩ := h; simp only [AV.ren, AV.renL_fix hf cs _ hr]
  | .bot, v, h => rfl
theorem AV.renL_fix {X : Nat → Prop} {f : Nat → Option Nat} (hf : ∀ k p, J k = some p → f k = some k) : ∀ (xs : List AV) (vs : List Value), AV.repL w X J xs vs → renL f xs = xs
  | [], vs, h => rfl
  | x :: xs, vs, h => by
    simp only [AV.repL] at h
    obtain ⟨v, vs', _, h1, h2⟩ := h
    simp only [renL, AV.ren_fix hf x v h1, AV.renL_fix hf xs vs' h2]
end
theorem Ob.ren_fix {X : Nat → Prop} {f : Nat → Option Nat} (hf : ∀ k p, J k = some p → f k = some k) {p : Place} {o : Ob} (h : o.rep w X J p) : o.ren f = o := by
  cases o with
  | var cells => obtain ⟨_, _, cs, t, _, hr⟩ := h; simp only [Ob.ren, AV.renL_fix hf _ _ hr]
  | arr sz d xs => rfl
  | bld t e l => rfl
  | mp es => rfl
  | gone => rfl
  | opn sz xs els =>
    obtain ⟨_, _, _, _, _, _, _, _, h6⟩ := h
    have cells : ∀ cs : List OC, (∀ (c key : Nat), cs[c]? = some (.k key) → f key = some key) → renCells f cs = cs := by
      intro cs
      induction cs with
      | nil => intro _; rfl
      | cons y cs ih =>
        intro hk
        have ih := ih fun c key hc => hk (c + 1) key (by simpa using hc)
        cases y with
        | d x => simp only [renCells, ih]
        | k key => simp only [renCells, hk 0 key rfl, ih]
    have all : ∀ l : List OE, (∀ e ∈ l, ∀ (c key : Nat), e.cells[c]? = some (.k key) → f key = some key) → renEls f l = l := by
      intro l
      induction l with
      | nil => intro _; rfl
      | cons y l ih =>
        intro hk
        simp only [renEls, cells y.cells (hk y (List.mem_cons_self ..)), ih fun e he => hk e (List.mem_cons_of_mem _ he)]
    simp only [Ob.ren]
    rw [all els fun e he c key hc => by obtain ⟨q, hq, _⟩ := (h6 e he).2 c key hc; exact hf key q hq]
theorem look_renObj {f : Nat → Option Nat} (hf : ∀ k j, f k = some j → j = k) (l : List (Nat × Ob)) (k : Nat) : look k (renObj f l) = match f k with | some _ => (look k l).map (Ob.ren f) | none => none := by
  induction l with
  | nil => simp only [renObj, look_nil, Option.map_none]; split <;> rfl
  | cons y l ih =>
    obtain ⟨j, ob'⟩ := y
    simp only [renObj]
    cases hj : f j with
    | none =>
      simp only
      rw [ih, look_cons]
      by_cases e : j = k
      · subst e; rw [hj]
      · rw [if_neg e]
    | some j' =>
      have := hf j j' hj; subst this
      simp only
      rw [look_cons, look_cons, ih]
      by_cases e : j' = k
      · subst e; rw [hj]; simp
      · rw [if_neg e, if_neg e]
theorem look_renEnv {f : Nat → Option Nat} (l : List (Nat × AV)) (t : Nat) : look t (renEnv f l) = (look t l).map (AV.ren f) := by
  induction l with
  | nil => simp [renEnv, look]
  | cons y l ih =>
    obtain ⟨j, v'⟩ := y
    simp only [renEnv, look_cons, ih]
    by_cases e : j = t
    · simp [e]
    · simp [e]
theorem wp_new (r : Rel X0 J st a w) (hd : ∀ d, o.dst = some d → d < a.tmps.size) (hn : Leads P X0 J a w K next) {f : Nat → Option Nat} {ob : Ob} {v : AV} {u : Value} {w1 : World} {p : Place} {k0 : Nat} {st1 : St} {F : Nat → Prop}
    (hf : ∀ k j, f k = some j → j = k) (hk : f k0 = none) (hbig : 10000 ≤ k0) (hsmall : ∀ k, k < 10000 → f k = some k) (hs : Kept F w w1) (hF : ∀ b, F b → ∃ k q, J k = some q ∧ f k = none ∧ b ∈ q.fp)
    (hrun : (execOp a.eval o).run P w = .ok (.value u) w1)
    (hnd : p.fp.Nodup) (hfp : ∀ b ∈ p.fp, (∃ k q, J k = some q ∧ f k = none ∧ b ∈ q.fp) ∨ w.heap.size ≤ b)
    (hob : ∀ J', (∀ k, J' k = if k = k0 then some p else match f k with | some _ => J k | none => none) → ob.rep w1 (Xof X0 J') J' p)
    (hv : ∀ J', J' k0 = some p → v.rep w1 (Xof X0 J') J' u)
    (he : ∀ t, look t st1.env = (look t st.env).map (AV.ren f)) (ho : ∀ k, look k st1.obj = if k0 = k then some ob else match f k with | some _ => (look k st.obj).map (Ob.ren f) | none => none)
    (hK : K (st1.put o.dst v)) : o.wp P a w next Q := by
  obtain ⟨m', hrep, hstep⟩ := Mem.step (J' := fun k => if k = k0 then some p else match f k with | some _ => J k | none => none)
    (obj' := (look · st1.obj)) (w' := w1) (F := F) (p0 := p) (o0 := ob) (k0 := k0) (f := f) r.mem hf hk hbig hsmall (fun _ => rfl)
    (fun k => by
      show look k st1.obj = _
      rw [ho]
      by_cases e : k0 = k
      · rw [if_pos e, if_pos e.symm]
      · rw [if_neg e, if_neg (Ne.symm e)]; cases f k <;> rfl)
    hs hF hnd hfp (hob _ fun _ => rfl)
  unfold Oper.wp
  rw [hrun]
  have r' : Rel X0 _ st1 a w1 := ⟨fun t x hx => by
    rw [he] at hx
    cases h0 : look t st.env with
    | none => rw [h0] at hx; cases hx
    | some x0 =>
      rw [h0] at hx; cases hx
      obtain ⟨u0, hu0, hr0⟩ := r.env t x0 h0
      exact ⟨u0, hu0, hrep _ _ hr0⟩, m', r.defers⟩
  exact hn _ _ _ _ hK (r'.put hd (hv _ (by simp))) Act.put_size hstep
theorem Mem.free {X0 : Nat → Prop} {J : Nat → Option Place} {obj : Nat → Option Ob} {w : World} (m : Mem X0 J obj w) {k : Nat} (h : obj k = none) : J k = none := by
  cases hj : J k with
  | none => rfl
  | some p => obtain ⟨o, ho⟩ := m.dom k p hj; rw [h] at ho; cases ho
theorem wp_fresh (r : Rel X0 J st a w) (hd : ∀ d, o.dst = some d → d < a.tmps.size) (hn : Leads P X0 J a w K next) {ob : Ob} {v : AV} {u : Value} {w1 : World} {p : Place} {k0 : Nat} (hbig : 10000 ≤ k0)
    (hfree : look k0 st.obj = none) (hs : Same w w1)
    (hrun : (execOp a.eval o).run P w = .ok (.value u) w1) (hnest : p.nest = []) (hblk : p.hd = true → w.heap.size ≤ p.blk)
    (hob : ∀ J', (∀ k, J' k = if k = k0 then some p else J k) → ob.rep w1 (Xof X0 J') J' p)
    (hv : ∀ J', J' k0 = some p → v.rep w1 (Xof X0 J') J' u)
    (hK : K ((st.set k0 ob).put o.dst v)) : o.wp P a w next Q := by
  have hJ0 : J k0 = none := r.mem.free hfree
  have hfix : ∀ k p, J k = some p → (fun k => if k = k0 then none else some k) k = some k := by
    intro k p hp
    show (if k = k0 then none else some k) = some k
    rw [if_neg (by rintro rfl; rw [hJ0] at hp; cases hp)]
  refine wp_new r hd hn (f := fun k => if k = k0 then none else some k) (F := fun _ => False) (k0 := k0) (p := p) (ob := ob) (st1 := st.set k0 ob) ?_ (by simp) hbig (fun k hk => by rw [if_neg (by omega)]) (hs.kept _) (fun b hb => hb.elim) hrun ?_ ?_ ?_ hv ?_ ?_ hK
  · intro k j h
    split at h
    · cases h
    · cases h; rfl
  · cases hh : p.hd with
    | true => simp [p.fp_hd hh, hnest]
    | false => simp [p.fp_no hh]
  · intro b hb
    cases hh : p.hd with
    | true => simp [p.fp_hd hh, hnest] at hb; subst hb; exact .inr (hblk hh)
    | false => simp [p.fp_no hh] at hb
  · intro J' hJ'
    refine hob J' fun k => ?_
    rw [hJ']
    by_cases e : k = k0
    · simp [e]
    · simp [e]
  · intro t
    show look t st.env = _
    cases h0 : look t st.env with
    | none => rfl
    | some x =>
      obtain ⟨u0, _, hr0⟩ := r.env t x h0
      rw [Option.map_some, AV.ren_fix hfix x u0 hr0]
  · intro k
    rw [St.set_look]
    by_cases e : k0 = k
    · simp [e]
    · rw [if_neg e, if_neg e]
      simp only [if_neg (Ne.symm e)]
      cases h0 : look k st.obj with
      | none => rfl
      | some ob0 =>
        obtain ⟨p0, _, hr0⟩ := r.mem.ob k ob0 h0
        rw [Option.map_some, Ob.ren_fix hfix hr0]
theorem heap_push (w : World) (o : Obj) : ({ w with heap := w.heap.push o } : World).heap[w.heap.size]? = some o := by simp
theorem ev_newVar {ob : Ob} {d : Nat} (hdst : o.dst = some d) (h : evCmd P cx o.dst (.newVar ob) st K) : look (10000 + d) st.obj = none ∧ K ((st.set (10000 + d) ob).put o.dst (.ptr (10000 + d) 0)) := by
  rw [hdst] at h ⊢
  simp only [evCmd] at h
  split at h
  · rename_i h0; exact ⟨h0, h⟩
  · exact h.elim
theorem wp_newVar (r : Rel X0 J st a w) (hd : ∀ d, o.dst = some d → d < a.tmps.size) (hn : Leads P X0 J a w K next) {cells : List AV} {cs : Array Value} {t : TypeId} (hc : evCmd P cx o.dst (.newVar (.var cells)) st K)
    (hr : AV.repL w (Xof X0 J) J cells cs.toList) (hrun : (execOp a.eval o).run P w = .ok (.value (.pointer (some ⟨w.heap.size, 0, none⟩))) { w with heap := w.heap.push (.cells cs t) }) : o.wp P a w next Q := by
  cases hdst : o.dst with
  | none => rw [hdst] at hc; exact hc.elim
  | some d =>
    obtain ⟨hfree, hK⟩ := ev_newVar hdst hc
    have hJ0 : J (10000 + d) = none := r.mem.free hfree
    refine wp_fresh r hd hn (p := ⟨w.heap.size, [], undef, true⟩) (Nat.le_add_right _ _) hfree (Same.push w _) hrun rfl (fun _ => Nat.le_refl _) ?_ ?_ hK
    · intro J' hJ'
      refine ⟨rfl, rfl, cs, t, heap_push w _, ?_⟩
      refine AV.repL_mono (w := w) (X := Xof X0 J) (J := J) ?_ ((Same.push w _).agree _ _) ?_ hr
      · rintro b hb hx (h0 | ⟨k, p, hp, hbp⟩)
        · exact hx (.inl h0)
        · rw [hJ'] at hp
          split at hp
          · cases hp; simp [Place.fp] at hbp; omega
          · exact hx (.inr ⟨k, p, hp, hbp⟩)
      · intro k p hp
        exact ⟨p, by rw [hJ', if_neg (by rintro rfl; rw [hJ0] at hp; cases hp)]; exact hp, p.like_refl⟩
    · intro J' hJ'
      simp only [AV.rep]
      exact ⟨_, hJ', rfl⟩
theorem wp_newBld (r : Rel X0 J st a w) (hd : ∀ d, o.dst = some d → d < a.tmps.size) (hn : Leads P X0 J a w K next) {t e : TypeId} (hc : evCmd P cx o.dst (.newVar (.bld t e [])) st K)
    (hrun : (execOp a.eval o).run P w = .ok (.value (.pointer (some ⟨w.heap.size, 0, none⟩))) { w with heap := w.heap.push (.cells #[.pointer none, .slice none 0 0] t) }) : o.wp P a w next Q := by
  cases hdst : o.dst with
  | none => rw [hdst] at hc; exact hc.elim
  | some d =>
    obtain ⟨hfree, hK⟩ := ev_newVar hdst hc
    have hJ0 : J (10000 + d) = none := r.mem.free hfree
    refine wp_fresh r hd hn (p := ⟨w.heap.size, [], undef, true⟩) (Nat.le_add_right _ _) hfree (Same.push w _) hrun rfl (fun _ => Nat.le_refl _) ?_ ?_ hK
    · intro J' hJ'
      exact ⟨rfl, .pointer none, .slice none 0 0, .inl rfl, heap_push w _, World.ownsRowF_nil _ _ _ _, rfl⟩
    · intro J' hJ'
      simp only [AV.rep]
      exact ⟨_, hJ', rfl⟩
theorem constsOf_rep {w : World} {X : Nat → Prop} {J : Nat → Option Place} : ∀ {vs : List Value} {cells : List AV}, constsOf vs = some cells → AV.repL w X J cells vs
  | [], cells, h => by simp only [constsOf, Option.some.injEq] at h; subst h; simp [AV.repL]
  | v :: vs, cells, h => by
    simp only [constsOf] at h
    split at h
    · rename_i x hx
      split at h
      · rename_i l hl
        cases h
        simp only [AV.repL]
        exact ⟨v, vs, rfl, rep_const hx, constsOf_rep hl⟩
      · cases h
    · cases h
theorem zero_some {t : TypeId} {cells : List AV} (h : (tdOf P t).zero = some cells) : ∃ i z, P.info? t = some i ∧ i.zero = some z ∧ constsOf z.cells.toList = some cells := by
  simp only [tdOf, Option.bind_eq_some_iff] at h
  obtain ⟨z, ⟨i, hi, hz⟩, hc⟩ := h
  exact ⟨i, z, hi, hz, hc⟩
theorem op_alloc (tok : TOk P cx.T) (r : Rel X0 J st a w) (hd : ∀ d, o.dst = some d → d < a.tmps.size) (hn : Leads P X0 J a w K next) {t : TypeId} (hop : o.op = .alloc t)
    (hc : evCmd P cx o.dst (opCmd cx.T o st) st K) : o.wp P a w next Q := by
  simp only [opCmd, hop] at hc
  split at hc
  case h_2 => exact hc.elim
  rename_i i hi
  have hti := tok t i hi
  subst hti
  split at hc
  case h_2 => exact hc.elim
  rename_i cells hz
  obtain ⟨ti, z, hti, htz, hcz⟩ := zero_some hz
  split at hc
  · split at hc
    case h_2 => exact hc.elim
    refine wp_newBld r hd hn hc ?_
    have hr := constsOf_rep (w := w) (X := Xof X0 J) (J := J) hcz
    obtain ⟨v1, r1, e1, g1, v2, r2, e2, g2, e3⟩ := hr
    subst e2; subst e3
    obtain ⟨rfl, _⟩ := g1
    have g3 : v2 = .slice none 0 0 := g2
    subst g3
    have hzc : z.cells = #[.pointer none, .slice none 0 0] := by
      apply Array.ext'; rw [e1]
    simp [execOp, hop, Instr.alloc, zeroValue, typeInfo, hti, htz, newVar, newRow, hzc]
  · refine wp_newVar r hd hn (t := t) hc (constsOf_rep hcz) ?_
    simp [execOp, hop, Instr.alloc, zeroValue, typeInfo, hti, htz, newVar, newRow]
theorem op_box (r : Rel X0 J st a w) (hd : ∀ d, o.dst = some d → d < a.tmps.size) (hn : Leads P X0 J a w K next) {t : TypeId} {x : Operand} (hop : o.op = .box t x)
    (hc : evCmd P cx o.dst (opCmd cx.T o st) st K) : o.wp P a w next Q := by
  simp only [opCmd, hop] at hc
  split at hc
  case h_2 => exact hc.elim
  rename_i v hx
  refine wp_newVar r hd hn (t := t) hc (cells_rep (r.ev hx)) ?_
  simp [execOp, hop, Instr.box, newVar, newRow]
theorem wp_upd (r : Rel X0 J st a w) (hd : ∀ d, o.dst = some d → d < a.tmps.size) (hn : Leads P X0 J a w K next) {k : Nat} {p : Place} {ob : Ob} {w1 : World} (hp : J k = some p) (hh : p.hd = true)
    (hrun : (execOp a.eval o).run P w = .ok .skip w1) (hkept : Kept (· = p.blk) w w1) (hob : ob.rep w1 (Xof X0 J) J p) (hK : K ((st.set k ob).put o.dst (.tup []))) : o.wp P a w next Q := by
  obtain ⟨m', hrep, hstep⟩ := Mem.upd (obj' := (look · (st.set k ob).obj)) (w' := w1) r.mem hp hh (fun j => by
    rw [St.set_look]
    by_cases e : k = j
    · rw [if_pos e, if_pos e.symm]
    · rw [if_neg e, if_neg (Ne.symm e)]) hkept hob
  unfold Oper.wp
  rw [hrun]
  have r' : Rel X0 J (st.set k ob) a w1 := ⟨fun t x hx => let ⟨u, hu, h⟩ := r.env t x hx; ⟨u, hu, hrep _ _ h⟩, m', r.defers⟩
  refine hn _ _ _ _ hK (r'.put (u := undef) hd ?_) Act.put_size hstep
  simp only [AV.rep]
  exact ⟨#[], rfl, by simp [AV.repL]⟩
theorem setCells_rep {w w' : World} {X : Nat → Prop} {J : Nat → Option Place} {off : Nat} {xs cells r : List AV} {vs : List Value} {cs : Array Value} (h : setCells off xs cells = some r) (hx : AV.repL w X J xs vs) (hc : AV.repL w X J cells cs.toList) :
    AV.repL w X J r (putAt cs off vs).toList := by
  obtain ⟨e, hl⟩ := setCells_some h
  have hlen := AV.repL_length hc
  have hlx := AV.repL_length hx
  simp only [Array.length_toList] at hlen
  rw [putAt_toList, e]
  have htake : vs.take (cs.size - off) = vs := by
    rcases hl with rfl | hl
    · simp only [List.length_nil] at hlx
      rw [List.eq_nil_of_length_eq_zero hlx.symm]; simp
    · exact List.take_of_length_le (by omega)
  rw [htake, ← hlx]
  exact AV.repL_append (AV.repL_append (AV.repL_take hc) hx) (AV.repL_drop hc)
theorem op_store_var (tok : TOk P cx.T) (r : Rel X0 J st a w) (hd : ∀ d, o.dst = some d → d < a.tmps.size) (hn : Leads P X0 J a w K next) {t : TypeId} {x y : Operand} (hop : o.op = .store t x y)
    {k off : Nat} (hx : st.ev x = some (.ptr k off)) {v : AV} (hy : st.ev y = some v) {cells cs : List AV} (hk : look k st.obj = some (.var cells)) {i : TypeInfo} (hi : P.info? t = some i) (hsz : v.cells.length = i.size) (hpos : 0 < i.size) (hone : allOne v.cells = true)
    (hset : setCells off v.cells cells = some cs) (hK : K ((st.set k (.var cs)).put o.dst (.tup []))) : o.wp P a w next Q := by
  have hxv := r.ev hx
  simp only [AV.rep] at hxv
  obtain ⟨p, hp, hxv⟩ := hxv
  have hyv := cells_rep (r.ev hy)
  obtain ⟨p', c0, tt, hp', ⟨hh, hnest⟩, hcs, hr⟩ := r.mem.var hk
  rw [hp] at hp'; cases hp'
  have hlen := AV.repL_length hyv
  have hlen2 := AV.repL_length hr
  simp only [Array.length_toList] at hlen hlen2
  have hoff : off + (a.eval y).cells.size ≤ c0.size := by
    obtain ⟨_, hl⟩ := setCells_some hset
    rcases hl with hl | hl
    · rw [hl] at hsz; simp at hsz; omega
    · omega
  have hst := run_storeAt_of (P := P) (w := w) (t := t) hcs hoff hi (by omega) (oneAll hyv hone)
  refine wp_upd r hd hn (w1 := w.setCells p.blk off (a.eval y).cells.toList) hp hh (by simp [execOp, hop, hxv, hst]) (kept_setCells _ _ _ _) ?_ hK
  refine ⟨hh, hnest, _, tt, setCells_heap _ _ _ _ hcs, ?_⟩
  have hkept := kept_setCells p.blk off (a.eval y).cells.toList w
  have hr2 : AV.repL w (Xof X0 J) J cs (putAt c0 off (a.eval y).cells.toList).toList := setCells_rep (w' := w) hset hyv hr
  refine AV.repL_mono (fun _ _ hx => hx) ?_ (fun _ p hp => ⟨p, hp, p.like_refl⟩) hr2
  intro b hb hxb
  refine hkept.block b hb fun e => ?_
  rcases hxb with h | h
  · cases h
  · exact h (.inr ⟨k, p, hp, e ▸ p.blk_fp hh⟩)
theorem rangeAt_apart {b' o' b o : Nat} {cs vs : List Value} (h : w.rangeAt b' o' cs) (hap : b' ≠ b ∨ o' + cs.length ≤ o ∨ o + vs.length ≤ o') : (w.setCells b o vs).rangeAt b' o' cs :=
  World.rangeAt_setCells_apart h b o vs hap
theorem repRows_keep {X : Nat → Prop} {b sz o : Nat} {vs : List Value} (hb : X b) : ∀ {xs : List D} {off : Nat}, repRows w X b sz xs off [] → (o + vs.length ≤ off ∨ off + xs.length * sz ≤ o) → repRows (w.setCells b o vs) X b sz xs off []
  | [], off, h, _ => by simp only [repRows]
  | x :: xs, off, h, hap => by
    simp only [repRows] at h ⊢
    obtain ⟨v, b1, b2, hbs, h1, h2, h3, h4, h5⟩ := h
    obtain ⟨rfl, rfl⟩ := List.append_eq_nil_iff.1 hbs.symm
    have hlen : v.cells.toList.length = sz := by rw [Array.length_toList, h2]
    simp only [List.length_cons, Nat.add_mul, Nat.one_mul] at hap
    refine ⟨v, [], [], rfl, D.rep_mono (fun _ _ hx => hx) x v [] ?_ h1, h2, h3, rangeAt_apart h4 (.inr (by omega)), repRows_keep hb h5 (by omega)⟩
    intro c hc hx
    refine (kept_setCells b o vs w).block c hc fun e => ?_
    rcases hx with hx | hx
    · cases hx
    · exact hx (e ▸ hb)
theorem repRows_set {X : Nat → Prop} {b sz : Nat} (hb : X b) {y : D} {u : Value} (hy : y.rep w X u []) (hu : u.cells.size = sz) (hyl : y.cells.length = sz) (hone : ∀ c ∈ u.cells.toList, c.oneCell' = true) :
    ∀ {xs : List D} {off j : Nat}, repRows w X b sz xs off [] → j < xs.length → w.there b (off + j * sz) sz → repRows (w.setCells b (off + j * sz) u.cells.toList) X b sz (xs.set j y) off []
  | [], off, j, h, hj, _ => by simp at hj
  | x :: xs, off, j, h, hj, ht => by
    simp only [repRows] at h
    obtain ⟨v, b1, b2, hbs, h1, h2, h3, h4, h5⟩ := h
    obtain ⟨rfl, rfl⟩ := List.append_eq_nil_iff.1 hbs.symm
    have hA : ∀ (o : Nat) (vs : List Value), Agree w (w.setCells b o vs) X [] := by
      intro o vs c hc hx
      refine (kept_setCells b o vs w).block c hc fun e => ?_
      rcases hx with hx | hx
      · cases hx
      · exact hx (e ▸ hb)
    have hul : u.cells.toList.length = sz := by rw [Array.length_toList, hu]
    cases j with
    | zero =>
      simp only [List.set_cons_zero, repRows, Nat.zero_mul, Nat.add_zero] at ht ⊢
      exact ⟨u, [], [], rfl, D.rep_mono (fun _ _ hx => hx) y u [] (hA _ _) hy, hu, ⟨hyl, hone⟩, World.rangeAt_setCells_same w b off _ (by rw [hul]; exact ht), repRows_keep hb h5 (.inl (by omega))⟩
    | succ j =>
      simp only [List.set_cons_succ, repRows]
      have e : off + (j + 1) * sz = off + sz + j * sz := by rw [Nat.add_mul, Nat.one_mul]; omega
      rw [e] at ht ⊢
      have hvl : v.cells.toList.length = sz := by rw [Array.length_toList, h2]
      refine ⟨v, [], [], rfl, D.rep_mono (fun _ _ hx => hx) x v [] (hA _ _) h1, h2, h3, rangeAt_apart h4 (.inr (.inl (by omega))), repRows_set hb hy hu hyl hone h5 (by simpa using hj) ht⟩
theorem repL_join {w : World} {X : Nat → Prop} : ∀ {xs ys : List D} {us vs : List Value}, repL w X xs us [] → repL w X ys vs [] → repL w X (xs ++ ys) (us ++ vs) []
  | [], ys, us, vs, h1, h2 => by simp only [repL] at h1; rw [h1.1]; exact h2
  | x :: xs, ys, us, vs, h1, h2 => by
    simp only [repL] at h1
    obtain ⟨u, us', b1, b2, rfl, hb, h3, h4⟩ := h1
    obtain ⟨rfl, rfl⟩ := List.append_eq_nil_iff.1 hb.symm
    simp only [List.cons_append, repL]
    exact ⟨u, us' ++ vs, [], [], rfl, rfl, h3, repL_join h4 h2⟩
theorem rangeAt_head {b o n : Nat} {cs : List Value} (h : w.rangeAt b o cs) : w.rangeAt b o (cs.take n) := by
  intro j v hv
  rw [List.getElem?_take] at hv
  split at hv
  · exact h j v hv
  · cases hv
theorem rangeAt_tail {b o n : Nat} {cs : List Value} (h : w.rangeAt b o cs) : w.rangeAt b (o + n) (cs.drop n) := by
  intro j v hv
  rw [List.getElem?_drop] at hv
  have := h (n + j) v hv
  rwa [Nat.add_assoc]
theorem rangeAt_join {b o : Nat} {xs ys : List Value} (h1 : w.rangeAt b o xs) (h2 : w.rangeAt b (o + xs.length) ys) : w.rangeAt b o (xs ++ ys) := by
  intro j v hv
  by_cases hj : j < xs.length
  · rw [List.getElem?_append_left hj] at hv; exact h1 j v hv
  · rw [List.getElem?_append_right (by omega)] at hv
    have := h2 _ v hv
    rwa [show o + xs.length + (j - xs.length) = o + j by omega] at this
theorem repRows_setAt {X : Nat → Prop} {b sz o : Nat} {ys : List Value} {yds : List D} (hb : X b) (hy : repL w X yds ys []) (hone : ∀ c ∈ ys, c.oneCell' = true) (hos : o + ys.length ≤ sz) :
    ∀ {xs : List D} {off j : Nat} {cs : List D}, repRows w X b sz xs off [] → xs[j]? = some (.agg cs) → w.there b (off + j * sz + o) ys.length →
      repRows (w.setCells b (off + j * sz + o) ys) X b sz (xs.set j (.agg (cs.take o ++ yds ++ cs.drop (o + yds.length)))) off []
  | [], off, j, cs, h, hj, _ => by simp at hj
  | x :: xs, off, j, cs, h, hj, ht => by
    simp only [repRows] at h
    obtain ⟨v, b1, b2, hbs, h1, h2, h3, h4, h5⟩ := h
    obtain ⟨rfl, rfl⟩ := List.append_eq_nil_iff.1 hbs.symm
    have hA : ∀ (o : Nat) (vs : List Value), Agree w (w.setCells b o vs) X [] := by
      intro o vs c hc hx
      refine (kept_setCells b o vs w).block c hc fun e => ?_
      rcases hx with hx | hx
      · cases hx
      · exact hx (e ▸ hb)
    have hvl : v.cells.toList.length = sz := by rw [Array.length_toList, h2]
    cases j with
    | zero =>
      simp only [List.getElem?_cons_zero, Option.some.injEq] at hj
      subst hj
      simp only [D.rep] at h1
      obtain ⟨vs, rfl, hr⟩ := h1
      have hyl := repL_length hy
      have hcl := repL_length hr
      have e0 : (Value.agg vs).cells.toList = vs.toList := rfl
      rw [e0] at h4 h3 hvl
      have hcs : cs.length = sz := h3.1
      simp only [List.set_cons_zero, repRows, Nat.zero_mul, Nat.add_zero] at ht ⊢
      have hu : (Value.agg (vs.toList.take o ++ ys ++ vs.toList.drop (o + ys.length)).toArray).cells.toList = vs.toList.take o ++ ys ++ vs.toList.drop (o + ys.length) := by
        show ((vs.toList.take o ++ ys ++ vs.toList.drop (o + ys.length)).toArray).toList = _
        simp
      refine ⟨.agg (vs.toList.take o ++ ys ++ vs.toList.drop (o + ys.length)).toArray, [], [], rfl, ?_, ?_, ⟨?_, ?_⟩, ?_, repRows_keep hb h5 (.inl (by omega))⟩
      · simp only [D.rep]
        refine ⟨_, rfl, ?_⟩
        rw [show ((vs.toList.take o ++ ys ++ vs.toList.drop (o + ys.length)).toArray).toList = vs.toList.take o ++ ys ++ vs.toList.drop (o + ys.length) by simp, hyl]
        refine Go.Pm.repL_mono (fun _ _ hx => hx) _ _ _ (hA _ _) ?_
        exact repL_join (repL_join (repL_take hr) hy) (repL_drop hr)
      · have := congrArg List.length hu
        simp only [Array.length_toList] at this
        rw [this]
        simp only [List.length_append, List.length_take, List.length_drop]; omega
      · show (cs.take o ++ yds ++ cs.drop (o + yds.length)).length = sz
        simp only [List.length_append, List.length_take, List.length_drop]; omega
      · intro c hc
        rw [hu] at hc
        rcases List.mem_append.1 hc with hc | hc
        · rcases List.mem_append.1 hc with hc | hc
          · exact h3.2 c (List.mem_of_mem_take hc)
          · exact hone c hc
        · exact h3.2 c (List.mem_of_mem_drop hc)
      · rw [hu]
        refine rangeAt_join (rangeAt_join ?_ ?_) ?_
        · exact rangeAt_apart (rangeAt_head h4) (.inr (.inl (by simp only [List.length_take]; omega)))
        · rw [show off + (vs.toList.take o).length = off + o by simp only [List.length_take]; omega]
          exact World.rangeAt_setCells_same w b _ _ ht
        · rw [show off + (vs.toList.take o ++ ys).length = off + (o + ys.length) by simp only [List.length_append, List.length_take]; omega]
          exact rangeAt_apart (rangeAt_tail h4) (.inr (.inr (by omega)))
    | succ j =>
      simp only [List.set_cons_succ, repRows]
      have e : off + (j + 1) * sz + o = off + sz + j * sz + o := by rw [Nat.add_mul, Nat.one_mul]; omega
      rw [e] at ht ⊢
      exact ⟨v, [], [], rfl, D.rep_mono (fun _ _ hx => hx) x v [] (hA _ _) h1, h2, h3, rangeAt_apart h4 (.inr (.inl (by omega))), repRows_setAt hb hy hone hos h5 (by simpa using hj) ht⟩
theorem plain_there {b n o m : Nat} (h : Plain w b n) (hle : o + m ≤ n) : w.there b o m := by
  obtain ⟨cs, t, hb, hn⟩ := h
  intro j hj
  have : o + j < cs.size := by omega
  exact ⟨by simp [World.cell?, hb]; omega, by simp [World.frozen?, hb]⟩
theorem plain_setCells {b n o : Nat} {vs : List Value} (h : Plain w b n) : Plain (w.setCells b o vs) b n := by
  obtain ⟨cs, t, hb, hn⟩ := h
  exact ⟨_, t, setCells_heap vs o w cs hb, by rw [putAt_size]; exact hn⟩
theorem setCells_cell {b o i : Nat} {vs : List Value} {w : World} (h : i < o ∨ o + vs.length ≤ i) : (w.setCells b o vs).cell? ⟨b, i, none⟩ = w.cell? ⟨b, i, none⟩ := by
  have key : ∀ (vs : List Value) (o : Nat) (w : World), (i < o ∨ o + vs.length ≤ i) → (w.setCells b o vs).cell? ⟨b, i, none⟩ = w.cell? ⟨b, i, none⟩ := by
    intro vs
    induction vs with
    | nil => intro o w _; rfl
    | cons v vs ih =>
      intro o w h
      rw [World.setCells, ih (o + 1) _ (by simp only [List.length_cons] at h; omega)]
      simp only [World.cell?, World.setCell, Array.getElem?_modify, if_true]
      cases hb : w.heap[b]? with
      | none => rfl
      | some ob =>
        simp only [Option.map_some]
        have hne : o ≠ i := by simp only [List.length_cons] at h; omega
        cases ob with
        | cells cs t fr => simp [hne]
        | _ => rfl
  exact key vs o w h
theorem elKeys_mem : ∀ {els : List OE}, elKeys els = [] → ∀ e ∈ els, ∀ (c key : Nat), e.cells[c]? = some (.k key) → False
  | [], _, e, he, _, _, _ => by cases he
  | y :: r, h, e, he, c, key, hc => by
    simp only [elKeys, List.append_eq_nil_iff] at h
    have cells : ∀ (cs : List OC) (c : Nat), cellKeys cs = [] → cs[c]? = some (.k key) → False := by
      intro cs
      induction cs with
      | nil => intro c _ hc; simp at hc
      | cons y cs ih =>
        intro c hk hc
        cases y with
        | k n => simp [cellKeys] at hk
        | d x =>
          cases c with
          | zero => simp at hc
          | succ c => exact ih c hk (by simpa using hc)
    rcases List.mem_cons.1 he with rfl | he
    · exact cells _ c h.1 hc
    · exact elKeys_mem h.2 e he c key hc
theorem opn_mk {X : Nat → Prop} {p : Place} {sz : Nat} {xs : List D} {els : List OE} (h : (Ob.opn sz xs els).rep w X J p) : (mkOpn sz xs els).rep w X J p := by
  unfold mkOpn
  split
  · obtain ⟨h0, cap, h1, h2, hh, h3, h4, _, _⟩ := h
    exact ⟨h0, _, cap, by rw [baseXs_len]; exact h1, by rw [baseXs_len]; exact h2, .inr ⟨hh, rfl, h3, h4, fun h => by cases h⟩⟩
  · exact h
theorem op_storeDeep (tok : TOk P cx.T) (r : Rel X0 J st a w) (hd : ∀ d, o.dst = some d → d < a.tmps.size) (hn : Leads P X0 J a w K next) {t : TypeId} {x y : Operand} (hop : o.op = .store t x y)
    {k j off sz : Nat} {p : Place} (hp : J k = some p) (hx : a.eval x = .pointer (some ⟨p.blk, j * sz + off, none⟩)) {v : AV} (hy : st.ev y = some v) {ob : Ob} (hob : look k st.obj = some ob) {xs : List D} {els : List OE} (hels : openAny ob = some (sz, xs, els))
    (hc : evCmd P cx o.dst (pickEl xs j (storeDeep (look · st.obj) (tdOf P t) k sz off xs v) els []) st K) : o.wp P a w next Q := by
  obtain ⟨p', hp', hrep⟩ := r.mem.ob k ob hob
  rw [hp] at hp'; cases hp'
  have hopn := opn_of' hels hrep hc
  obtain ⟨e, others, rfl, hr, hc⟩ := pick_ok (passed := []) (by simpa using hopn) hc (by simp)
  unfold storeDeep at hc
  split at hc
  case h_1 => exact hc.elim
  rename_i yd ks habs
  obtain ⟨bs, hyr, hperm⟩ := absorb_rep r.mem v _ yd ks habs (r.ev hy)
  split at hc
  case h_1 => exact hc.elim
  rename_i hck
  simp only [Bool.and_eq_true, Bool.not_eq_true'] at hck
  obtain ⟨⟨⟨⟨hb1, hb2⟩, hone1⟩, hkk⟩, hndk⟩ := hck
  have hylen : yd.cells.length = P.cellsOf t := Nat.eq_of_beq_eq_true hb1
  have hpos : 0 < (tdOf P t).size := by simpa [Nat.blt_eq] using hb2
  have hpos : 0 < P.cellsOf t := hpos
  have hkks : k ∉ ks := fun hm => by rw [(has_iff k ks).2 hm] at hkk; cases hkk
  have hc' : (match setCells off (ocsOf yd.cells) e.cells with
      | some cs => evCmd P cx o.dst (.put k (mkOpn sz xs (renEls (without ks) (⟨e.i, e.ag, cs⟩ :: others))) ks) st K
      | none => False) := by
    split at hc
    · exact hc.elim
    · split at hc
      · rename_i cs hcs; rw [hcs]; exact hc
      · rename_i hcs; exact hc.elim
  clear hc
  split at hc'
  case h_2 => exact hc'.elim
  rename_i cs hset
  simp only [evCmd] at hc'
  split at hc'
  case h_2 => exact hc'.elim
  rename_i hbig
  obtain ⟨hcs, hlen⟩ := setCells_some hset
  rw [ocs_length] at hcs
  have hlen : off + yd.cells.length ≤ e.cells.length := by
    rcases hlen with h | h
    · have := congrArg List.length h
      rw [ocs_length] at this
      simp at this
      rw [this] at hylen; simp at hylen; omega
    · rw [ocs_length] at h; exact h
  generalize hmid : (e.cells.drop off).take yd.cells.length = mid
  have hml : mid.length = yd.cells.length := by rw [← hmid, List.length_take, List.length_drop]; omega
  have hsplit : e.cells = e.cells.take off ++ mid ++ e.cells.drop (off + yd.cells.length) := by
    have h1 : e.cells.drop off = mid ++ e.cells.drop (off + yd.cells.length) := by
      rw [← hmid, ← List.drop_drop]
      exact (List.take_append_drop _ _).symm
    rw [List.append_assoc, ← h1, List.take_append_drop]
  have hpl : (e.cells.take off).length = off := by rw [List.length_take]; omega
  obtain ⟨b1, bm, b2, um, hnest, hum, hone, hrg, hul, hput⟩ := opn_at hr hsplit
  rw [hpl] at hrg hput
  obtain ⟨h0, cap, h1, h2, hh, h3, h4, h5, h6⟩ := hr
  obtain ⟨⟨g1, g2, g3, g4⟩, g5⟩ := h6 e (List.mem_cons_self ..)
  have hyc := D.cells_rep hyr
  have hvl := repL_length hyc
  simp only [Array.length_toList] at hvl
  have hones : ∀ u ∈ (a.eval y).cells.toList, u.oneCell' = true := by
    have key : ∀ {l : List D} {us : List Value} {bs : List Nat}, repL w (Xof X0 J) l us bs → allOneD l = true → ∀ u ∈ us, u.oneCell' = true := by
      intro l
      induction l with
      | nil => intro us bs h _; simp only [repL] at h; rw [h.1]; simp
      | cons z l ih =>
        intro us bs h h1 u hu
        simp only [repL] at h
        obtain ⟨u0, us', c1, c2, rfl, rfl, k1, k2⟩ := h
        have hz := allOneD_cells h1
        rcases List.mem_cons.1 hu with rfl | hu
        · have := hz z (List.mem_cons_self ..)
          cases z with
          | agg cs => cases this
          | b x => simp only [D.rep] at k1; rw [k1.1]; rfl
          | i k n => simp only [D.rep] at k1; rw [k1.1]; rfl
          | s l => simp only [D.rep] at k1; rw [k1.1]; rfl
          | sl u xs => simp only [D.rep] at k1; obtain ⟨_, _, a, c, hv, _⟩ := k1; rw [hv]; rfl
          | os sz dp xs => simp only [D.rep] at k1; obtain ⟨_, a, c, hv, _⟩ := k1; rw [hv]; rfl
          | junk => simp only [D.rep] at k1; exact k1.1
        · exact ih k2 (allOneD_of fun z hz' => hz z (List.mem_cons_of_mem _ hz')) u hu
    exact key hyc hone1
  obtain ⟨c0, tt, hheap, hcn⟩ := h3
  have hej : (e.i + 1) * sz ≤ cap * sz := Nat.mul_le_mul_right _ (by omega)
  rw [Nat.add_mul, Nat.one_mul] at hej
  have hle : e.i * sz + off + yd.cells.length ≤ cap * sz := by omega
  obtain ⟨ti, hti, hts⟩ : ∃ ti, P.info? t = some ti ∧ ti.size = P.cellsOf t := by
    cases hq : P.info? t with
    | some ti => exact ⟨ti, rfl, by simp [Program.cellsOf, hq]⟩
    | none => simp [Program.cellsOf, hq] at hpos
  have hst := run_storeAt_of (P := P) (w := w) (t := t) (off := e.i * sz + off) (v := a.eval y) hheap (by omega) hti (by omega) hones
  generalize hw1 : w.setCells p.blk (e.i * sz + off) (a.eval y).cells.toList = w1 at hst
  have hkept : Kept (· = p.blk) w w1 := by rw [← hw1]; exact kept_setCells _ _ _ _
  have hnd := r.mem.nd k p hp
  rw [p.fp_hd hh, hnest] at hnd
  obtain ⟨nb, nn⟩ := List.nodup_cons.1 hnd
  have hbsm : ∀ b, b ∈ bs → ∃ q pq, q ∈ ks ∧ J q = some pq ∧ b ∈ pq.fp := by
    intro b hb
    obtain ⟨q, hq, hbq⟩ := List.mem_flatMap.1 (hperm.mem_iff.1 hb)
    obtain ⟨pq, h1, h2⟩ := given_fp hbq
    exact ⟨q, pq, hq, h1, h2⟩
  have hbsx : ∀ b, b ∈ bs → b ∉ p.fp := by
    intro b hb hbp
    obtain ⟨q, pq, hq, hJq, hbq⟩ := hbsm b hb
    exact r.mem.sep q k pq p hJq hp (by rintro rfl; exact hkks hq) b hbq hbp
  have hbsn : bs.Nodup := hperm.nodup_iff.2 (given_nodup r.mem hndk)
  obtain ⟨J', hJ'⟩ : ∃ J' : Nat → Option Place, J' = fun q => if q = k then some ⟨p.blk, b1 ++ bs ++ b2, p.v, true⟩ else match without ks q with | some _ => J q | none => none := ⟨_, rfl⟩
  have Jk : J' k = some ⟨p.blk, b1 ++ bs ++ b2, p.v, true⟩ := by rw [hJ']; simp
  have Jo : ∀ q, q ≠ k → J' q = match without ks q with | some _ => J q | none => none := fun q hq => by rw [hJ']; simp [hq]
  have sub : ∀ b, b ∈ p.blk :: (b1 ++ bs ++ b2) → b ∈ p.fp ∨ b ∈ bs := by
    intro b hb
    rw [p.fp_hd hh, hnest]
    simp only [List.mem_cons, List.mem_append] at hb ⊢
    rcases hb with hb | (hb | hb) | hb
    · exact .inl (.inl hb)
    · exact .inl (.inr (.inl (.inl hb)))
    · exact .inr hb
    · exact .inl (.inr (.inr hb))
  have hX : ∀ b, b < w.heap.size → ¬ Xof X0 J b → ¬ Xof X0 J' b := by
    rintro b hb hx (h0 | ⟨q, pl, hq, hb'⟩)
    · exact hx (.inl h0)
    · by_cases e1 : q = k
      · subst e1; rw [Jk] at hq; cases hq
        rcases sub b hb' with h | h
        · exact hx (.inr ⟨_, p, hp, h⟩)
        · obtain ⟨q, pq, _, hJq, hbq⟩ := hbsm b h
          exact hx (.inr ⟨q, pq, hJq, hbq⟩)
      · rw [Jo q e1] at hq
        split at hq
        · exact hx (.inr ⟨q, pl, hq, hb'⟩)
        · cases hq
  have hAg : ∀ l : List Nat, p.blk ∉ l → Agree w w1 (Xof X0 J) l := by
    intro l hl b hb hxb
    refine hkept.block b hb fun e => ?_
    subst e
    rcases hxb with h | h
    · exact hl h
    · exact h (.inr ⟨k, p, hp, p.blk_fp hh⟩)
  have hth : w.there p.blk (e.i * sz + off) (a.eval y).cells.toList.length := plain_there ⟨c0, tt, hheap, hcn⟩ (by rw [Array.length_toList]; omega)
  have hcell : ∀ i, (i < e.i * sz + off ∨ e.i * sz + off + yd.cells.length ≤ i) → w1.cell? ⟨p.blk, i, none⟩ = w.cell? ⟨p.blk, i, none⟩ := by
    intro i hi
    rw [← hw1]
    exact setCells_cell (by rw [Array.length_toList]; omega)
  have hrows := hput (w' := w1) (X' := Xof X0 J') (mid' := ocsOf yd.cells) (um' := (a.eval y).cells.toList) (bm' := bs) (by rw [ocs_length, hml]) (by rw [ocD_ocs]; exact hone1)
    (by rw [ocD_ocs]; exact repL_mono hX _ _ _ (hAg bs fun hm => hbsx _ hm (p.blk_fp hh)) hyc) hones hX
    (hAg _ fun hm => nb (by rcases List.mem_append.1 hm with h | h <;> simp [h])) (fun i hi => hcell i (by rw [hml] at hi; exact hi))
    (by rw [← hw1]; exact World.rangeAt_setCells_same w p.blk _ _ hth)
  rw [← hcs] at hrows
  have hlikes : ∀ key q, J key = some q → ∀ key', without ks key = some key' → ∃ q', J' key' = some q' ∧ q.like q' := by
    intro key q hq key' hk'
    have := without_id hk'
    subst this
    by_cases e1 : key' = k
    · subst e1; rw [hp] at hq; cases hq; exact ⟨_, Jk, rfl, rfl⟩
    · exact ⟨q, by rw [Jo key' e1, hk']; exact hq, q.like_refl⟩
  have hnewrep : (Ob.opn sz xs (renEls (without ks) (⟨e.i, e.ag, cs⟩ :: others))).rep w1 (Xof X0 J') J' ⟨p.blk, b1 ++ bs ++ b2, p.v, true⟩ := by
    refine ⟨h0, cap, h1, h2, rfl, ?_, ?_, ?_, ?_⟩
    · rw [← hw1]; exact plain_setCells ⟨c0, tt, hheap, hcn⟩
    · rw [baseXs_ren]; exact hrows
    · rw [renEls_idx]; simpa using h5
    · intro e' he'
      obtain ⟨e0, h01, h02, h03, h04⟩ := renEls_mem he'
      have hnew : e0 = ⟨e.i, e.ag, cs⟩ ∨ e0 ∈ others := List.mem_cons.1 h01
      have shape : e0.i < xs.length ∧ e0.cells.length = sz ∧ (e0.ag = false → sz = 1) ∧ allOneD (ocD e0.cells) = true := by
        rcases hnew with rfl | ho
        · refine ⟨g1, ?_, g3, ?_⟩
          · show cs.length = sz
            rw [hcs]; simp only [List.length_append, List.length_take, List.length_drop, ocs_length]; omega
          · show allOneD (ocD cs) = true
            refine allOneD_of fun z hz => ?_
            rw [hcs, ocD_app, ocD_app, ocD_ocs] at hz
            have g4' := allOneD_cells g4
            rw [hsplit, ocD_app, ocD_app] at g4'
            rcases List.mem_append.1 hz with hz | hz
            · rcases List.mem_append.1 hz with hz | hz
              · exact g4' z (by simp [hz])
              · exact allOneD_cells hone1 z hz
            · exact g4' z (by simp [hz])
        · exact (h6 e0 (List.mem_cons_of_mem _ ho)).1
      refine ⟨⟨by rw [h02]; exact shape.1, by rw [h04, renCells_len]; exact shape.2.1, by rw [h03]; exact shape.2.2.1, by rw [h04, ocD_ren]; exact shape.2.2.2⟩, fun c key hkc => ?_⟩
      rw [h04] at hkc
      obtain ⟨k0, hk0, hf⟩ := renCells_get hkc
      have hclt : c < sz := by have := (List.getElem?_eq_some_iff.1 hk0).1; rw [shape.2.1] at this; exact this
      rcases hnew with rfl | ho
      ·
        have hk0' : cs[c]? = some (.k k0) := hk0
        have hout : c < off ∨ off + yd.cells.length ≤ c := by
          refine Classical.byContradiction fun hcon => ?_
          simp only [not_or, Nat.not_lt, Nat.not_le] at hcon
          rw [hcs, List.append_assoc, List.getElem?_append_right (by rw [hpl]; omega), hpl, List.getElem?_append_left (by rw [ocs_length]; omega)] at hk0'
          exact ocs_noKey hk0'
        have hold : e.cells[c]? = some (.k k0) := by
          rw [hsplit]
          rw [hcs] at hk0'
          rcases hout with hlt | hge
          · rw [List.append_assoc, List.getElem?_append_left (by rw [hpl]; omega)] at hk0' ⊢
            exact hk0'
          · rw [List.getElem?_append_right (by simp only [List.length_append, hpl, hml]; omega)]
            rw [List.getElem?_append_right (by simp only [List.length_append, hpl, ocs_length]; omega)] at hk0'
            simp only [List.length_append, hpl, hml, ocs_length] at hk0' ⊢
            exact hk0'
        obtain ⟨q, hq, hqc, hq1⟩ := g5 c k0 hold
        obtain ⟨q', hq', hl⟩ := hlikes k0 q hq key hf
        have hc2 := hcell (e.i * sz + c) (by omega)
        refine ⟨q', hq', ?_, by rw [hl.2]; exact hq1⟩
        rw [h02, hl.2]
        exact hc2.trans hqc
      · obtain ⟨q, hq, hqc, hq1⟩ := (h6 e0 (List.mem_cons_of_mem _ ho)).2 c k0 hk0
        obtain ⟨q', hq', hl⟩ := hlikes k0 q hq key hf
        have hne : e0.i ≠ e.i := by
          intro heq
          simp only [List.map_cons, List.nodup_cons] at h5
          exact h5.1 (by rw [← heq]; exact List.mem_map_of_mem (f := fun x : OE => x.i) ho)
        refine ⟨q', hq', ?_, by rw [hl.2]; exact hq1⟩
        rw [h02, hcell _ ?_, hl.2]
        · exact hqc
        · rcases Nat.lt_or_gt_of_ne hne with hlt | hgt
          · left
            have : (e0.i + 1) * sz ≤ e.i * sz := Nat.mul_le_mul_right _ hlt
            rw [Nat.add_mul, Nat.one_mul] at this
            omega
          · right
            have : (e.i + 1) * sz ≤ e0.i * sz := Nat.mul_le_mul_right _ hgt
            rw [Nat.add_mul, Nat.one_mul] at this
            omega
  have hgen := r.mem.gen (J' := J') (w' := w1) (f := without ks) (F := (· = p.blk)) (C := [k]) (obj' := fun q => look q ((st.ren (without ks)).set k (mkOpn sz xs (renEls (without ks) (⟨e.i, e.ag, cs⟩ :: others)))).obj)
    (fun q j h => without_id h) (fun q hq => without_small hbig hq)
    (fun q hq pl hpl' => by rw [List.mem_singleton.1 hq] at hpl' ⊢; rw [hp] at hpl'; cases hpl'; exact .inr ⟨_, Jk, rfl, rfl⟩)
    (fun q hq => Jo q fun h => hq (List.mem_singleton.2 h))
    (fun q hq => by
      rw [St.set_look, if_neg (fun h => hq (List.mem_singleton.2 h.symm))]
      show look q (renObj (without ks) st.obj) = _
      rw [look_renObj (fun q j h => without_id h)]
      cases without ks q <;> rfl)
    (fun q hq pl _ => by rw [List.mem_singleton.1 hq, St.set_look, if_pos rfl]; exact ⟨_, rfl⟩)
    (fun q hq ob hob' => by
      rw [List.mem_singleton.1 hq] at hob' ⊢
      rw [St.set_look, if_pos rfl] at hob'
      cases hob'
      exact ⟨_, Jk, opn_mk hnewrep⟩)
    hkept (fun b hb => ⟨k, p, hp, .inr (List.mem_singleton.2 rfl), by rw [hb]; exact p.blk_fp hh⟩)
    (fun q hq pl hpl' => by
      rw [List.mem_singleton.1 hq, Jk] at hpl'; cases hpl'
      show (p.blk :: (b1 ++ bs ++ b2)).Nodup
      rw [List.nodup_append] at nn
      obtain ⟨n1, n2, n3⟩ := nn
      rw [List.nodup_append] at n1
      have mem1 : ∀ b, b ∈ b1 → b ∈ p.fp := fun b hb => by rw [p.fp_hd hh, hnest]; simp [hb]
      have mem2 : ∀ b, b ∈ b2 → b ∈ p.fp := fun b hb => by rw [p.fp_hd hh, hnest]; simp [hb]
      refine List.nodup_cons.2 ⟨fun hm => ?_, List.nodup_append.2 ⟨List.nodup_append.2 ⟨n1.1, hbsn, fun x hx y hy e => ?_⟩, n2, fun x hx y hy e => ?_⟩⟩
      · rcases List.mem_append.1 hm with hm | hm
        · rcases List.mem_append.1 hm with hm | hm
          · exact nb (by simp [hm])
          · exact hbsx _ hm (p.blk_fp hh)
        · exact nb (by simp [hm])
      · subst e; exact hbsx _ hy (mem1 _ hx)
      · subst e
        rcases List.mem_append.1 hx with hx | hx
        · exact n3 x (List.mem_append_left _ hx) x hy rfl
        · exact hbsx _ hx (mem2 _ hy))
    (fun q hq pl hpl' b hb => by
      rw [List.mem_singleton.1 hq, Jk] at hpl'; cases hpl'
      left
      rcases sub b hb with h | h
      · exact ⟨k, p, hp, .inr (List.mem_singleton.2 rfl), h⟩
      · obtain ⟨q, pq, hq', hJq, hbq⟩ := hbsm b h
        exact ⟨q, pq, hJq, .inl (without_none hq'), hbq⟩)
    (fun q q' pl pl' hq hq' _ _ hne => absurd ((List.mem_singleton.1 hq).trans (List.mem_singleton.1 hq').symm) hne)
  obtain ⟨m', tr, stp⟩ := hgen
  unfold Oper.wp
  have hrun : (execOp a.eval o).run P w = .ok .skip w1 := by simp only [execOp, hop, hx, hst, Sem.run_bind, Result.andThen_ok, Sem.run_pure]
  rw [hrun]
  have r' : Rel X0 J' ((st.ren (without ks)).set k (mkOpn sz xs (renEls (without ks) (⟨e.i, e.ag, cs⟩ :: others)))) a w1 := ⟨fun q u hq => by
    have hq : look q (renEnv (without ks) st.env) = some u := hq
    rw [look_renEnv] at hq
    cases hl : look q st.env with
    | none => rw [hl] at hq; cases hq
    | some u0 =>
      rw [hl] at hq
      cases hq
      obtain ⟨uu, hu, hr'⟩ := r.env q u0 hl
      exact ⟨uu, hu, tr u0 uu hr'⟩, m', r.defers⟩
  refine hn _ J' _ w1 hc' (r'.put (u := undef) hd ?_) Act.put_size stp
  simp only [AV.rep]
  exact ⟨#[], rfl, by simp [AV.repL]⟩
theorem op_store (tok : TOk P cx.T) (r : Rel X0 J st a w) (hd : ∀ d, o.dst = some d → d < a.tmps.size) (hn : Leads P X0 J a w K next) {t : TypeId} {x y : Operand} (hop : o.op = .store t x y)
    (hc : evCmd P cx o.dst (opCmd cx.T o st) st K) : o.wp P a w next Q := by
  simp only [opCmd, hop] at hc
  split at hc
  case h_2 => exact hc.elim
  rename_i i hi
  have hti := tok t i hi
  subst hti
  have info : 0 < P.cellsOf t → ∃ i, P.info? t = some i ∧ i.size = P.cellsOf t := by
    intro h0
    cases hq : P.info? t with
    | some ti => exact ⟨ti, rfl, by simp [Program.cellsOf, hq]⟩
    | none => simp [Program.cellsOf, hq] at h0
  split at hc
  · rename_i k off hx
    split at hc
    case h_2 => exact hc.elim
    rename_i v hy
    split at hc
    case h_2 => exact hc.elim
    rename_i cells hk
    split at hc
    case h_2 => exact hc.elim
    rename_i hbeq
    simp only [Bool.and_eq_true] at hbeq
    obtain ⟨hb1, hb2⟩ := hbeq
    have hsz : v.cells.length = P.cellsOf t := Nat.eq_of_beq_eq_true hb1
    have hpos : 0 < (tdOf P t).size := by simpa [Nat.blt_eq] using hb2
    have hpos : 0 < P.cellsOf t := hpos
    split at hc
    case h_2 => exact hc.elim
    rename_i hone
    split at hc
    case h_2 => exact hc.elim
    rename_i cs hset
    obtain ⟨ti, hti, hts⟩ := info hpos
    exact op_store_var tok r hd hn hop hx hy hk hti (by omega) (by omega) hone hset hc
  · rename_i k s j off hx
    have hxv0 := r.ev hx
    simp only [AV.rep] at hxv0
    obtain ⟨p0, hp0, hxv0⟩ := hxv0
    split at hc
    case h_2 =>
      rename_i v hne hy
      split at hc
      case h_2 => exact hc.elim
      rename_i ob hob
      split at hc
      case h_2 => exact hc.elim
      rename_i sz xs els hels
      split at hc
      case h_2 => exact hc.elim
      rename_i hbeq
      have hss : s = sz := Nat.eq_of_beq_eq_true hbeq
      subst hss
      exact op_storeDeep tok r hd hn hop hp0 hxv0 hy hob hels hc
    case h_3 => exact hc.elim
    rename_i y' hy
    split at hc
    case h_2 =>
      rename_i ob hne hob
      split at hc
      case h_2 => exact hc.elim
      rename_i sz xs els hels
      split at hc
      case h_2 => exact hc.elim
      rename_i hbeq
      have hss : s = sz := Nat.eq_of_beq_eq_true hbeq
      subst hss
      exact op_storeDeep tok r hd hn hop hp0 hxv0 hy hob (openEls_any hels) hc
    case h_3 => exact hc.elim
    rename_i sz xs hk
    split at hc
    case h_2 =>
      split at hc
      case h_2 => exact hc.elim
      rename_i hbeq
      simp only [Bool.and_eq_true] at hbeq
      obtain ⟨hb1, hb2⟩ := hbeq
      have hss : s = sz := Nat.eq_of_beq_eq_true hb1
      subst hss
      have hpos : 0 < (tdOf P t).size := by simpa [Nat.blt_eq] using hb2
      have hpos : 0 < P.cellsOf t := hpos
      split at hc
      case h_2 => exact hc.elim
      rename_i hone
      split at hc
      case h_2 => exact hc.elim
      rename_i hyb
      have hyl : y'.cells.length = P.cellsOf t := Nat.eq_of_beq_eq_true hyb
      obtain ⟨el, hel, hc⟩ := hc
      simp only at hc
      split at hc
      case h_2 => exact hc.elim
      rename_i cs
      split at hc
      case h_2 => exact hc.elim
      rename_i cs' hset
      obtain ⟨e', hl'⟩ := setCells_some hset
      have hxv := r.ev hx
      simp only [AV.rep] at hxv
      obtain ⟨p, hp, hxv⟩ := hxv
      have hyv := r.ev hy
      simp only [AV.rep] at hyv
      obtain ⟨p', hp', hr⟩ := r.mem.ob _ _ hk
      rw [hp] at hp'; cases hp'
      have hj : j < xs.length := (List.getElem?_eq_some_iff.1 hel).1
      obtain ⟨g0, a0, cap, g1, g2, ⟨_, g3, _⟩ | ⟨hh, ga, g3, g4, g5⟩⟩ := hr
      · subst g3; simp at hj
      have hnest := g5 rfl
      rw [hnest] at g4
      have hcr := D.cells_rep hyv
      have hul := repL_length hcr
      simp only [Array.length_toList] at hul
      have hcs : cs.length = s := by
        have key : ∀ {xs : List D} {off j : Nat}, repRows w (Xof X0 J) p.blk s xs off [] → xs[j]? = some (.agg cs) → cs.length = s := by
          intro xs
          induction xs with
          | nil => intro off j _ hj; simp at hj
          | cons x xs ih =>
            intro off j h hj
            simp only [repRows] at h
            obtain ⟨v, b1, b2, hbs, h1, h2, h3, h4, h5⟩ := h
            obtain ⟨rfl, rfl⟩ := List.append_eq_nil_iff.1 hbs.symm
            cases j with
            | zero => simp only [List.getElem?_cons_zero, Option.some.injEq] at hj; subst hj; exact h3.1
            | succ j => exact ih h5 (by simpa using hj)
        exact key g4 hel
      have hoff : off + y'.cells.length ≤ s := by
        rcases hl' with hl' | hl'
        · rw [hl'] at hyl; simp at hyl; omega
        · omega
      have hle : j * s + (off + y'.cells.length) ≤ cap * s := by
        have : (j + 1) * s ≤ cap * s := Nat.mul_le_mul_right _ (by omega)
        rw [Nat.add_mul, Nat.one_mul] at this
        omega
      have hXb : Xof X0 J p.blk := .inr ⟨k, p, hp, p.blk_fp hh⟩
      obtain ⟨ti, hti, hts⟩ := info hpos
      obtain ⟨c0, tt, hcs0, hcn⟩ := g3
      have hones : ∀ u ∈ (a.eval y).cells.toList, u.oneCell' = true := by
        have := cells_rep (r.ev hy)
        cases y' with
        | agg l => exact oneAll this (by simpa [AV.cells, D.cells] using hone)
        | _ => exact oneAll this (by simpa [AV.cells, D.cells] using hone)
      have hst := run_storeAt_of (P := P) (w := w) (t := t) (off := j * s + off) (v := a.eval y) hcs0 (by omega) hti (by omega) hones
      refine wp_upd r hd hn (w1 := w.setCells p.blk (j * s + off) (a.eval y).cells.toList) hp hh (by simp only [execOp, hop, hxv, hst, Sem.run_bind, Result.andThen_ok, Sem.run_pure]) (kept_setCells _ _ _ _) ?_ hc
      refine ⟨g0, a0, cap, by simpa using g1, by simpa using g2, .inr ⟨hh, ga, plain_setCells ⟨c0, tt, hcs0, hcn⟩, ?_, fun _ => hnest⟩⟩
      rw [hnest, e']
      have hul' : (a.eval y).cells.toList.length = y'.cells.length := by rw [Array.length_toList]; exact hul.symm
      have := repRows_setAt (w := w) (o := off) (off := 0) (j := j) hXb hcr hones (by omega) g4 hel (by
        rw [Nat.zero_add]
        intro i hi
        have := plain_there (w := w) (o := j * s + off) (m := y'.cells.length) ⟨c0, tt, hcs0, hcn⟩ (by omega)
        exact this i (by omega))
      simpa using this
    split at hc
    case h_2 => exact hc.elim
    split at hc
    case h_2 => exact hc.elim
    rename_i hbeq
    simp only [Bool.and_eq_true] at hbeq
    obtain ⟨hb1, hb2⟩ := hbeq
    have hsz : sz = P.cellsOf t := Nat.eq_of_beq_eq_true hb1
    have hss : s = sz := Nat.eq_of_beq_eq_true hb2
    subst hss
    split at hc
    case h_2 => exact hc.elim
    rename_i hone
    obtain ⟨⟨hj, hyl⟩, hK⟩ := hc
    have hxv := r.ev hx
    simp only [AV.rep] at hxv
    obtain ⟨p, hp, hxv⟩ := hxv
    have hyv := r.ev hy
    simp only [AV.rep] at hyv
    obtain ⟨p', hp', hr⟩ := r.mem.ob _ _ hk
    rw [hp] at hp'; cases hp'
    obtain ⟨g0, a0, cap, g1, g2, ⟨_, g3, _⟩ | ⟨hh, ga, g3, g4, g5⟩⟩ := hr
    · subst g3; simp at hj
    have hnest := g5 rfl
    rw [hnest] at g4
    have hcr := D.cells_rep hyv
    have hul := repL_length hcr
    simp only [Array.length_toList] at hul
    have hyl' : y'.cells.length = s := by rw [hyl, hsz]; rfl
    have hle : j * s + s ≤ cap * s := by
      have : (j + 1) * s ≤ cap * s := Nat.mul_le_mul_right _ (by omega)
      rwa [Nat.add_mul, Nat.one_mul] at this
    have hXb : Xof X0 J p.blk := .inr ⟨k, p, hp, p.blk_fp hh⟩
    obtain ⟨ti, hti, hts⟩ := info (by omega)
    obtain ⟨c0, tt, hcs, hcn⟩ := g3
    have hones : ∀ u ∈ (a.eval y).cells.toList, u.oneCell' = true := by
      have := cells_rep (r.ev hy)
      cases y' with
      | agg l => exact oneAll this (by simpa [AV.cells, D.cells] using hone)
      | _ => exact oneAll this (by simpa [AV.cells, D.cells] using hone)
    have hst := run_storeAt_of (P := P) (w := w) (t := t) (off := j * s + 0) (v := a.eval y) hcs (by omega) hti (by omega) hones
    refine wp_upd r hd hn (w1 := w.setCells p.blk (j * s + 0) (a.eval y).cells.toList) hp hh (by simp only [execOp, hop, hxv, hst, Sem.run_bind, Result.andThen_ok, Sem.run_pure]) (kept_setCells _ _ _ _) ?_ hK
    refine ⟨g0, a0, cap, by simpa using g1, by simpa using g2, .inr ⟨hh, ga, plain_setCells ⟨c0, tt, hcs, hcn⟩, ?_, fun _ => hnest⟩⟩
    rw [hnest]
    have := repRows_set (w := w) hXb hyv (by omega) hyl' hones g4 hj (by rw [Nat.zero_add]; exact plain_there ⟨c0, tt, hcs, hcn⟩ hle)
    simpa using this
  · exact hc.elim
end
end Go.Pm
