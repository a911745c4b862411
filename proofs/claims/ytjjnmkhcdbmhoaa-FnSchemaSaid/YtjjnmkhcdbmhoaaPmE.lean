/-
A walk of Go's code over values: operations that read memory, and reckon.
-/
import Derived.Test.YtjjnmkhcdbmhoaaPmDb
namespace Go.Pm
open Go
set_option linter.unusedVariables false
variable {P : Program}
section
variable {cx : Cx} {X0 : Nat → Prop} {J : Nat → Option Place} {st : St} {a : Act} {w : World} {o : Oper} {K : St → Prop} {next : Act → World → Prop} {Q : Exit → Act → World → Prop}

theorem Mem.var {X0 : Nat → Prop} {J : Nat → Option Place} {obj : Nat → Option Ob} {w : World} (m : Mem X0 J obj w) {k : Nat} {cells : List AV} (h : obj k = some (.var cells)) :
    ∃ p cs t, J k = some p ∧ (p.hd = true ∧ p.nest = []) ∧ w.heap[p.blk]? = some (.cells cs t (0, 0)) ∧ AV.repL w (Xof X0 J) J cells cs.toList := by
  obtain ⟨p, hp, hr⟩ := m.ob k _ h
  obtain ⟨hh, hn, cs, t, hc, hr⟩ := hr
  exact ⟨p, cs, t, hp, ⟨hh, hn⟩, hc, hr⟩

theorem rangeAt_heap {w : World} {b : Nat} {cs : Array Value} {t : TypeId} {fr : Nat × Nat} (h : w.heap[b]? = some (.cells cs t fr)) (off : Nat) : w.rangeAt b off (cs.toList.drop off) := by
  intro j v hv
  rw [List.getElem?_drop] at hv
  simp only [World.cell?, h]
  simpa using hv

theorem repRows_get {w : World} {X : Nat → Prop} {b sz : Nat} : ∀ {xs : List D} {off : Nat} {i : Nat} {x : D}, repRows w X b sz xs off [] → xs[i]? = some x →
    ∃ v, x.rep w X v [] ∧ v.cells.size = sz ∧ x.cells.length = sz ∧ w.rangeAt b (off + i * sz) v.cells.toList
  | [], off, i, x, _, h => by simp at h
  | y :: xs, off, i, x, hr, h => by
    simp only [repRows] at hr
    obtain ⟨v, b1, b2, hb, h1, h2, h3, h4, h5⟩ := hr
    obtain ⟨rfl, rfl⟩ := List.append_eq_nil_iff.1 hb.symm
    cases i with
    | zero => simp at h; subst h; exact ⟨v, h1, h2, h3.1, by simpa using h4⟩
    | succ i =>
      obtain ⟨v', g1, g2, g3, g4⟩ := repRows_get h5 (by simpa using h)
      exact ⟨v', g1, g2, g3, by rw [Nat.add_mul, Nat.one_mul, Nat.add_comm (i * sz) sz, ← Nat.add_assoc]; exact g4⟩

theorem op_load (tok : TOk P cx.T) (r : Rel X0 J st a w) (hd : ∀ d, o.dst = some d → d < a.tmps.size) (hn : Leads P X0 J a w K next) {t : TypeId} {x : Operand} (hop : o.op = .load t x)
    (hc : evCmd P cx o.dst (opCmd cx.T o st) st K) : o.wp P a w next Q := by
  simp only [opCmd, hop] at hc
  split at hc
  · rename_i i hi
    have hti := tok t i hi
    subst hti
    have run : ∀ {b off : Nat} {vs : List Value} {u : Value}, a.eval x = .pointer (some ⟨b, off, none⟩) → w.rangeAt b off vs →
        ((∃ fs, P.underlying t = some (.struct fs) ∧ u = .agg (vs.take (P.cellsOf t)).toArray ∧ P.cellsOf t ≤ vs.length) ∨ (∃ d, P.underlying t = some d ∧ d.isRow = false ∧ vs[0]? = some u)) →
        (execOp a.eval o).run P w = .ok (.value u) w := by
      intro b off vs u hx hv hu
      simp [execOp, hop, hx, run_loadAt_of hv hu]
    split at hc
    · rename_i k off hx
      have hv := r.ev hx
      simp only [AV.rep] at hv
      obtain ⟨p, hp, hv⟩ := hv
      split at hc
      · rename_i cells hk
        split at hc
        · rename_i l hl
          obtain ⟨rfl, hle⟩ := drop_some hl
          obtain ⟨p', cs, tt, hp', _, hcs, hr⟩ := r.mem.var hk
          rw [hp] at hp'; cases hp'
          obtain ⟨v, u, hK, hvr, hu⟩ := loadAs_ok (P := P) (t := t) (AV.repL_drop (n := off) hr) hc
          exact wp_val r hd hn hK (run hv (rangeAt_heap hcs off) hu) (Same.refl w) hvr
        · exact hc.elim
      · exact hc.elim
    · rename_i cs hx
      have hv := r.ev hx
      simp only [AV.rep] at hv
      obtain ⟨b, off, vs, hv, hne, hX, hr, hrange⟩ := hv
      obtain ⟨v, u, hK, hvr, hu⟩ := loadD_ok (P := P) (t := t) (J := J) hr hc
      exact wp_val r hd hn hK (run hv hrange hu) (Same.refl w) hvr
    · rename_i k s j off hx
      have hv := r.ev hx
      simp only [AV.rep] at hv
      obtain ⟨p, hp, hv⟩ := hv
      split at hc
      · rename_i sz xs hk
        split at hc
        case h_2 => exact hc.elim
        rename_i hbeq
        have hss : s = sz := Nat.eq_of_beq_eq_true hbeq
        simp only [evCmd] at hc
        obtain ⟨y, hy, hc⟩ := hc
        split at hc
        · rename_i l hl
          obtain ⟨rfl, hle⟩ := drop_some hl
          obtain ⟨p', hp', hr⟩ := r.mem.ob k _ hk
          rw [hp] at hp'; cases hp'
          obtain ⟨h0, a0, cap, h1, h2, ⟨_, h3, _⟩ | ⟨hh, ha, h3, h4, h5⟩⟩ := hr
          · subst h3; simp at hy
          rw [h5 rfl] at h4
          obtain ⟨v0, g1, g2, g3, g4⟩ := repRows_get h4 hy
          subst hss
          obtain ⟨v, u, hK, hvr, hu⟩ := loadD_ok (P := P) (t := t) (J := J) (repL_drop (n := off) (D.cells_rep g1)) hc
          refine wp_val r hd hn hK (run hv ?_ hu) (Same.refl w) hvr
          have := rangeAt_drop (n := off) g4
          simpa using this
        · exact hc.elim
      · rename_i ob hne hob
        split at hc
        case h_2 => exact hc.elim
        rename_i sz xs els hels
        split at hc
        case h_2 => exact hc.elim
        rename_i hbeq
        have hss : s = sz := Nat.eq_of_beq_eq_true hbeq
        subst hss
        exact op_loadDeep tok r hd hn hop hp hv hob hels hc
      · exact hc.elim
    · exact hc.elim
  · exact hc.elim

theorem parts_rep {w : World} {X : Nat → Prop} {J : Nat → Option Place} {x : AV} {v : Value} {cs : List AV} (h : x.rep w X J v) (hp : x.parts = some cs) : ∃ vs, v = .agg vs ∧ AV.repL w X J cs vs.toList := by
  have hc := cells_rep h
  unfold AV.parts at hp
  split at hp
  · cases hp; simp only [AV.rep] at h; exact h
  · cases hp
    simp only [AV.rep, D.rep] at h
    obtain ⟨vs, rfl, _⟩ := h
    exact ⟨vs, rfl, hc⟩
  · cases hp

theorem op_field (tok : TOk P cx.T) (r : Rel X0 J st a w) (hd : ∀ d, o.dst = some d → d < a.tmps.size) (hn : Leads P X0 J a w K next) {t : TypeId} {x : Operand} {f : Nat} (hop : o.op = .field t x f)
    (hc : evCmd P cx o.dst (opCmd cx.T o st) st K) : o.wp P a w next Q := by
  simp only [opCmd, hop] at hc
  split at hc
  · rename_i i hi
    have hti := tok t i hi
    subst hti
    split at hc
    · rename_i off ft fsz hf
      split at hc
      · rename_i fi hfi
        have hft := tok ft fi hfi
        subst hft
        split at hc
        · rename_i v hx
          split at hc
          case h_2 => exact hc.elim
          rename_i cs0 hparts
          split at hc
          · rename_i l hl
            obtain ⟨rfl, hle⟩ := drop_some hl
            have hv := r.ev hx
            obtain ⟨vs, hvs, hcs⟩ := parts_rep hv hparts
            unfold TD.field at hf
            split at hf
            · rename_i fs hk
              obtain ⟨fds, hu, rfl⟩ := kind_struct (P := P) (t := t) hk
              rw [List.getElem?_map] at hf
              cases hfd : fds.toList[f]? with
              | none => rw [hfd] at hf; cases hf
              | some fd =>
                rw [hfd] at hf
                simp only [Option.map_some, Option.some.injEq, Prod.mk.injEq] at hf
                obtain ⟨rfl, rfl, rfl⟩ := hf
                obtain ⟨v', u, hK, hvr, hu'⟩ := loadAs_ok (P := P) (t := fd.type) (AV.repL_drop (n := fd.offset) hcs) hc
                have hfd' : fds[f]? = some fd := by simpa using hfd
                refine wp_val r hd hn hK ?_ (Same.refl w) hvr
                have hpart : (part fd.type vs fd.offset).run P w = .ok u w := by
                  rcases hu' with ⟨fs2, hu2, rfl, hle2⟩ | ⟨d, hu2, hd2, hv2⟩
                  · have hagg : (isAgg fd.type).run P w = .ok true w := by
                      unfold isAgg
                      rw [Sem.run_bind, run_underlying hu2 w]
                      simp
                    simp only [part, Sem.run_bind, hagg, Result.andThen_ok, if_true, run_size hu2, Sem.run_pure]
                    congr 2
                    apply Array.ext'
                    simp [Array.toList_extract, List.extract]
                  · have hagg : (isAgg fd.type).run P w = .ok false w := by
                      unfold isAgg
                      rw [Sem.run_bind, run_underlying hu2 w]
                      cases d <;> simp_all
                    have : vs[fd.offset]? = some u := by
                      rw [List.getElem?_drop] at hv2
                      simpa using hv2
                    simp [part, hagg, this]
                simp [execOp, hop, hvs, Instr.field, run_underlying hu, hfd', asAgg, hpart]
            · cases hf
          · exact hc.elim
        · exact hc.elim
      · exact hc.elim
    · exact hc.elim
  · exact hc.elim

theorem op_fieldAddr (tok : TOk P cx.T) (r : Rel X0 J st a w) (hd : ∀ d, o.dst = some d → d < a.tmps.size) (hn : Leads P X0 J a w K next) {t : TypeId} {x : Operand} {f : Nat} (hop : o.op = .fieldAddr t x f)
    (hc : evCmd P cx o.dst (opCmd cx.T o st) st K) : o.wp P a w next Q := by
  simp only [opCmd, hop] at hc
  split at hc
  case h_2 => exact hc.elim
  rename_i i hi
  have hti := tok t i hi
  subst hti
  split at hc
  case h_2 => exact hc.elim
  rename_i off ft fsz hf
  unfold TD.field at hf
  split at hf
  case h_2 => cases hf
  rename_i fs hk
  obtain ⟨fds, hu, rfl⟩ := kind_struct (P := P) (t := t) hk
  rw [List.getElem?_map] at hf
  cases hfd : fds.toList[f]? with
  | none => rw [hfd] at hf; cases hf
  | some fd =>
    rw [hfd] at hf
    simp only [Option.map_some, Option.some.injEq, Prod.mk.injEq] at hf
    obtain ⟨rfl, rfl, hsz⟩ := hf
    have hfd' : fds[f]? = some fd := by simpa using hfd
    split at hc
    case h_2 => exact hc.elim
    rename_i hpos
    have run : ∀ {b o2 : Nat}, a.eval x = .pointer (some ⟨b, o2, none⟩) → (execOp a.eval o).run P w = .ok (.value (.pointer (some ⟨b, o2 + fd.offset, none⟩))) w := by
      intro b o2 hx
      obtain ⟨fi, hfi⟩ : ∃ fi, P.info? fd.type = some fi := by
        cases hq : P.info? fd.type with
        | some fi => exact ⟨fi, rfl⟩
        | none => rw [← hsz] at hpos; simp [Program.cellsOf, hq] at hpos
      have hs := run_sizeOf (P := P) w hfi
      have hne : ¬ P.cellsOf fd.type = 0 := by
        intro h0; rw [← hsz, h0] at hpos; cases hpos
      simp [execOp, hop, hx, Instr.fieldAt, run_underlying hu, hfd', Instr.sureAddr, fieldPlace, hs, hne, Addr.add_mid]
    split at hc
    · rename_i k off hx
      have hv := r.ev hx
      simp only [AV.rep] at hv
      obtain ⟨p, hp, hv⟩ := hv
      exact wp_val r hd hn hc (run hv) (Same.refl w) (by simp only [AV.rep]; exact ⟨p, hp, rfl⟩)
    · rename_i k s j off hx
      have hv := r.ev hx
      simp only [AV.rep] at hv
      obtain ⟨p, hp, hv⟩ := hv
      exact wp_val r hd hn hc (run hv) (Same.refl w) (by simp only [AV.rep]; exact ⟨p, hp, by rw [Nat.add_assoc]⟩)
    · rename_i cs hx
      have hv := r.ev hx
      simp only [AV.rep] at hv
      obtain ⟨b, off, vs, hv, hne, hX, hr, hrange⟩ := hv
      split at hc
      · rename_i c l hl
        obtain ⟨hl, hle⟩ := drop_some hl
        refine wp_val r hd hn hc (run hv) (Same.refl w) ?_
        simp only [AV.rep]
        have hr' := repL_drop (n := fd.offset) hr
        rw [hl] at hr'
        refine ⟨b, _, _, rfl, ?_, hX, hr', rangeAt_drop hrange⟩
        intro e
        rw [e] at hr'
        simp [repL] at hr'
      · exact hc.elim
    · exact hc.elim

theorem op_index (tok : TOk P cx.T) (r : Rel X0 J st a w) (hd : ∀ d, o.dst = some d → d < a.tmps.size) (hn : Leads P X0 J a w K next) {t : TypeId} {x j : Operand} (hop : o.op = .index t x j)
    (hc : evCmd P cx o.dst (opCmd cx.T o st) st K) : o.wp P a w next Q := by
  simp only [opCmd, hop] at hc
  split at hc
  case h_2 => exact hc.elim
  rename_i i hi
  have hti := tok t i hi
  subst hti
  split at hc
  case h_2 => exact hc.elim
  rename_i hk
  have hu := kind_str (P := P) (t := t) hk
  split at hc
  case h_2 => exact hc.elim
  rename_i l hx
  split at hc
  case h_2 => exact hc.elim
  rename_i k n hj
  have hv := r.ev hx
  have hjv := r.ev hj
  simp only [AV.rep, D.rep] at hv hjv
  obtain ⟨⟨h0, h1⟩, hc⟩ := hc
  refine wp_val r hd hn hc (u := .int .u8 (l.getD n.toNat 0).toNat) (w' := w) ?_ (Same.refl w) (by simp [AV.rep, D.rep])
  have hlt : n.toNat < l.length := by omega
  have hget : (ByteArray.mk l.toArray)[n.toNat]? = some (l.getD n.toNat 0) := by
    have : (ByteArray.mk l.toArray)[n.toNat]? = l.toArray[n.toNat]? := by
      simp only [getElem?_def]
      rfl
    rw [this]
    simp [List.getD_eq_getElem?_getD, hlt]
  simp [execOp, hop, hv.1, hjv.1, Instr.index, asIntOf, run_underlying hu, h0, hget]

theorem op_indexAddr (tok : TOk P cx.T) (r : Rel X0 J st a w) (hd : ∀ d, o.dst = some d → d < a.tmps.size) (hn : Leads P X0 J a w K next) {t : TypeId} {x j : Operand} (hop : o.op = .indexAddr t x j)
    (hc : evCmd P cx o.dst (opCmd cx.T o st) st K) : o.wp P a w next Q := by
  simp only [opCmd, hop] at hc
  split at hc
  case h_2 => exact hc.elim
  rename_i i hi
  have hti := tok t i hi
  subst hti
  split at hc
  case h_2 => exact hc.elim
  rename_i e hk
  have hu := kind_slice (P := P) (t := t) hk
  split at hc
  case h_2 => exact hc.elim
  rename_i ie hie
  have hte := tok e ie hie
  subst hte
  split at hc
  case h_2 => exact hc.elim
  rename_i k n hj
  have hjv := r.ev hj
  simp only [AV.rep, D.rep] at hjv
  have run : ∀ {b off len cap sz : Nat}, 0 < sz → P.cellsOf e = sz → a.eval x = .slice (some ⟨b, off, none⟩) len cap → 0 ≤ n → n < len →
      (execOp a.eval o).run P w = .ok (.value (.pointer (some ⟨b, off + n.toNat * sz, none⟩))) w := by
    intro b off len cap sz hsz hce hx h0 h1
    obtain ⟨ei, hei⟩ : ∃ ei, P.info? e = some ei := by
      cases hq : P.info? e with
      | some ei => exact ⟨ei, rfl⟩
      | none => simp [Program.cellsOf, hq] at hce; omega
    have hs := run_sizeOf (P := P) w hei
    rw [hce] at hs
    simp [execOp, hop, hx, hjv.1, Instr.indexAt, asIntOf, run_underlying hu, h0, h1, hs, Addr.add_mid]
  split at hc
  · rename_i xs hx
    have hv := r.ev hx
    simp only [AV.rep, D.rep] at hv
    obtain ⟨_, _, a0, cap, hv, hcap, hrows⟩ := hv
    obtain ⟨h0, y, hy, hc⟩ := hc
    have hlt : n.toNat < xs.length := (List.getElem?_eq_some_iff.1 hy).1
    simp only at hc
    split at hc
    case h_2 => exact hc.elim
    rename_i hbeq
    have hsz' : y.cells.length = P.cellsOf e := Nat.eq_of_beq_eq_true hbeq
    rcases hrows with rfl | ⟨b, off, sz, hne, rfl, hsz, hrows, hX⟩
    · simp at hlt
    · obtain ⟨v, g1, g2, g3, g4⟩ := repRows_get hrows hy
      refine wp_val r hd hn hc (run hsz (hsz'.symm.trans g3) hv h0 (by omega)) (Same.refl w) ?_
      simp only [AV.rep]
      refine ⟨b, _, v.cells.toList, rfl, ?_, hX, D.cells_rep g1, g4⟩
      intro e0
      have : v.cells.size = 0 := by rw [← Array.length_toList, e0]; rfl
      omega
  · rename_i k0 hx
    have hv := r.ev hx
    simp only [AV.rep] at hv
    obtain ⟨p, hp, hv, _⟩ := hv
    split at hc
    · rename_i sz deep xs hk0
      split at hc
      case h_2 => exact hc.elim
      rename_i hbeq
      have hsz' : sz = P.cellsOf e := Nat.eq_of_beq_eq_true hbeq
      obtain ⟨⟨h0, h1⟩, hc⟩ := hc
      obtain ⟨p', hp', hr⟩ := r.mem.ob _ _ hk0
      rw [hp] at hp'; cases hp'
      obtain ⟨g0, a0, cap, g1, g2, ⟨_, g3, _⟩ | ⟨hh, rfl, g3, g4, g5⟩⟩ := hr
      · subst g3; simp at h1; omega
      refine wp_val r hd hn hc (run g0 hsz'.symm (hv.trans g1) h0 h1) (Same.refl w) ?_
      simp only [AV.rep]
      exact ⟨p, hp, by simp⟩
    · rename_i sz xs els hk0
      split at hc
      case h_2 => exact hc.elim
      rename_i hbeq
      have hsz' : sz = P.cellsOf e := Nat.eq_of_beq_eq_true hbeq
      obtain ⟨⟨h0, h1⟩, hc⟩ := hc
      obtain ⟨p', hp', hr⟩ := r.mem.ob _ _ hk0
      rw [hp] at hp'; cases hp'
      obtain ⟨g0, cap, g1, g2, _⟩ := hr
      refine wp_val r hd hn hc (run g0 hsz'.symm (hv.trans g1) h0 h1) (Same.refl w) ?_
      simp only [AV.rep]
      exact ⟨p, hp, by simp⟩
    · exact hc.elim
  · rename_i k0 s lo hi hx
    have hv := r.ev hx
    simp only [AV.rep] at hv
    obtain ⟨p, a0, n0, c0, a1, c1, hp, hpv, g1, g2, g3, hv, g4, g5⟩ := hv
    split at hc
    case h_2 => exact hc.elim
    rename_i hbeq
    have hsz' : s = P.cellsOf e := Nat.eq_of_beq_eq_true hbeq
    obtain ⟨⟨⟨h0, h1⟩, hs0⟩, hc⟩ := hc
    have hs0 : 0 < s := by rw [hsz']; exact hs0
    obtain ⟨_, rfl⟩ := g5 (by omega)
    refine wp_val r hd hn hc (run hs0 hsz'.symm hv h0 (by omega)) (Same.refl w) ?_
    simp only [AV.rep]
    exact ⟨p, hp, by rw [Nat.add_mul]; simp⟩
  · exact hc.elim

theorem repRows_drop {w : World} {X : Nat → Prop} {b sz : Nat} : ∀ {n : Nat} {xs : List D} {off : Nat}, repRows w X b sz xs off [] → repRows w X b sz (xs.drop n) (off + n * sz) [] ∨ xs.length < n
  | 0, xs, off, h => .inl (by simpa using h)
  | n + 1, [], off, h => .inr (by simp)
  | n + 1, x :: xs, off, h => by
    simp only [repRows] at h
    obtain ⟨v, b1, b2, hb, h1, h2, h3, h4, h5⟩ := h
    obtain ⟨rfl, rfl⟩ := List.append_eq_nil_iff.1 hb.symm
    rcases repRows_drop (n := n) h5 with g | g
    · left
      rw [Nat.add_mul, Nat.one_mul, Nat.add_comm (n * sz) sz, ← Nat.add_assoc]
      simpa using g
    · right; simpa using g
theorem repRows_take {w : World} {X : Nat → Prop} {b sz : Nat} : ∀ {n : Nat} {xs : List D} {off : Nat}, repRows w X b sz xs off [] → repRows w X b sz (xs.take n) off []
  | 0, xs, off, h => by simp [repRows]
  | n + 1, [], off, h => by simp [repRows]
  | n + 1, x :: xs, off, h => by
    simp only [repRows] at h
    obtain ⟨v, b1, b2, hb, h1, h2, h3, h4, h5⟩ := h
    obtain ⟨rfl, rfl⟩ := List.append_eq_nil_iff.1 hb.symm
    simp only [List.take_succ_cons, repRows]
    exact ⟨v, [], [], rfl, h1, h2, h3, h4, repRows_take h5⟩

theorem sl_slice {w : World} {X : Nat → Prop} {xs : List D} {v : Value} (hv : (D.sl false xs).rep w X v []) {l h : Nat} (hl : l ≤ h) (hh : h ≤ xs.length) {s : Nat} (hs : ∀ x ∈ xs, x.cells.length = s) :
    ∃ a cap, v = .slice a xs.length cap ∧ xs.length ≤ cap ∧ (D.sl false ((xs.take h).drop l)).rep w X (sliced a l h cap s) [] := by
  simp only [D.rep] at hv
  obtain ⟨_, _, a, cap, hv, hcap, hrows⟩ := hv
  refine ⟨a, cap, hv, hcap, ?_⟩
  have hlen : ((xs.take h).drop l).length = h - l := by rw [List.length_drop, List.length_take, Nat.min_eq_left hh]
  simp only [D.rep, sliced]
  refine ⟨trivial, trivial, _, cap - l, by rw [hlen], by rw [hlen]; omega, ?_⟩
  rcases Nat.eq_or_lt_of_le hl with e | hlt
  · left
    exact List.eq_nil_of_length_eq_zero (by rw [hlen]; omega)
  · right
    rcases hrows with rfl | ⟨b, off, sz, hne, rfl, hsz, hrows, hX⟩
    · simp at hh; omega
    · have hss : s = sz := by
        obtain ⟨y, hy⟩ : ∃ y, xs[0]? = some y := by
          cases xs with
          | nil => exact absurd rfl hne
          | cons y ys => exact ⟨y, rfl⟩
        obtain ⟨_, _, _, g3, _⟩ := repRows_get hrows hy
        rw [← g3]; exact (hs y (List.mem_of_getElem? hy)).symm
      subst hss
      rw [if_neg (by omega)]
      refine ⟨b, off + l * s, s, ?_, by simp [Addr.add_mid], hsz, ?_, hX⟩
      · intro e; rw [e] at hlen; simp at hlen; omega
      · rcases repRows_drop (n := l) (repRows_take (n := h) hrows) with g | g
        · exact g
        · rw [List.length_take, Nat.min_eq_left hh] at g; omega

theorem extract_mk (s : List UInt8) (l h : Nat) : (ByteArray.mk s.toArray).extract l h = ⟨((s.take h).drop l).toArray⟩ := by
  apply ByteArray.ext
  rw [ByteArray.data_extract]
  apply Array.ext'
  simp [List.extract, List.drop_take]

theorem op_slice (tok : TOk P cx.T) (r : Rel X0 J st a w) (hd : ∀ d, o.dst = some d → d < a.tmps.size) (hn : Leads P X0 J a w K next) {t : TypeId} {x : Operand} {lo hi : Option Operand} (hop : o.op = .slice t x lo hi none)
    (hc : evCmd P cx o.dst (opCmd cx.T o st) st K) : o.wp P a w next Q := by
  -- the bounds
  have bnd : ∀ {n : Nat} {f : Nat → Nat → AV} {lv hv : Option AV} {lo' hi' : Option Value},
      (∀ k n, lv = some (.d (.i k n)) → lo' = some (.int k n)) → (∀ k n, hv = some (.d (.i k n)) → hi' = some (.int k n)) → (lv = none → lo' = none) → (hv = none → hi' = none) →
      evCmd P cx o.dst (bounds n f lv hv) st K → ∃ l h, K (st.put o.dst (f l h)) ∧ l ≤ h ∧ h ≤ n ∧ (∀ w, (Instr.sliceBounds false n n lo' hi' none).run P w = .ok (l, h, n) w) ∧
        ∀ w cap, n ≤ cap → (Instr.sliceBounds true n cap lo' hi' none).run P w = .ok (l, h, cap) w := by
    intro n f lv hv lo' hi' hl hh hl0 hh0 hc
    unfold bounds at hc
    split at hc
    · rw [hl0 rfl, hh0 rfl]
      exact ⟨0, n, hc, Nat.zero_le _, Nat.le_refl _, fun w => by simp [Instr.sliceBounds], fun w cap hcap => by simp [Instr.sliceBounds]⟩
    · rename_i k m
      obtain ⟨⟨g1, g2⟩, hc⟩ := hc
      rw [hl _ _ rfl, hh0 rfl]
      exact ⟨_, _, hc, by omega, Nat.le_refl _, fun w => by simp [Instr.sliceBounds, Instr.sliceBound, asIntOf, g1, g2], fun w cap hcap => by simp [Instr.sliceBounds, Instr.sliceBound, asIntOf, g1, g2]⟩
    · rename_i k m
      obtain ⟨⟨g1, g2⟩, hc⟩ := hc
      rw [hl0 rfl, hh _ _ rfl]
      have g3 : ∀ cap : Nat, n ≤ cap → m ≤ cap := fun cap h => by omega
      exact ⟨_, _, hc, Nat.zero_le _, by omega, fun w => by simp [Instr.sliceBounds, Instr.sliceBound, asIntOf, g1, g2], fun w cap hcap => by simp [Instr.sliceBounds, Instr.sliceBound, asIntOf, g1, g3 cap hcap]⟩
    · rename_i k m k' m'
      obtain ⟨⟨g1, g2, g3⟩, hc⟩ := hc
      rw [hl _ _ rfl, hh _ _ rfl]
      have g4 : 0 ≤ m' := by omega
      have g5 : (m'.toNat : Int) = m' := Int.toNat_of_nonneg g4
      have g6 : ∀ cap : Nat, n ≤ cap → m' ≤ cap := fun cap h => by omega
      exact ⟨_, _, hc, by omega, by omega, fun w => by simp [Instr.sliceBounds, Instr.sliceBound, asIntOf, g1, g2, g3, g4, g5], fun w cap hcap => by simp [Instr.sliceBounds, Instr.sliceBound, asIntOf, g1, g2, g4, g5, g6 cap hcap]⟩
    · exact hc.elim
  -- a slice's run
  have runS : ∀ {e n cap l h : Nat} {a0 : Option Addr} {lo' hi' : Option Value}, P.underlying t = some (.slice e) → 0 < P.cellsOf e → a.eval x = .slice a0 n cap → n ≤ cap → lo' = lo.map a.eval → hi' = hi.map a.eval →
      (∀ w cap, n ≤ cap → (Instr.sliceBounds true n cap lo' hi' none).run P w = .ok (l, h, cap) w) → (execOp a.eval o).run P w = .ok (.value (sliced a0 l h cap (P.cellsOf e))) w := by
    intro e n cap l h a0 lo' hi' hu h0 hv hcap e1 e2 hb
    have hue : P.elem t = e := by simp [Program.elem, hu]
    have hu' : P.underlying t = some (.slice (P.elem t)) := by rw [hue]; exact hu
    obtain ⟨ei, hei⟩ : ∃ ei, P.info? e = some ei := by
      cases hq : P.info? e with
      | some ei => exact ⟨ei, rfl⟩
      | none => simp [Program.cellsOf, hq] at h0
    have hs := run_sizeOf (P := P) w hei
    subst e1; subst e2
    simp only [execOp, hop, hv, Option.map_none, Sem.run_bind, run_sliceAt_slice (P := P) w t _ _ _ _ hu', run_slice_any (P := P) w t a0 n cap hu', hb w cap hcap, Result.andThen_ok, hue, hs, Sem.run_pure]
  have main : ∀ {v : AV} {lv hv : Option AV} {lo' hi' : Option Value}, v.rep w (Xof X0 J) J (a.eval x) → lo' = lo.map a.eval → hi' = hi.map a.eval →
      (∀ k n, lv = some (.d (.i k n)) → lo' = some (.int k n)) → (∀ k n, hv = some (.d (.i k n)) → hi' = some (.int k n)) → (lv = none → lo' = none) → (hv = none → hi' = none) →
      evCmd P cx o.dst (sliceV cx.T st t v lv hv) st K → o.wp P a w next Q := by
    intro v lv hv lo' hi' hx e1 e2 hl hh hl0 hh0 hc
    unfold sliceV at hc
    split at hc
    · -- one of the walk's own
      rename_i k
      unfold sliceOwn at hc
      split at hc
      case h_1 => exact hc.elim
      rename_i i hi
      have hti := tok t i hi
      subst hti
      split at hc
      case h_2 => exact hc.elim
      rename_i e hk
      have hu := kind_slice (P := P) (t := t) hk
      split at hc
      case h_2 => exact hc.elim
      rename_i ie hie
      have hte := tok e ie hie
      subst hte
      split at hc
      case h_2 => exact hc.elim
      rename_i sz dp xs hob
      split at hc
      case h_2 => exact hc.elim
      rename_i hbeq
      have hsz' : sz = P.cellsOf e := Nat.eq_of_beq_eq_true hbeq
      obtain ⟨h0, hc⟩ := hc
      have h0 : 0 < P.cellsOf e := h0
      obtain ⟨l, h, hK, g1, g2, _, g3⟩ := bnd hl hh hl0 hh0 hc
      simp only [AV.rep] at hx
      obtain ⟨p, hp, hx, _⟩ := hx
      obtain ⟨p', hp', q0, a0, cap, q1, q2, q3⟩ := r.mem.ob _ _ hob
      rw [hp] at hp'; cases hp'
      refine wp_val r hd hn hK (runS hu h0 (hx.trans q1) q2 e1 e2 g3) (Same.refl w) ?_
      simp only [AV.rep, sliced]
      refine ⟨p, a0, xs.length, cap, _, cap - l, hp, q1, g1, g2, q2, rfl, by omega, fun hlt => ?_⟩
      rcases q3 with ⟨_, q3, _⟩ | ⟨_, q3, _⟩
      · subst q3; simp at g2; omega
      · subst q3
        rw [if_neg (by omega), ← hsz']
        simp [Addr.add_mid]
    · rename_i hno
      clear hno
      unfold sliceC at hc
      split at hc
      case h_1 => exact hc.elim
      rename_i i hi
      have hti := tok t i hi
      subst hti
      split at hc
      · -- a string
        rename_i s
        split at hc
        case h_2 => exact hc.elim
        rename_i hk
        have hu := kind_str (P := P) (t := t) hk
        simp only [AV.rep, D.rep] at hx
        obtain ⟨l, h, hK, g1, g2, g3, _⟩ := bnd hl hh hl0 hh0 hc
        refine wp_val r hd hn hK (u := .string ⟨((s.take h).drop l).toArray⟩) (w' := w) ?_ (Same.refl w) (by simp [AV.rep, D.rep])
        have hsz : (ByteArray.mk s.toArray).size = s.length := by simp [ByteArray.size]
        subst e1; subst e2
        simp [execOp, hop, hx.1, Instr.sliceAt, Instr.slice, run_underlying hu, hsz, g3, extract_mk]
      · -- a slice
        rename_i xs
        split at hc
        case h_2 => exact hc.elim
        rename_i e hk
        have hu := kind_slice (P := P) (t := t) hk
        split at hc
        case h_2 => exact hc.elim
        rename_i ie hie
        have hte := tok e ie hie
        subst hte
        obtain ⟨hcells, hc⟩ := hc
        simp only [AV.rep] at hx
        obtain ⟨l, h, hK, g1, g2, _, g3⟩ := bnd hl hh hl0 hh0 hc
        obtain ⟨a0, cap, hv, hcap, hr⟩ := sl_slice hx g1 g2 hcells.1
        exact wp_val r hd hn hK (runS hu hcells.2 hv hcap e1 e2 g3) (Same.refl w) hr
      · -- a window
        rename_i k s lo0 hi0
        split at hc
        case h_2 => exact hc.elim
        rename_i e hk
        have hu := kind_slice (P := P) (t := t) hk
        split at hc
        case h_2 => exact hc.elim
        rename_i ie hie
        have hte := tok e ie hie
        subst hte
        split at hc
        case h_2 => exact hc.elim
        rename_i hbeq
        have hsz' : s = P.cellsOf e := Nat.eq_of_beq_eq_true hbeq
        obtain ⟨h0, hc⟩ := hc
        have h0 : 0 < P.cellsOf e := h0
        simp only [AV.rep] at hx
        obtain ⟨p, a0, n0, c0, a1, c1, hp, q1, q2, q3, q4, hx, q5, q6⟩ := hx
        obtain ⟨l, h, hK, g1, g2, _, g3⟩ := bnd hl hh hl0 hh0 hc
        refine wp_val r hd hn hK (runS hu h0 hx q5 e1 e2 g3) (Same.refl w) ?_
        simp only [AV.rep, sliced]
        refine ⟨p, a0, n0, c0, _, c1 - l, hp, q1, by omega, by omega, q4, by rw [show lo0 + h - (lo0 + l) = h - l by omega], by omega, fun hlt => ?_⟩
        obtain ⟨q7, q8⟩ := q6 (by omega)
        refine ⟨q7, ?_⟩
        rw [q8, if_neg (by omega), ← hsz', Nat.add_mul]
        simp [Addr.add_mid]
      · exact hc.elim
  have evi : ∀ {y : Operand} {yv : AV}, st.ev y = some yv → ∀ k n, some yv = some (AV.d (.i k n)) → some (a.eval y) = some (Value.int k n) := by
    intro y yv hy k n e
    cases e
    have := r.ev hy
    simp only [AV.rep, D.rep] at this
    rw [this.1]
  simp only [opCmd, hop] at hc
  split at hc
  case h_2 => exact hc.elim
  rename_i v hx
  split at hc
  · split at hc
    · exact main (r.ev hx) rfl rfl (by intro k n h; cases h) (by intro k n h; cases h) (fun _ => rfl) (fun _ => rfl) hc
    · rename_i h
      split at hc
      · rename_i hv hh
        exact main (r.ev hx) rfl rfl (by intro k n h; cases h) (evi hh) (fun _ => rfl) (by intro e; cases e) hc
      · exact hc.elim
  · rename_i l
    split at hc
    · rename_i lv hl
      split at hc
      · exact main (r.ev hx) rfl rfl (evi hl) (by intro k n h; cases h) (by intro e; cases e) (fun _ => rfl) hc
      · rename_i h
        split at hc
        · rename_i hv hh
          exact main (r.ev hx) rfl rfl (evi hl) (evi hh) (by intro e; cases e) (by intro e; cases e) hc
        · exact hc.elim
    · exact hc.elim
end
end Go.Pm
