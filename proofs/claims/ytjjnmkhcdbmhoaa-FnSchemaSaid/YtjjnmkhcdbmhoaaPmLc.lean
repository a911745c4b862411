/-
A walk of Go's code over values: copy, min, max, s[:0:0]; arrays made whole ahead of an operation.
-/
import Derived.Test.YtjjnmkhcdbmhoaaPmL
namespace Go.Pm
open Go
set_option linter.unusedVariables false
variable {P : Program}
section
variable {cx : Cx} {X0 : Nat → Prop} {J : Nat → Option Place} {st : St} {a : Act} {w : World} {o : Oper} {K : St → Prop} {next : Act → World → Prop} {Q : Exit → Act → World → Prop}

theorem argsTwo {args : Array Operand} {av xv : AV} (r : Rel X0 J st a w) (h : st.evs args.toList = some [av, xv]) : ∃ s x, args = #[s, x] ∧ st.ev s = some av ∧ st.ev x = some xv := by
  match hl : args.toList with
  | [s, x] =>
    rw [hl] at h
    refine ⟨s, x, by apply Array.ext'; simpa using hl, ?_⟩
    simp only [St.evs] at h
    split at h
    · rename_i v1 h1
      split at h
      · rename_i l1 hl1
        split at hl1
        · rename_i v2 h2
          simp only [Option.some.injEq] at hl1 h
          subst hl1
          simp only [List.cons.injEq] at h
          exact ⟨by rw [h1, h.1], by rw [h2, h.2.1]⟩
        · cases hl1
      · cases h
    · cases h
  | [] => rw [hl] at h; simp [St.evs] at h
  | [s] =>
    rw [hl] at h
    simp only [St.evs] at h
    split at h <;> simp at h
  | s :: x :: y :: l =>
    exfalso
    rw [hl] at h
    have := AV.repL_length (r.evs h)
    simp at this

theorem op_min (r : Rel X0 J st a w) (hd : ∀ d, o.dst = some d → d < a.tmps.size) (hn : Leads P X0 J a w K next) {args : Array Operand} {ts : Array TypeId} {b : Builtin} (hop : o.op = .call { callee := .builtin b, args := args, argTypes := ts }) (hb : b = .min ∨ b = .max)
    (hc : evCmd P cx o.dst (builtinC cx.T st b ts.toList args.toList) st K) : o.wp P a w next Q := by
  unfold builtinC at hc
  split at hc
  case h_1 => exact hc.elim
  rename_i vs hvs
  rcases hb with rfl | rfl
  · simp only at hc
    split at hc
    case h_2 => exact hc.elim
    rename_i k x k' y
    obtain ⟨rfl, hc⟩ := hc
    obtain ⟨s, z, rfl, hs, hz⟩ := argsTwo r hvs
    have h1 := r.ev hs
    have h2 := r.ev hz
    simp only [AV.rep, D.rep] at h1 h2
    refine wp_val r hd hn hc (u := .int k (if y < x then y else x)) (w' := w) ?_ (Same.refl w) (by simp [AV.rep, D.rep])
    simp [execOp, hop, resolve, invoke, builtin, h1.1, h2.1, Builtin.min_, Builtin.min2]
  · simp only at hc
    split at hc
    case h_2 => exact hc.elim
    rename_i k x k' y
    obtain ⟨rfl, hc⟩ := hc
    obtain ⟨s, z, rfl, hs, hz⟩ := argsTwo r hvs
    have h1 := r.ev hs
    have h2 := r.ev hz
    simp only [AV.rep, D.rep] at h1 h2
    refine wp_val r hd hn hc (u := .int k (if y > x then y else x)) (w' := w) ?_ (Same.refl w) (by simp [AV.rep, D.rep])
    simp [execOp, hop, resolve, invoke, builtin, h1.1, h2.1, Builtin.max_, Builtin.max2]

theorem flat_take {sz : Nat} : ∀ {us : List Value} {n : Nat}, (∀ u ∈ us, u.cells.size = sz) → n ≤ us.length → (flat us).take (n * sz) = flat (us.take n)
  | us, 0, _, _ => by simp [flat]
  | [], n + 1, _, h => by simp at h
  | u :: us, n + 1, hs, h => by
    have ih := flat_take (us := us) (n := n) (fun v hv => hs v (List.mem_cons_of_mem _ hv)) (by simpa using h)
    simp only [flat] at ih
    have hu : u.cells.toList.length = sz := by rw [Array.length_toList]; exact hs u (List.mem_cons_self ..)
    simp only [flat, List.flatMap_cons, List.take_succ_cons]
    rw [Nat.add_mul, Nat.one_mul, Nat.add_comm, ← hu, List.take_append, List.take_of_length_le (by omega), hu, Nat.add_sub_cancel_left, ih]

theorem repL_takeN {X : Nat → Prop} : ∀ {xs : List D} {us : List Value} {n : Nat}, repL w X xs us [] → repL w X (xs.take n) (us.take n) [] := repL_take

/-- The rows of an array some of which are written. -/
theorem repRows_over {X : Nat → Prop} {b sz lo : Nat} {xs ys : List D} {vs : List Value} (hb : X b) (h : repRows w X b sz xs 0 []) (hv : repL w X ys vs []) (hyl : ∀ y ∈ ys, y.cells.length = sz) (hvl : ∀ u ∈ vs, u.cells.size = sz ∧ ∀ c ∈ u.cells.toList, c.oneCell' = true)
    (hle : lo + ys.length ≤ xs.length) (hth : w.there b (lo * sz) (flat vs).length) : repRows (w.setCells b (lo * sz) (flat vs)) X b sz (xs.take lo ++ ys ++ xs.drop (lo + ys.length)) 0 [] := by
  obtain ⟨us, q1, q2, q3, q4⟩ := repRows_inv h
  have hul := repL_length q1
  have hvl' := repL_length hv
  have hA : Agree w (w.setCells b (lo * sz) (flat vs)) X [] := by
    intro c hc hx
    refine (kept_setCells b _ _ w).block c hc fun e => ?_
    rcases hx with hx | hx
    · cases hx
    · exact hx (e ▸ hb)
  have hall := repL_join (repL_join (repL_take (n := lo) q1) hv) (repL_drop (n := lo + ys.length) q1)
  have hsz : ∀ u ∈ us.take lo ++ vs ++ us.drop (lo + ys.length), u.cells.size = sz ∧ ∀ c ∈ u.cells.toList, c.oneCell' = true := by
    intro u hu
    rcases List.mem_append.1 hu with hu | hu
    · rcases List.mem_append.1 hu with hu | hu
      · exact q3 u (List.mem_of_mem_take hu)
      · exact hvl u hu
    · exact q3 u (List.mem_of_mem_drop hu)
  have hru := rangeAt_flat (off := 0) (fun u hu => (q3 u hu).1) q4
  have hsplit : flat us = flat (us.take lo) ++ flat ((us.drop lo).take ys.length) ++ flat (us.drop (lo + ys.length)) := by
    rw [← flat_append, ← flat_append, List.append_assoc, ← List.drop_drop, List.take_append_drop, List.take_append_drop]
  have l1 : (flat (us.take lo)).length = lo * sz := by
    rw [flat_length (fun u hu => (q3 u (List.mem_of_mem_take hu)).1), List.length_take, Nat.min_eq_left (by omega)]
  have l2 : (flat ((us.drop lo).take ys.length)).length = ys.length * sz := by
    rw [flat_length (fun u hu => (q3 u (List.mem_of_mem_drop (List.mem_of_mem_take hu))).1), List.length_take, List.length_drop, Nat.min_eq_left (by omega)]
  have l3 : (flat vs).length = ys.length * sz := by rw [flat_length (fun u hu => (hvl u hu).1), hvl']
  refine repRows_of (us := us.take lo ++ vs ++ us.drop (lo + ys.length)) (off := 0) (repL_mono (fun _ _ hx => hx) _ _ _ hA hall) ?_ hsz (rangeAt_rows (fun u hu => (hsz u hu).1) ?_)
  · intro y hy
    rcases List.mem_append.1 hy with hy | hy
    · rcases List.mem_append.1 hy with hy | hy
      · exact q2 y (List.mem_of_mem_take hy)
      · exact hyl y hy
    · exact q2 y (List.mem_of_mem_drop hy)
  · rw [hsplit] at hru
    obtain ⟨h12, h3⟩ := rangeAt_app.1 hru
    obtain ⟨h1, h2⟩ := rangeAt_app.1 h12
    rw [flat_append, flat_append]
    refine rangeAt_app.2 ⟨rangeAt_app.2 ⟨rangeAt_apart h1 (.inr (.inl (by omega))), ?_⟩, ?_⟩
    · rw [Nat.zero_add, l1]
      exact World.rangeAt_setCells_same w b _ _ hth
    · have e : 0 + (flat (us.take lo) ++ flat vs).length = 0 + (flat (us.take lo) ++ flat ((us.drop lo).take ys.length)).length := by simp only [List.length_append]; omega
      rw [e]
      refine rangeAt_apart h3 (.inr (.inr ?_))
      simp only [List.length_append]; omega

theorem op_copy (tok : TOk P cx.T) (r : Rel X0 J st a w) (hd : ∀ d, o.dst = some d → d < a.tmps.size) (hn : Leads P X0 J a w K next) {args : Array Operand} {ts : Array TypeId} (hop : o.op = .call { callee := .builtin .copy, args := args, argTypes := ts })
    (hc : evCmd P cx o.dst (builtinC cx.T st .copy ts.toList args.toList) st K) : o.wp P a w next Q := by
  unfold builtinC at hc
  split at hc
  case h_1 => exact hc.elim
  rename_i vs hvs
  simp only at hc
  split at hc
  case h_2 => exact hc.elim
  rename_i t t2 hts
  have hts' : ts = #[t, t2] := by apply Array.ext'; simpa using hts
  subst hts'
  split at hc
  case h_2 => exact hc.elim
  rename_i i i2 hi hi2
  have h1 := tok t i hi
  have h2 := tok t2 i2 hi2
  subst h1; subst h2
  split at hc
  case h_2 => exact hc.elim
  rename_i e hk
  have hu := kind_slice (P := P) (t := t) hk
  split at hc
  case h_2 => exact hc.elim
  rename_i ie hie
  have h3 := tok e ie hie
  subst h3
  -- the main part
  have main : ∀ {k s lo hi : Nat} {dv xv : AV}, vs = [dv, xv] → (∀ u, dv.rep w (Xof X0 J) J u → ∀ xs, look k st.obj = some (.arr s false xs) → lo ≤ hi → hi ≤ xs.length → ∃ p a1 c, J k = some p ∧ u = .slice a1 (hi - lo) c ∧ (lo < hi → a1 = some ⟨p.blk, lo * s, none⟩)) →
      evCmd P cx o.dst (copyC (look · st.obj) k s lo hi xv (tdOf P e).size (tdOf P t2).kind) st K → o.wp P a w next Q := by
    clear hc
    rintro k s lo hi dv xv rfl hdst hc
    obtain ⟨sd, sx, rfl, hsd, hsx⟩ := argsTwo r hvs
    unfold copyC at hc
    split at hc
    case h_2 => exact hc.elim
    rename_i sz xs hob
    split at hc
    case h_2 => exact hc.elim
    rename_i hbq
    simp only [Bool.and_eq_true] at hbq
    have hss := Nat.eq_of_beq_eq_true hbq.1
    subst hss
    have hse : s = P.cellsOf e := Nat.eq_of_beq_eq_true hbq.2
    have hob : look k st.obj = some (.arr s false xs) := hob
    obtain ⟨p', hp', hr⟩ := r.mem.ob k _ hob
    -- over any source
    have go : ∀ {ys : List D} {us : List Value}, hi ≤ xs.length → lo ≤ hi → (∀ y ∈ ys, y.cells.length = s) → repL w (Xof X0 J) ys us [] → (∀ u ∈ us, u.cells.size = s ∧ ∀ c ∈ u.cells.toList, c.oneCell' = true) →
        (Builtin.lenOf (a.eval sx)).run P w = .ok ys.length w → (∀ n, n ≤ ys.length → (Builtin.firstCells s n (a.eval sx)).run P w = .ok (flat (us.take n)).toArray w) →
        K ((st.set k (.arr s false (copied xs ys lo hi))).put o.dst (.d (.i .i64 (min (hi - lo) ys.length : Nat)))) → o.wp P a w next Q := by
      intro ys us hhi hlo hyl hv hvl hlen hcells hK
      obtain ⟨p, a1, c1, hp, hdv, haddr⟩ := hdst _ (r.ev hsd) xs hob hlo hhi
      obtain rfl : p = p' := by rw [hp] at hp'; exact Option.some.inj hp'
      obtain ⟨g0, a0, c0, g1, g2, g3⟩ := hr
      have hvs' := repL_length hv
      have hne : P.cellsOf e ≠ 0 := by omega
      obtain ⟨ei, hei⟩ : ∃ ei, P.info? e = some ei := by
        cases hq : P.info? e with
        | some ei => exact ⟨ei, rfl⟩
        | none => simp [Program.cellsOf, hq] at hne
      have hsize := run_sizeOf (P := P) w hei
      rw [← hse] at hsize
      obtain ⟨n, hn'⟩ : ∃ n, n = min (hi - lo) ys.length := ⟨_, rfl⟩
      have hmin : Nat.min ys.length (hi - lo) = n := by rw [hn']; exact Nat.min_comm _ _
      have hc0 := hcells n (by omega)
      have hcop : copied xs ys lo hi = xs.take lo ++ ys.take n ++ xs.drop (lo + (ys.take n).length) := by
        unfold copied
        have : ys.take (hi - lo) = ys.take n := by rw [hn', ← List.take_take, List.take_length]
        rw [this, List.length_take, hn']
        congr 3; omega
      rw [← hn'] at hK
      have hv' := repL_take (n := n) hv
      have hfl : (flat (us.take n)).length = n * s := by
        rw [flat_length (fun u hu => (hvl u (List.mem_of_mem_take hu)).1), List.length_take, Nat.min_eq_left (by omega)]
      by_cases hn0 : n = 0
      · -- nothing is written
        have hrun : (Builtin.copy_ #[t, t2] o.type #[a.eval sd, a.eval sx]).run P w = .ok (goInt n) w := by
          have hf0 : flat (us.take n) = [] := List.eq_nil_of_length_eq_zero (by rw [hfl, hn0, Nat.zero_mul])
          rw [hf0] at hc0
          cases a1 <;> simp [Builtin.copy_, run_underlying hu, hdv, hlen, hsize, hmin, hc0, storeCells]
        have hsame : copied xs ys lo hi = xs := by rw [hcop, hn0]; simp
        rw [hsame] at hK
        obtain ⟨m', hrep, hstep⟩ := Mem.gen (obj' := (look · (st.set k (.arr s false xs)).obj)) (J' := J) (w' := w) (f := some) (F := fun _ => False) (C := []) r.mem (fun k j h => (Option.some.inj h).symm) (fun _ _ => rfl) (by simp) (fun _ _ => rfl)
          (fun q _ => by
            rw [St.set_look]
            by_cases e1 : k = q
            · subst e1; rw [if_pos rfl]; simp only [hob, Option.map_some, Ob.ren]
            · rw [if_neg e1, ren_some_map]) (by simp) (by simp) (Kept.refl _ w) (fun _ h => h.elim) (by simp) (by simp) (by simp)
        unfold Oper.wp
        have hrun2 : (execOp a.eval o).run P w = .ok (.value (goInt n)) w := by simp [execOp, hop, resolve, invoke, builtin, hrun]
        rw [hrun2]
        have r' : Rel X0 J (st.set k (.arr s false xs)) a w := ⟨r.env, m', r.defers⟩
        exact hn _ J _ w hK (r'.put hd (by simp [AV.rep, D.rep, goInt])) Act.put_size hstep
      · have hlt : lo < hi := by omega
        have ha1 := haddr hlt
        subst ha1
        rcases g3 with ⟨_, g3, _⟩ | ⟨hh, ga, g3, g4, g5⟩
        · subst g3; simp at hhi; omega
        · have hnest := g5 rfl
          rw [hnest] at g4
          obtain ⟨cs, tt, hcs, hcn⟩ := g3
          have hbnd : lo + n ≤ c0 := by omega
          have hle2 : lo * s + n * s ≤ c0 * s := by rw [← Nat.add_mul]; exact Nat.mul_le_mul_right _ hbnd
          have hth : w.there p.blk (lo * s) (flat (us.take n)).length := plain_there ⟨cs, tt, hcs, hcn⟩ (by rw [hfl]; exact hle2)
          have hst := run_storeCells_cells (P := P) p.blk (lo * s) (flat (us.take n)) 0 w (fun j hj => by simpa using (hth j hj).1) (fun j hj => by simpa using (hth j hj).2) (flat_ones fun u hu => (hvl u (List.mem_of_mem_take hu)).2)
          simp only [Nat.add_zero] at hst
          have hrun : (Builtin.copy_ #[t, t2] o.type #[a.eval sd, a.eval sx]).run P w = .ok (goInt n) (w.setCells p.blk (lo * s) (flat (us.take n))) := by
            simp [Builtin.copy_, run_underlying hu, hdv, hlen, hsize, hmin, hc0, hst]
          have hXb : Xof X0 J p.blk := .inr ⟨k, p, hp, p.blk_fp hh⟩
          have hnl : (ys.take n).length = n := by rw [List.length_take]; omega
          have hrows := repRows_over (lo := lo) hXb g4 hv' (fun y hy => hyl y (List.mem_of_mem_take hy)) (fun u hu => hvl u (List.mem_of_mem_take hu)) (by omega) hth
          rw [← hcop] at hrows
          have hcl : (copied xs ys lo hi).length = xs.length := by
            rw [hcop]; simp only [List.length_append, List.length_take, List.length_drop]; omega
          have hkept := kept_setCells p.blk (lo * s) (flat (us.take n)) w
          obtain ⟨m', hrep, hstep⟩ := Mem.upd (o0 := .arr s false (copied xs ys lo hi)) (obj' := (look · (st.set k (.arr s false (copied xs ys lo hi))).obj)) (w' := w.setCells p.blk (lo * s) (flat (us.take n))) r.mem hp hh (fun j => by
            rw [St.set_look]
            by_cases e : k = j
            · rw [if_pos e, if_pos e.symm]
            · rw [if_neg e, if_neg (Ne.symm e)]) hkept
            ⟨g0, a0, c0, by rw [hcl]; exact g1, by rw [hcl]; exact g2, .inr ⟨hh, ga, plain_setCells ⟨cs, tt, hcs, hcn⟩, by rw [hnest]; exact hrows, fun _ => hnest⟩⟩
          unfold Oper.wp
          have hrun2 : (execOp a.eval o).run P w = .ok (.value (goInt n)) (w.setCells p.blk (lo * s) (flat (us.take n))) := by simp [execOp, hop, resolve, invoke, builtin, hrun]
          rw [hrun2]
          have r' : Rel X0 J (st.set k (.arr s false (copied xs ys lo hi))) a (w.setCells p.blk (lo * s) (flat (us.take n))) := ⟨fun t x hx => let ⟨u, hu, h⟩ := r.env t x hx; ⟨u, hu, hrep _ _ h⟩, m', r.defers⟩
          exact hn _ J _ _ hK (r'.put hd (by simp [AV.rep, D.rep, goInt])) Act.put_size hstep
    have hxv := r.ev hsx
    split at hc
    · -- a slice
      rename_i ys
      split at hc
      case h_2 => exact hc.elim
      obtain ⟨⟨c1, c2, c3⟩, hK⟩ := hc
      simp only [AV.rep, D.rep] at hxv
      obtain ⟨_, _, a2, c, hxe, hcap, hrows⟩ := hxv
      rcases hrows with rfl | ⟨b2, off2, sz2, hne, rfl, hsz2, hrows, hX⟩
      · refine go (us := []) c1 c2 c3 (by simp [repL]) (by simp) (by rw [hxe]; rfl) (fun n hn => ?_) hK
        have hn : n = 0 := by simpa using hn
        subst hn
        rw [hxe]
        cases a2 with
        | none => simp [Builtin.firstCells, flat]
        | some ad => simp [Builtin.firstCells, flat, loadCells, loadCellsFrom]
      · obtain ⟨us, q1, q2, q3, q4⟩ := repRows_inv hrows
        have hs2 : sz2 = s := by
          cases ys with
          | nil => exact absurd rfl hne
          | cons y ys => rw [← q2 y (List.mem_cons_self ..), c3 y (List.mem_cons_self ..)]
        subst hs2
        refine go (us := us) c1 c2 c3 q1 q3 (by rw [hxe]; rfl) (fun n hn => ?_) hK
        rw [hxe]
        have hul := repL_length q1
        have hrg := rangeAt_flat (fun u hu => (q3 u hu).1) q4
        refine run_firstCells_some (P := P) w sz2 n ⟨b2, off2, none⟩ ys.length c (flat (us.take n)) ?_ (fun j u hj => ?_)
        · rw [flat_length (fun u hu => (q3 u (List.mem_of_mem_take hu)).1), List.length_take, Nat.min_eq_left (by omega)]
        · rw [Addr.add_mid]
          rw [← flat_take (fun u hu => (q3 u hu).1) (by omega)] at hj
          rw [List.getElem?_take] at hj
          split at hj
          · exact hrg j u hj
          · cases hj
    · -- a string
      rename_i l
      split at hc
      case h_2 => exact hc.elim
      split at hc
      case h_2 => exact hc.elim
      rename_i hb1
      have hs1 : s = 1 := Nat.eq_of_beq_eq_true hb1
      obtain ⟨⟨c1, c2⟩, hK⟩ := hc
      simp only [AV.rep, D.rep] at hxv
      have hlen : (u8s l).length = l.length := by simp [u8s]
      have key : ∀ l : List UInt8, repL w (Xof X0 J) (u8s l) (l.map fun c => Value.int .u8 (c.toNat : Int)) [] := by
        intro l
        induction l with
        | nil => simp [u8s, repL]
        | cons c l ih =>
          simp only [u8s, List.map_cons, repL, D.rep]
          exact ⟨_, _, [], [], rfl, rfl, ⟨rfl, rfl⟩, ih⟩
      refine go (us := l.map fun c => Value.int .u8 (c.toNat : Int)) c1 c2 ?_ (key l) ?_ ?_ (fun n hn => ?_) hK
      · intro y hy
        simp only [u8s, List.mem_map] at hy
        obtain ⟨c, _, rfl⟩ := hy
        rw [hs1]; rfl
      · intro u hu'
        simp only [List.mem_map] at hu'
        obtain ⟨c, _, rfl⟩ := hu'
        rw [hs1]
        exact ⟨rfl, by simp [Value.cells, Value.oneCell']⟩
      · rw [hxv.1, hlen]; simp [Builtin.lenOf, ByteArray.size]
      · rw [hxv.1, ← List.map_take, flat_ints]
        simp [Builtin.firstCells]
    · exact hc.elim
  split at hc
  · rename_i k s lo hi x
    refine main (k := k) (s := s) (lo := lo) (hi := hi) rfl (fun u hu' xs hob hlo hhi => ?_) hc
    simp only [AV.rep] at hu'
    obtain ⟨p, a0, n0, c0, a1, c1, hp, hpv, q1, q2, q3, hv, q4, q5⟩ := hu'
    exact ⟨p, a1, c1, hp, hv, fun h => (q5 h).2⟩
  · rename_i k x
    split at hc
    case h_2 => exact hc.elim
    rename_i s xs hob0
    refine main (k := k) (s := s) (lo := 0) (hi := xs.length) rfl (fun u hu' xs' hob hlo hhi => ?_) hc
    rw [hob0] at hob
    cases hob
    simp only [AV.rep] at hu'
    obtain ⟨p, hp, hv, _⟩ := hu'
    obtain ⟨p', hp', g0, a0, c0, g1, g2, g3⟩ := r.mem.ob _ _ hob0
    rw [hp] at hp'; cases hp'
    refine ⟨p, a0, c0, hp, by rw [hv, g1, Nat.sub_zero], fun h => ?_⟩
    rcases g3 with ⟨_, g3, _⟩ | ⟨_, ga, _⟩
    · subst g3; simp at h
    · rw [ga, Nat.zero_mul]
  · exact hc.elim

/-- s[:0:0] -/
theorem op_sliceNil (tok : TOk P cx.T) (r : Rel X0 J st a w) (hd : ∀ d, o.dst = some d → d < a.tmps.size) (hn : Leads P X0 J a w K next) {t : TypeId} {x m : Operand} {lo hi : Option Operand} (hop : o.op = .slice t x lo hi (some m))
    (hc : evCmd P cx o.dst (opCmd cx.T o st) st K) : o.wp P a w next Q := by
  simp only [opCmd, hop] at hc
  split at hc
  case h_2 => exact hc.elim
  rename_i v hx
  split at hc
  case h_2 => exact hc.elim
  split at hc
  case h_2 => exact hc.elim
  rename_i h
  split at hc
  case h_2 => exact hc.elim
  rename_i hz
  simp only [Bool.and_eq_true] at hz
  obtain ⟨⟨hv, hh⟩, hm⟩ := hz
  have zero : ∀ {y : Operand}, isZero (st.ev y) = true → ∃ k, a.eval y = .int k 0 := by
    intro y hy
    unfold isZero at hy
    split at hy
    · rename_i k hk
      have := r.ev hk
      simp only [AV.rep, D.rep] at this
      exact ⟨k, this.1⟩
    · cases hy
  obtain ⟨k1, hh⟩ := zero hh
  obtain ⟨k2, hm⟩ := zero hm
  have hxv := r.ev hx
  obtain ⟨a0, n, cap, hxe, hcap⟩ : ∃ a0 n cap, a.eval x = .slice a0 n cap ∧ n ≤ cap := by
    unfold isSlice at hv
    split at hv
    · simp only [AV.rep, D.rep] at hxv; obtain ⟨_, _, a0, cap, h1, h2, _⟩ := hxv; exact ⟨a0, _, cap, h1, h2⟩
    · simp only [AV.rep] at hxv; exact ⟨none, 0, 0, hxv, Nat.le_refl _⟩
    · simp only [AV.rep] at hxv; obtain ⟨p, a0, n0, c0, a1, c1, _, _, _, _, _, h1, h2, _⟩ := hxv; exact ⟨a1, _, c1, h1, h2⟩
    · cases hv
  unfold sliceNil at hc
  split at hc
  case h_1 => exact hc.elim
  rename_i i hi
  have hti := tok t i hi
  subst hti
  split at hc
  case h_2 => exact hc.elim
  rename_i e hk
  have hu := kind_slice (P := P) (t := t) hk
  split at hc
  case h_2 => exact hc.elim
  rename_i ie hie
  have hte := tok e ie hie
  subst hte
  split at hc
  case h_2 => exact hc.elim
  rename_i hpos
  have hpos : 0 < P.cellsOf e := by simpa [Nat.blt_eq, tdOf] using hpos
  cases hdst : o.dst with
  | none => rw [hdst] at hc; exact hc.elim
  | some d =>
    rw [hdst] at hc
    simp only [evCmd] at hc
    split at hc
    case h_2 => exact hc.elim
    rename_i hfree
    rw [← hdst] at hc
    have hue : P.elem t = e := by simp [Program.elem, hu]
    have hu' : P.underlying t = some (.slice (P.elem t)) := by rw [hue]; exact hu
    obtain ⟨ei, hei⟩ : ∃ ei, P.info? e = some ei := by
      cases hq : P.info? e with
      | some ei => exact ⟨ei, rfl⟩
      | none => simp [Program.cellsOf, hq] at hpos
    have hs := run_sizeOf (P := P) w hei
    have hrun : (execOp a.eval o).run P w = .ok (.value (.slice a0 0 0)) w := by
      simp [execOp, hop, hxe, Option.map_none, Option.map_some, run_sliceAt_slice (P := P) w t _ _ _ _ hu', run_slice_any (P := P) w t a0 n cap hu', Instr.sliceBounds, Instr.sliceBound, asIntOf, hh, hm, hue, hs, sliced]
    refine wp_fresh r hd hn (p := ⟨0, [], .slice a0 0 0, false⟩) (Nat.le_add_right _ _) hfree (Same.refl w) hrun rfl (fun h => by cases h) ?_ ?_ hc
    · intro J' hJ'
      exact ⟨hpos, a0, 0, rfl, Nat.le_refl _, .inl ⟨rfl, rfl, rfl⟩⟩
    · intro J' hJ'
      simp only [AV.rep]
      exact ⟨_, hJ', rfl, rfl⟩

/-! ### Whole again -/
theorem shut_rel (r : Rel X0 J st a w) (k : Nat) : ∃ J', Rel X0 J' (st.shut k) a w ∧ Step J w J' w := by
  unfold St.shut
  split
  · rename_i sz xs els hob
    obtain ⟨els', ks, he⟩ : ∃ els' ks, absorbEls (absorbK (look · st.obj) 10) els = (els', ks) := ⟨_, _, rfl⟩
    rw [he]
    simp only
    split
    · rename_i hck
      simp only [Bool.and_eq_true, Bool.not_eq_true'] at hck
      obtain ⟨⟨hkk, hndk⟩, hbig⟩ := hck
      have hkks : k ∉ ks := fun hm => by rw [(has_iff k ks).2 hm] at hkk; cases hkk
      obtain ⟨p, hp, hr⟩ := r.mem.ob k _ hob
      obtain ⟨nest', hrows, hperm⟩ := opn_whole (fun key y ks q h1 h2 => absorbK_rep r.mem 10 key y ks q h1 h2) hr he
      obtain ⟨h0, cap, h1, h2, hh, h3, h4, h5, h6⟩ := hr
      have hndp := r.mem.nd k p hp
      rw [p.fp_hd hh] at hndp
      obtain ⟨nb, nn⟩ := List.nodup_cons.1 hndp
      have hgiv : ∀ b, b ∈ ks.flatMap (given J) → ∃ q pq, q ∈ ks ∧ J q = some pq ∧ b ∈ pq.fp := by
        intro b hb
        obtain ⟨q, hq, hbq⟩ := List.mem_flatMap.1 hb
        obtain ⟨pq, g1, g2⟩ := given_fp hbq
        exact ⟨q, pq, hq, g1, g2⟩
      have hgp : ∀ b, b ∈ ks.flatMap (given J) → b ∉ p.fp := by
        intro b hb hbp
        obtain ⟨q, pq, hq, hJq, hbq⟩ := hgiv b hb
        exact r.mem.sep q k pq p hJq hp (by rintro rfl; exact hkks hq) b hbq hbp
      have sub : ∀ b, b ∈ p.blk :: nest' → b ∈ p.fp ∨ b ∈ ks.flatMap (given J) := by
        intro b hb
        rcases List.mem_cons.1 hb with rfl | hb
        · exact .inl (p.blk_fp hh)
        · rcases List.mem_append.1 (hperm.mem_iff.1 hb) with h | h
          · exact .inl (p.nest_fp hh h)
          · exact .inr h
      obtain ⟨J', hJ'⟩ : ∃ J' : Nat → Option Place, J' = fun q => if q = k then some ⟨p.blk, nest', p.v, true⟩ else match without ks q with | some _ => J q | none => none := ⟨_, rfl⟩
      have Jk : J' k = some ⟨p.blk, nest', p.v, true⟩ := by rw [hJ']; simp
      have Jo : ∀ q, q ≠ k → J' q = match without ks q with | some _ => J q | none => none := fun q hq => by rw [hJ']; simp [hq]
      have hX : ∀ b, b < w.heap.size → ¬ Xof X0 J b → ¬ Xof X0 J' b := by
        rintro b hb hx (h0 | ⟨q, pl, hq, hb'⟩)
        · exact hx (.inl h0)
        · by_cases e1 : q = k
          · subst e1; rw [Jk] at hq; cases hq
            rcases sub b hb' with h | h
            · exact hx (.inr ⟨_, p, hp, h⟩)
            · obtain ⟨q, pq, _, hJq, hbq⟩ := hgiv b h
              exact hx (.inr ⟨q, pq, hJq, hbq⟩)
          · rw [Jo q e1] at hq
            split at hq
            · exact hx (.inr ⟨q, pl, hq, hb'⟩)
            · cases hq
      have hgen := r.mem.gen (J' := J') (w' := w) (f := without ks) (F := fun _ => False) (C := [k]) (obj' := fun q => look q ((st.ren (without ks)).set k (.arr sz true (baseXs xs els'))).obj)
        (fun q j h => without_id h) (fun q hq => without_small hbig hq)
        (fun q hq pl hpl' => by rw [List.mem_singleton.1 hq] at hpl' ⊢; rw [hp] at hpl'; cases hpl'; exact .inr ⟨_, Jk, rfl, rfl⟩)
        (fun q hq => Jo q fun h => hq (List.mem_singleton.2 h))
        (fun q hq => by
          rw [St.set_look, if_neg (fun h => hq (List.mem_singleton.2 h.symm))]
          show look q (renObj (without ks) st.obj) = _
          rw [look_renObj (fun q j h => without_id h)]
          cases without ks q <;> rfl)
        (fun q hq pl _ => by rw [List.mem_singleton.1 hq, St.set_look, if_pos rfl]; exact ⟨_, rfl⟩)
        (fun q hq ob hob' => by
          rw [List.mem_singleton.1 hq] at hob' ⊢
          rw [St.set_look, if_pos rfl] at hob'
          cases hob'
          refine ⟨_, Jk, h0, _, cap, by rw [baseXs_len]; exact h1, by rw [baseXs_len]; exact h2, .inr ⟨rfl, rfl, h3, ?_, fun h => by cases h⟩⟩
          exact repRows_mono hX _ _ _ _ _ (fun _ _ _ => rfl) (fun _ => rfl) hrows)
        (Kept.refl _ w) (fun _ h => h.elim)
        (fun q hq pl hpl' => by
          rw [List.mem_singleton.1 hq, Jk] at hpl'; cases hpl'
          show (p.blk :: nest').Nodup
          refine List.nodup_cons.2 ⟨fun hm => ?_, hperm.nodup_iff.2 (List.nodup_append.2 ⟨nn, given_nodup r.mem hndk, fun x hx y hy e => ?_⟩)⟩
          · rcases List.mem_append.1 (hperm.mem_iff.1 hm) with h | h
            · exact nb h
            · exact hgp _ h (p.blk_fp hh)
          · subst e; exact hgp _ hy (p.nest_fp hh hx))
        (fun q hq pl hpl' b hb => by
          rw [List.mem_singleton.1 hq, Jk] at hpl'; cases hpl'
          left
          rcases sub b hb with h | h
          · exact ⟨k, p, hp, .inr (List.mem_singleton.2 rfl), h⟩
          · obtain ⟨q, pq, hq', hJq, hbq⟩ := hgiv b h
            exact ⟨q, pq, hJq, .inl (without_none hq'), hbq⟩)
        (fun q q' pl pl' hq hq' _ _ hne => absurd ((List.mem_singleton.1 hq).trans (List.mem_singleton.1 hq').symm) hne)
      obtain ⟨m', tr, stp⟩ := hgen
      refine ⟨J', ⟨fun q u hq => ?_, m', r.defers⟩, stp⟩
      have hq : look q (renEnv (without ks) st.env) = some u := hq
      rw [look_renEnv] at hq
      cases hl : look q st.env with
      | none => rw [hl] at hq; cases hq
      | some u0 =>
        rw [hl] at hq
        cases hq
        obtain ⟨uu, hu, hr'⟩ := r.env q u0 hl
        exact ⟨uu, hu, tr u0 uu hr'⟩
    · exact ⟨J, r, Step.refl J w⟩
  · exact ⟨J, r, Step.refl J w⟩
theorem shuts_rel : ∀ (ks : List Nat) {st : St} {J : Nat → Option Place}, Rel X0 J st a w → ∃ J', Rel X0 J' (st.shuts ks) a w ∧ Step J w J' w
  | [], st, J, r => ⟨J, r, Step.refl J w⟩
  | k :: ks, st, J, r => by
    obtain ⟨J1, r1, s1⟩ := shut_rel r k
    obtain ⟨J2, r2, s2⟩ := shuts_rel ks r1
    exact ⟨J2, r2, s1.trans s2⟩
end
end Go.Pm
