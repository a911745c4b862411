/-
strings.Builder: copyCheck, WriteString, String.
-/
import Derived.Test.YtjjnmkhcdbmhoaaPmT
import Derived.Test.YtjjnmkhcdbmhoaaPmLa
import Derived.Lib.Strings
import Derived.Lib.Slices
import Derived.Lib.Walk
import Derived.Lib.Builder
import Derived.Lib.UnsafeStr
import Derived.WalkKit
namespace Go.Pm
open Go
set_option linter.unusedVariables false
variable {P : Program}

/-- The builder at b holds l; but for it and its row, memory is as it was. -/
structure BldTo (w w' : World) (b : Nat) (own : Option Nat) (t e : TypeId) (l : List UInt8) : Prop where
  ob : ∃ q v, (q = .pointer none ∨ q = .pointer (some ⟨b, 0, none⟩)) ∧ w'.heap[b]? = some (.cells #[q, v] t (0, 0)) ∧ w'.ownsRowF 0 e 1 v l.length (Lib.byteCells l) ∧ ∀ g, v.ownBlock = some g → g ≠ b ∧ (own = some g ∨ w.heap.size ≤ g)
  os : w'.os = w.os
  tape : w'.tape = w.tape
  output : w'.output = w.output
  size : w.heap.size ≤ w'.heap.size
  block : ∀ k, k < w.heap.size → k ≠ b → own ≠ some k → w'.heap[k]? = w.heap[k]?

theorem ent_bld {f : FuncId} {xs : List AV} {R : AV} {t e : TypeId} {l l' : List UInt8} (hE : Enters P f)
    (h : ∀ (X : Nat → Prop) (J : Nat → Option Place) (w : World) (b : Nat) (q v : Value) (us : List Value), (q = .pointer none ∨ q = .pointer (some ⟨b, 0, none⟩)) → w.heap[b]? = some (.cells #[q, v] t (0, 0)) →
      w.ownsRowF 0 e 1 v l.length (Lib.byteCells l) → v.ownBlock ≠ some b → AV.repL w X J xs us →
      Calls P f (.pointer (some ⟨b, 0, none⟩) :: us).toArray w fun x w' => ∃ r, x = .returned r ∧ (∀ X J, R.rep w' X J r) ∧ BldTo w w' b v.ownBlock t e l') :
    Ent P f (.ptr 0 0 :: xs) [.bld t e l] R [.bld t e l'] := by
  refine ⟨hE, fun X0 J w vs hr hm => ?_⟩
  obtain ⟨p, hp, hh, q, v, hq, hb, ho, hnest⟩ := hm.ob 0 _ rfl
  simp only [AV.repL] at hr
  obtain ⟨u, us, hvs, ⟨p2, hp2, hu⟩, hus⟩ := hr
  rw [hp] at hp2; cases hp2
  have hk : ∀ k p', J k = some p' → k = 0 := by
    intro k p' hkp
    obtain ⟨o, ho⟩ := hm.dom k p' hkp
    cases k with
    | zero => rfl
    | succ k => cases ho
  have hfp : p.fp = p.blk :: p.nest := p.fp_hd hh
  have hnd := hm.nd 0 p hp
  rw [hfp] at hnd
  have hne : v.ownBlock ≠ some p.blk := by
    intro he
    rw [hnest, he] at hnd
    simp at hnd
  have e0 : vs = (.pointer (some ⟨p.blk, 0, none⟩) :: us).toArray := by
    apply Array.ext'; rw [hvs, hu]
  rw [e0]
  have hlt : p.blk < w.heap.size := (Array.getElem?_eq_some_iff.1 hb).1
  refine (h _ J w p.blk q v us hq hb ho hne hus).mono ?_
  rintro x w' ⟨r, rfl, hR, hT⟩
  obtain ⟨q', v', hq', hb', ho', hown'⟩ := hT.ob
  have mfp : ∀ b, b ∈ p.fp ↔ b = p.blk ∨ v.ownBlock = some b := by
    intro b; rw [hfp, hnest]; cases v.ownBlock <;> simp [eq_comm]
  refine ⟨R, [.bld t e l'], r, fun k => if k = 0 then some ⟨p.blk, v'.ownBlock.toList, p.v, p.hd⟩ else none, ⟨rfl, rfl⟩, rfl, hR _ _, ?_, ?_, ?_, ?_⟩
  · have mfp' : ∀ b, b ∈ (⟨p.blk, v'.ownBlock.toList, p.v, p.hd⟩ : Place).fp ↔ b = p.blk ∨ v'.ownBlock = some b := by
      intro b; rw [Place.fp_hd (p := ⟨p.blk, v'.ownBlock.toList, p.v, p.hd⟩) hh]; cases v'.ownBlock <;> simp [eq_comm]
    refine ⟨?_, ?_, ?_, ?_, ?_⟩
    · intro k o hko
      cases k with
      | zero => cases hko; exact ⟨_, rfl, hh, q', v', hq', hb', ho', rfl⟩
      | succ k => cases hko
    · intro k p' hkp
      cases k with
      | zero => exact ⟨_, rfl⟩
      | succ k => simp at hkp
    · intro k k' p1 p2 h1 h2 hne b hb1 hb2
      split at h1
      · split at h2
        · omega
        · cases h2
      · cases h1
    · intro k p1 h1
      split at h1
      · cases h1
        rw [Place.fp_hd (p := ⟨p.blk, v'.ownBlock.toList, p.v, p.hd⟩) hh]
        cases hv : v'.ownBlock with
        | none => simp
        | some g => have := (hown' g hv).1; simp; exact fun e => this e.symm
      · cases h1
    · intro b hx
      obtain ⟨hbw, hno⟩ := hm.x0 b hx
      have hnp := hno 0 p hp
      rw [mfp] at hnp
      refine ⟨Nat.lt_of_lt_of_le hbw hT.size, ?_⟩
      intro k p1 h1
      split at h1
      · cases h1
        rw [mfp']
        rintro (rfl | hg)
        · exact hnp (.inl rfl)
        · rcases (hown' b hg).2 with h2 | h2
          · exact hnp (.inr h2)
          · omega
      · cases h1
  · refine ⟨hT.os, hT.tape, hT.output, hT.size, ?_⟩
    intro b hbw hF
    have hnp : b ∉ p.fp := fun hm => hF ⟨0, p, hp, hm⟩
    rw [mfp] at hnp
    exact hT.block b hbw (fun e => hnp (.inl e)) (fun e => hnp (.inr e))
  · intro k p1 b h1 hbp
    dsimp only at h1
    split at h1
    · cases h1
      rw [Place.fp_hd (p := ⟨p.blk, v'.ownBlock.toList, p.v, p.hd⟩) hh] at hbp
      rcases List.mem_cons.1 hbp with rfl | hbp
      · exact .inl ⟨0, p, hp, by rw [mfp]; exact .inl rfl⟩
      · have hg : v'.ownBlock = some b := by
          cases hv : v'.ownBlock with
          | none => rw [hv] at hbp; cases hbp
          | some g => rw [hv] at hbp; simp at hbp; rw [hbp]
        rcases (hown' b hg).2 with h2 | h2
        · exact .inl ⟨0, p, hp, by rw [mfp]; exact .inr h2⟩
        · exact .inr h2
    · cases h1
  · intro k p1 h1
    cases hk k p1 h1
    rw [hp] at h1; cases h1
    exact ⟨_, rfl, rfl, rfl⟩
end Go.Pm
namespace Go.Proofs
open Go.Pm
set_option linter.unusedVariables false
set_option linter.unusedSimpArgs false
set_option maxHeartbeats 1000000 in
set_option maxRecDepth 100000 in
theorem Try.copyCheck_used (b : Nat) (w : World) (h0 : w.cell? ⟨b, 0, none⟩ = some (.pointer (some ⟨b, 0, none⟩))) :
    Calls Try.prog 52 #[.pointer (some ⟨b, 0, none⟩)] w fun e w' => e = .returned (.tuple #[]) ∧ w' = w := by
  obtain ⟨j, hj, _⟩ : ∃ j, Try.prog.info? 47 = some j ∧ j.size = 2 := Option.map_eq_some_iff.1 (by kernel_rfl : (Try.prog.info? 47).map (·.size) = some 2)
  go_enter Try.func52, Try.ntmps52
  go_wp2
  rw [Lib.run_neq_ptr_same w _ (by kernel_rfl : Try.prog.underlying 45 = some (.pointer 47)) hj]
  go_wp2
  go_end0
  exact ⟨rfl, rfl⟩
set_option maxHeartbeats 1000000 in
set_option maxRecDepth 100000 in
theorem Try.copyCheck_fresh (b : Nat) (w : World) (h0 : w.cell? ⟨b, 0, none⟩ = some (.pointer none)) (hsh : w.shape? b = some (47, 2)) (hfz : w.frozen? ⟨b, 0, none⟩ = false) :
    Calls Try.prog 52 #[.pointer (some ⟨b, 0, none⟩)] w fun e w' => e = .returned (.tuple #[]) ∧ w' = w.setCell ⟨b, 0, none⟩ (.pointer (some ⟨b, 0, none⟩)) := by
  obtain ⟨j, hj, hjs⟩ : ∃ j, Try.prog.info? 47 = some j ∧ j.size = 2 := Option.map_eq_some_iff.1 (by kernel_rfl : (Try.prog.info? 47).map (·.size) = some 2)
  have t70 : Try.prog.underlying 45 = some (.pointer 47) := by kernel_rfl
  have t164 : Try.prog.underlying 105 = some .unsafePointer := by kernel_rfl
  go_enter Try.func52, Try.ntmps52
  go_wp2
  rw [Lib.run_to_unsafe w ⟨b, 0, none⟩ t70 t164 hj (by rw [hjs]; decide) hsh (Nat.zero_lt_succ 1)]
  simp only [Result.andThen]
  rw [Oper.upon_value]
  go_wp2
  rw [run_callFunc_extern Try.func77 (by kernel_rfl) (by kernel_rfl) (by kernel_rfl) (e := Extern.AbiNoEscape.same) (by kernel_rfl)]
  rw [Lib.run_noEscape]
  simp only [Result.andThen]
  rw [Oper.upon_value]
  go_wp2
  rw [Lib.run_from_unsafe w ⟨b, 0, none⟩ t164 t70 hj hsh (by kernel_rfl : liesAt Try.prog Try.prog.depth 47 (2 / Try.prog.cellsOf 47) 0 47 1 = true)]
  simp only [Result.andThen]
  rw [Oper.upon_value]
  go_wp2
  go_end0
  exact ⟨rfl, rfl⟩
end Go.Proofs
/-
strings.Builder: WriteString, String.
-/
namespace Go.Pm
open Go
set_option linter.unusedVariables false
variable {P : Program}
theorem append_bld (w : World) (t u ty e : TypeId) (i : TypeInfo) (ht : P.underlying t = some (.slice e)) (hu : P.underlying u = some .string) (hi : P.info? e = some i) (hz : i.zero = some (.int .u8 0))
    (hsize : i.size = 1) (hby : i.bytes = 1) (v : Value) (n : Nat) (xs : List Value) (hown : w.ownsRowF 0 e 1 v n xs) (s : ByteArray) (hbytes : n + s.size ≤ 140737488355328) :
    ∃ v' w', (Builtin.append_ #[t, u] ty #[v, .string s]).run P w = .ok v' w' ∧ w'.ownsRowF 0 e 1 v' (n + s.size) (xs ++ Lib.strCells s) ∧ w.grownBy w' v.ownBlock ∧ ∀ g, v'.ownBlock = some g → v.ownBlock = some g ∨ w.heap.size ≤ g := by
  have h63 : n + s.size ≤ maxLen := by simp only [maxLen]; omega
  rcases hown.2 with ⟨rfl, rfl⟩ | ⟨g, cap, cur, fz, rfl, hbg, hg, hfz, hnc, hcm, hcs, htake⟩
  · obtain ⟨v', w', h1, h2, h3, h4⟩ := Lib.run_append_own_string (P := P) w w.heap.size t u ty e i ht hu hi hz hsize hby (.slice none 0 0) 0 xs ⟨hown.1, .inl ⟨rfl, rfl⟩⟩ s h63 hbytes (Nat.le_refl _)
    have h2F := World.ownsRowF_of h2
    refine ⟨v', w', h1, ⟨h2F.1, h2F.2.imp id ?_⟩, h3, fun g hg => .inr (h2F.lt g hg).1⟩
    rintro ⟨g, cap, cur, fz, e1, e2, e3⟩
    exact ⟨g, cap, cur, fz, e1, Nat.zero_le _, e3⟩
  · have hxl : xs.length = n := by simpa using hown.1
    have hlen : (xs ++ Lib.strCells s).length = (n + s.size) * 1 := by rw [List.length_append, hxl, Lib.strCells_length, Nat.mul_one]
    by_cases hroom : n + s.size ≤ cap
    · have hcs' : cur.size = cap := by simpa using hcs
      have hr := Lib.run_append_room_stringF (P := P) w t u ty e i ht hu hi hsize g n cap cur fz hg (by simpa using hfz) s hroom (by omega)
      refine ⟨_, _, hr, ⟨hlen, .inr ⟨g, cap, _, fz, rfl, hbg, setRow_heap w g cur _ e _ hg, by omega, hroom, hcm, ?_, ?_⟩⟩, ⟨rfl, rfl, rfl, by simp, fun k _ hk => setRow_other w g k _ (fun e => hk (by simp [Value.ownBlock, e]))⟩, fun _ hg => .inl hg⟩
      · simp only [List.size_toArray, List.length_append, List.length_take, List.length_drop, Array.length_toList, Lib.strCells_length]
        omega
      · have ht' : cur.toList.take n = xs := by simpa using htake
        rw [ht', ← hlen]
        exact List.take_left
    · have holds : ∀ j u, xs[j]? = some u → w.cell? ((⟨g, 0, none⟩ : Addr).add j) = some u := hown.cells (g := g) rfl
      have hr := Lib.run_append_grow_string (P := P) w t u ty e i (.int .u8 0) ht hu hi hz ⟨g, 0, none⟩ n cap xs (by rw [hsize]; simpa using hxl) holds s (by omega) (by simp only [maxLen] at h63; omega) (by rw [hby]; exact growslice_fits (by omega) (by omega))
      have hge := grownCap_ge w (n + s.size) cap e
      have hcm2 : grownCap w (n + s.size) cap e ≤ maxLen := grownCap_le_maxLen w (n + s.size) cap e h63
      refine ⟨_, _, hr, ⟨hlen, .inr ⟨w.heap.size, _, _, (0, 0), rfl, Nat.zero_le _, heap_alloc_new w.drew _, Nat.zero_le _, hge, hcm2, ?_, ?_⟩⟩, ⟨rfl, rfl, rfl, by simp, fun k hk _ => Lib.alloc_old w.drew _ k hk⟩, fun g hg => .inr ?_⟩
      · have hz1 : (Value.int IntKind.u8 0).cells.size = 1 := rfl
        simp only [Array.size_append, List.size_toArray, size_zeroCells, hz1, hxl, Lib.strCells_length]
        omega
      · simp only [Array.toList_append, List.append_assoc]
        rw [← List.append_assoc, ← hlen]
        exact List.take_left
      · simp only [Value.ownBlock, Option.some.injEq] at hg; omega
/-- The operation, for the walk. -/
theorem wpList_append_bld {w : World} {ops : Array Oper} {rest : List Oper} {o : Oper} {a : Act} {Q : Exit → Act → World → Prop} (hgd : o.guard = none) (sl x : Operand) (t u : TypeId)
    (ho : o.op = .call { callee := .builtin .append, args := #[sl, x], argTypes := #[t, u] })
    (e : TypeId) (i : TypeInfo) (ht : P.underlying t = some (.slice e)) (hu : P.underlying u = some .string) (hi : P.info? e = some i) (hz : i.zero = some (.int .u8 0))
    (hsize : i.size = 1) (hby : i.bytes = 1)
    (v : Value) (n : Nat) (xs : List Value) (hs : a.eval sl = v) (hown : w.ownsRowF 0 e 1 v n xs) (s : ByteArray) (hx : a.eval x = .string s) (hbytes : n + s.size ≤ 140737488355328)
    (h : ∀ v' w', w'.ownsRowF 0 e 1 v' (n + s.size) (xs ++ Lib.strCells s) → w.grownBy w' v.ownBlock → (∀ g, v'.ownBlock = some g → v.ownBlock = some g ∨ w.heap.size ≤ g) → wpList P ops Q rest (a.put o.dst v') w') : wpList P ops Q (o :: rest) a w := by
  refine wpList_plain hgd fun K hK => ?_
  obtain ⟨v', w', hr, h2, h3, h4⟩ := append_bld (P := P) w t u o.type e i ht hu hi hz hsize hby v n xs hown s hbytes
  unfold Oper.wp execOp
  simp only [ho, resolve, invoke, builtin, Sem.run_bind, Sem.run_pure, Result.andThen_ok, List.map_toArray, List.map_cons, List.map_nil, hs, hx, hr]
  exact hK _ _ (h v' w' h2 h3 h4)
theorem strCells_bytes (s : List UInt8) : Lib.strCells ⟨s.toArray⟩ = Lib.byteCells s := rfl
theorem byteCells_append (a b : List UInt8) : Lib.byteCells (a ++ b) = Lib.byteCells a ++ Lib.byteCells b := by simp [Lib.byteCells]
end Go.Pm
namespace Go.Proofs
open Go.Pm
set_option linter.unusedVariables false
set_option linter.unusedSimpArgs false
/-- Behind copyCheck the builder knows itself. -/
theorem Try.copyCheck (b : Nat) (q v : Value) (w : World) (hq : q = .pointer none ∨ q = .pointer (some ⟨b, 0, none⟩)) (hb : w.heap[b]? = some (.cells #[q, v] 47 (0, 0))) :
    Calls Try.prog 52 #[.pointer (some ⟨b, 0, none⟩)] w fun e w' => e = .returned (.tuple #[]) ∧ w'.heap[b]? = some (.cells #[.pointer (some ⟨b, 0, none⟩), v] 47 (0, 0)) ∧
      w.grownBy w' (some b) ∧ w'.heap.size = w.heap.size := by
  rcases hq with rfl | rfl
  · refine (Try.copyCheck_fresh b w (by rw [Lib.cell_of_heap hb]; rfl) (by simp [World.shape?, hb]) (by simp [World.frozen?, hb])).mono ?_
    rintro e w' ⟨rfl, rfl⟩
    have hs := setCell_eq_setRow w b 0 _ _ _ (.pointer (some ⟨b, 0, none⟩)) hb
    refine ⟨rfl, ?_, ⟨rfl, rfl, rfl, by simp, ?_⟩, by simp⟩
    · rw [hs, setRow_heap w b _ _ _ _ hb]; rfl
    · intro k hk hne
      rw [hs]
      exact setRow_other w b k _ (fun e => hne (by rw [e]))
  · refine (Try.copyCheck_used b w (by rw [Lib.cell_of_heap hb]; rfl)).mono ?_
    rintro e w' ⟨rfl, rfl⟩
    exact ⟨rfl, hb, ⟨rfl, rfl, rfl, Nat.le_refl _, fun _ _ _ => rfl⟩, rfl⟩
set_option maxHeartbeats 1000000 in
set_option maxRecDepth 100000 in
theorem Try.writeStringM (b : Nat) (q v : Value) (l s : List UInt8) (w : World) (hq : q = .pointer none ∨ q = .pointer (some ⟨b, 0, none⟩)) (hb : w.heap[b]? = some (.cells #[q, v] 47 (0, 0)))
    (ho : w.ownsRowF 0 5 1 v l.length (Lib.byteCells l)) (hne : v.ownBlock ≠ some b) (hlen : l.length + s.length ≤ 140737488355328) :
    Calls Try.prog 18 #[.pointer (some ⟨b, 0, none⟩), .string ⟨s.toArray⟩] w fun e w' => e = .returned (.tuple #[.int .i64 s.length, .nilIface]) ∧ BldTo w w' b v.ownBlock 47 5 (l ++ s) := by
  obtain ⟨i0, hi, hi3⟩ : ∃ i, Try.prog.info? 5 = some i ∧ (i.zero, i.size, i.bytes) = (some (.int .u8 0), 1, 1) := Option.map_eq_some_iff.1 (by kernel_rfl : (Try.prog.info? 5).map (fun i => (i.zero, i.size, i.bytes)) = some (some (.int .u8 0), 1, 1))
  simp only [Prod.mk.injEq] at hi3
  obtain ⟨hz, hs1, hby⟩ := hi3
  have tS : Try.prog.underlying 22 = some (.slice 5) := by kernel_rfl
  have tT : Try.prog.underlying 9 = some .string := by kernel_rfl
  have hlen' : l.length + (⟨s.toArray⟩ : ByteArray).size ≤ 140737488355328 := hlen
  go_enter Try.func18, Try.ntmps18
  go_wp2_with (go_at_call 52; refine (Try.copyCheck b q v _ hq hb).mono ?_)
  rintro e w1 ⟨rfl, hb1, hg1, hs1'⟩
  have hlt : b < w.heap.size := (Array.getElem?_eq_some_iff.1 hb).1
  have c0 : w1.cell? ⟨b, 0, none⟩ = some (.pointer (some ⟨b, 0, none⟩)) := by rw [Lib.cell_of_heap hb1]; rfl
  have c1 : w1.cell? ⟨b, 1, none⟩ = some v := by rw [Lib.cell_of_heap hb1]; rfl
  have ho1 : w1.ownsRowF 0 5 1 v l.length (Lib.byteCells l) := ho.kept hg1 (.inr hne)
  go_wp2_with (at_builtin; refine wpList_append_bld rfl _ _ 22 9 rfl 5 i0 tS tT hi hz hs1 hby _ _ _ rfl ho1 ⟨s.toArray⟩ rfl hlen' ?_)
  intro v' w2 ho2 hg2 hown2
  have hlt1 : b < w1.heap.size := by omega
  have hb2 : w2.heap[b]? = some (.cells #[.pointer (some ⟨b, 0, none⟩), v] 47 (0, 0)) := (hg2.block b hlt1 (fun e => hne e.symm)).trans hb1
  have d0 : w2.cell? ⟨b, 0, none⟩ = some (.pointer (some ⟨b, 0, none⟩)) := by rw [Lib.cell_of_heap hb2]; rfl
  have d1 : w2.cell? ⟨b, 1, none⟩ = some v := by rw [Lib.cell_of_heap hb2]; rfl
  have f1 : w2.frozen? ⟨b, 1, none⟩ = false := Lib.frozen_of_heap hb2 1
  have hv1 : v'.oneCell' = true := by
    rcases ho2.2 with ⟨rfl, _⟩ | ⟨g, cap, cur, fz, rfl, _⟩ <;> rfl
  obtain ⟨ao, n', cap, rfl⟩ : ∃ ao n' cap, v' = .slice ao n' cap := by
    rcases ho2.2 with ⟨hv, _⟩ | ⟨g, cap, cur, fz, hv, _⟩
    · exact ⟨_, _, _, hv⟩
    · exact ⟨_, _, _, hv⟩
  go_wp2
  go_ret2
  have hset := setCell_eq_setRow w2 b 1 _ _ _ (.slice ao n' cap) hb2
  have hoth : ∀ k, k ≠ b → (w2.setCell ⟨b, 1, none⟩ (.slice ao n' cap)).heap[k]? = w2.heap[k]? := fun k hk => by rw [hset]; exact setRow_other w2 b k _ hk
  have hnew : ∀ g, (Value.slice ao n' cap).ownBlock = some g → g ≠ b ∧ (v.ownBlock = some g ∨ w.heap.size ≤ g) := by
    intro g hg
    rcases hown2 g hg with h | h
    · exact ⟨fun e => hne (by rw [h, e]), .inl h⟩
    · exact ⟨by omega, .inr (by omega)⟩
  refine ⟨rfl, ⟨⟨_, _, .inr rfl, by rw [hset, setRow_heap w2 b _ _ _ _ hb2]; rfl, ?_, hnew⟩, hg2.os.trans hg1.os, hg2.tape.trans hg1.tape, hg2.output.trans hg1.output, ?_, ?_⟩⟩
  · rw [strCells_bytes, ← byteCells_append] at ho2
    refine ⟨by rw [Lib.byteCells_length, Nat.mul_one], ?_⟩
    have hl : (l ++ s).length = l.length + (⟨s.toArray⟩ : ByteArray).size := by rw [List.length_append]; rfl
    rw [hl]
    refine ho2.2.imp id ?_
    rintro ⟨g, cap', cur, fz, e1, e2, e3, e4⟩
    refine ⟨g, cap', cur, fz, e1, e2, ?_, e4⟩
    rw [hoth g (hnew g (by rw [e1]; rfl)).1]; exact e3
  · have := hg2.size; simp; omega
  · intro k hk hkb hko
    rw [hoth k hkb, hg2.block k (by omega) (fun e => hko e.symm), hg1.block k hk (fun e => hkb (Option.some.inj e))]
set_option maxHeartbeats 2000000 in
set_option maxRecDepth 100000 in
theorem Try.builderStringM (b : Nat) (q v : Value) (l : List UInt8) (w : World) (hq : q = .pointer none ∨ q = .pointer (some ⟨b, 0, none⟩)) (hb : w.heap[b]? = some (.cells #[q, v] 47 (0, 0)))
    (ho : w.ownsRowF 0 5 1 v l.length (Lib.byteCells l)) (hne : v.ownBlock ≠ some b) (h0 : l ≠ []) :
    Calls Try.prog 23 #[.pointer (some ⟨b, 0, none⟩)] w fun e w' => e = .returned (.string ⟨l.toArray⟩) ∧ BldTo w w' b v.ownBlock 47 5 l := by
  have hl0 : l.length ≠ 0 := by simpa using h0
  have hown := ho
  obtain ⟨g, cap, cur, fz, rfl, hbg, hg, hfz, hnc, hcm, hcs, htake⟩ : ∃ g cap cur fz, v = .slice (some ⟨g, 0, none⟩) l.length cap ∧ 0 ≤ g ∧ w.heap[g]? = some (.cells cur 5 fz) ∧ fz.2 ≤ l.length * 1 ∧ l.length ≤ cap ∧ cap ≤ maxLen ∧ cur.size = cap * 1 ∧ cur.toList.take (l.length * 1) = Lib.byteCells l := by
    rcases hown.2 with ⟨_, hz⟩ | ⟨g, cap, cur, fz, hv, r⟩
    · exact absurd hz hl0
    · exact ⟨g, cap, cur, fz, hv, r⟩
  have c1 : w.drew.cell? ⟨b, 1, none⟩ = some (.slice (some ⟨g, 0, none⟩) l.length cap) := by
    have : w.drew.heap[b]? = some (.cells #[q, .slice (some ⟨g, 0, none⟩) l.length cap] 47 (0, 0)) := hb
    rw [Lib.cell_of_heap this]; rfl
  have hSD : (Builtin.unsafeSliceData_ #[22] 89 #[.slice (some ⟨g, 0, none⟩) l.length cap]).run Try.prog w.drew = .ok (.pointer (some ⟨g, 0, none⟩)) w.drew :=
    Lib.run_unsafeSliceData_row _ _ _ _ _ _ (by omega)
  have hUS : (Builtin.unsafeString_ #[89, 3] 9 #[.pointer (some ⟨g, 0, none⟩), .int .i64 l.length]).run Try.prog w.drew = .ok (.string ⟨l.toArray⟩) (w.drew.freeze ⟨g, 0, none⟩ l.length) := by
    refine Lib.run_unsafeString_row w.drew 89 3 9 5 (by kernel_rfl) (by kernel_rfl) g cur.size (by have hg' : w.drew.heap[g]? = some (.cells cur 5 fz) := hg; simp [World.shape?, hg']) l h0 (by omega) (by unfold maxLen at hcm; omega) ?_
    intro j x hx
    have := hown.cells (g := g) rfl j (.int .u8 x.toNat) (by simp [Lib.byteCells, hx])
    exact this
  have hgb : g ≠ b := fun e => hne (by simp [Value.ownBlock, e])
  have hfr : ∀ k, k ≠ g → (w.drew.freeze ⟨g, 0, none⟩ l.length).heap[k]? = w.heap[k]? := by
    intro k hk
    unfold World.freeze
    split
    · rfl
    · simp only [Array.getElem?_modify]
      rw [if_neg (Ne.symm hk)]; rfl
  have hkeep : BldTo w (w.drew.freeze ⟨g, 0, none⟩ l.length) b (some g) 47 5 l := by
    have hA : Lib.BuilderAtF 47 5 0 b q (Lib.byteCells l) w.drew := ⟨Nat.zero_le _, _, hb, by rw [Lib.byteCells_length]; exact hown, hne⟩
    have hF := hA.froze (g := g) (cap := cap) (by rw [Lib.byteCells_length]; exact c1)
    rw [Lib.byteCells_length] at hF
    obtain ⟨_, v', hb', ho', hne'⟩ := hF
    have hv : v' = .slice (some ⟨g, 0, none⟩) l.length cap := by
      have := hb'.symm.trans ((hfr b hgb.symm).trans hb)
      simp only [Option.some.injEq, Obj.cells.injEq, and_true] at this
      simpa using this
    subst hv
    rw [Lib.byteCells_length] at ho'
    refine ⟨⟨q, _, hq, hb', ho', fun k hk => ?_⟩, ?_, ?_, ?_, ?_, fun k hk hkb hkg => hfr k (fun e => hkg (by rw [e]))⟩
    · simp only [Value.ownBlock, Option.some.injEq] at hk
      exact ⟨by omega, .inl (by rw [hk])⟩
    all_goals (unfold World.freeze; split)
    all_goals first | rfl | exact Nat.le_refl _ | (simp; done) | (show w.heap.size ≤ _; simp [World.drew])
  go_enter Try.func23, Try.ntmps23
  go_wp2
  go_region
  all_goals (go_wp2; go_ret; exact ⟨rfl, hkeep⟩)
end Go.Proofs
namespace Go.Pm.Try
open Go Go.Proofs
set_option linter.unusedVariables false
theorem writeString (l s : List UInt8) (hlen : l.length + s.length ≤ 140737488355328) : Ent Try.prog 18 [.ptr 0 0, .d (.s s)] [.bld 47 5 l] (.tup [.d (.i .i64 s.length), .c .nilIface]) [.bld 47 5 (l ++ s)] := by
  refine ent_bld ⟨_, Try.func18, by kernel_rfl, by kernel_rfl⟩ fun X J w b q v us hq hb ho hne hr => ?_
  simp only [AV.repL, AV.rep, D.rep] at hr
  obtain ⟨u, us', rfl, ⟨rfl, _⟩, rfl⟩ := hr
  refine (Try.writeStringM b q v l s w hq hb ho hne hlen).mono ?_
  rintro e w' ⟨rfl, h⟩
  refine ⟨_, rfl, fun X J => ?_, h⟩
  exact ⟨_, rfl, _, _, rfl, ⟨rfl, rfl⟩, _, _, rfl, ⟨rfl, rfl⟩, rfl⟩
theorem builderString (l : List UInt8) (h0 : l ≠ []) : Ent Try.prog 23 [.ptr 0 0] [.bld 47 5 l] (.d (.s l)) [.bld 47 5 l] := by
  refine ent_bld ⟨_, Try.func23, by kernel_rfl, by kernel_rfl⟩ fun X J w b q v us hq hb ho hne hr => ?_
  simp only [AV.repL] at hr
  subst hr
  refine (Try.builderStringM b q v l w hq hb ho hne h0).mono ?_
  rintro e w' ⟨rfl, h⟩
  exact ⟨_, rfl, fun X J => ⟨rfl, rfl⟩, h⟩
end Go.Pm.Try
