/-
strings.Builder: copyCheck, WriteString, String.
-/
import Derived.Test.YtbenanocioeglaaPmT
import Derived.Test.YtbenanocioeglaaPmLa
import Derived.Lib.Strings
import Derived.Lib.Slices
import Derived.Lib.Walk
import Derived.Lib.Builder
import Derived.Lib.UnsafeStr
import Derived.WalkKit
namespace Go.Pm
open Go
set_option linter.unusedVariables false
variable {P : Program}

/-- The builder at b holds l; but for it and its row, memory is as it was. -/
structure BldTo (w w' : World) (b : Nat) (own : Option Nat) (t e : TypeId) (l : List UInt8) : Prop where
  ob : ∃ q v, (q = .pointer none ∨ q = .pointer (some ⟨b, 0, none⟩)) ∧ w'.heap[b]? = some (.cells #[q, v] t (0, 0)) ∧ w'.ownsRowF 0 e 1 v l.length (Lib.byteCells l) ∧ ∀ g, v.ownBlock = some g → g ≠ b ∧ (own = some g ∨ w.heap.size ≤ g)
  os : w'.os = w.os
  tape : w'.tape = w.tape
  output : w'.output = w.output
  size : w.heap.size ≤ w'.heap.size
  block : ∀ k, k < w.heap.size → k ≠ b → own ≠ some k → w'.heap[k]? = w.heap[k]?

theorem ent_bld {f : FuncId} {xs : List AV} {R : AV} {t e : TypeId} {l l' : List UInt8} (hE : Enters P f)
    (h : ∀ (X : Nat → Prop) (J : Nat → Option Place) (w : World) (b : Nat) (q v : Value) (us : List Value), (q = .pointer none ∨ q = .pointer (some ⟨b, 0, none⟩)) → w.heap[b]? = some (.cells #[q, v] t (0, 0)) →
      w.ownsRowF 0 e 1 v l.length (Lib.byteCells l) → v.ownBlock ≠ some b → AV.repL w X J xs us →
      Calls P f (.pointer (some ⟨b, 0, none⟩) :: us).toArray w fun x w' => ∃ r, x = .returned r ∧ (∀ X J, R.rep w' X J r) ∧ BldTo w w' b v.ownBlock t e l') :
    Ent P f (.ptr 0 0 :: xs) [.bld t e l] R [.bld t e l'] := by
  refine ⟨hE, fun X0 J w vs hr hm => ?_⟩
  obtain ⟨p, hp, hh, q, v, hq, hb, ho, hnest⟩ := hm.ob 0 _ rfl
  simp only [AV.repL] at hr
  obtain ⟨u, us, hvs, ⟨p2, hp2, hu⟩, hus⟩ := hr
  rw [hp] at hp2; cases hp2
  have hk : ∀ k p', J k = some p' → k = 0 := by
    intro k p' hkp
    obtain ⟨o, ho⟩ := hm.dom k p' hkp
    cases k with
    | zero => rfl
    | succ k => cases ho
  have hfp : p.fp = p.blk :: p.nest := p.fp_hd hh
  have hnd := hm.nd 0 p hp
  rw [hfp] at hnd
  have hne : v.ownBlock ≠ some p.blk := by
    intro he
    rw [hnest, he] at hnd
    simp at hnd
  have e0 : vs = (.pointer (some ⟨p.blk, 0, none⟩) :: us).toArray := by
    apply Array.ext'; rw [hvs, hu]
  rw [e0]
  have hlt : p.blk < w.heap.size := (Array.getElem?_eq_some_iff.1 hb).1
  refine (h _ J w p.blk q v us hq hb ho hne hus).mono ?_
  rintro x w' ⟨r, rfl, hR, hT⟩
  obtain ⟨q', v', hq', hb', ho', hown'⟩ := hT.ob
  have mfp : ∀ b, b ∈ p.fp ↔ b = p.blk ∨ v.ownBlock = some b := by
    intro b; rw [hfp, hnest]; cases v.ownBlock <;> simp [eq_comm]
  refine ⟨R, [.bld t e l'], r, fun k => if k = 0 then some ⟨p.blk, v'.ownBlock.toList, p.v, p.hd⟩ else none, ⟨rfl, rfl⟩, rfl, hR _ _, ?_, ?_, ?_, ?_⟩
  · have mfp' : ∀ b, b ∈ (⟨p.blk, v'.ownBlock.toList, p.v, p.hd⟩ : Place).fp ↔ b = p.blk ∨ v'.ownBlock = some b := by
      intro b; rw [Place.fp_hd (p := ⟨p.blk, v'.ownBlock.toList, p.v, p.hd⟩) hh]; cases v'.ownBlock <;> simp [eq_comm]
    refine ⟨?_, ?_, ?_, ?_, ?_⟩
    · intro k o hko
      cases k with
      | zero => cases hko; exact ⟨_, rfl, hh, q', v', hq', hb', ho', rfl⟩
      | succ k => cases hko
    · intro k p' hkp
      cases k with
      | zero => exact ⟨_, rfl⟩
      | succ k => simp at hkp
    · intro k k' p1 p2 h1 h2 hne b hb1 hb2
      split at h1
      · split at h2
        · omega
        · cases h2
      · cases h1
    · intro k p1 h1
      split at h1
      · cases h1
        rw [Place.fp_hd (p := ⟨p.blk, v'.ownBlock.toList, p.v, p.hd⟩) hh]
        cases hv : v'.ownBlock with
        | none => simp
        | some g => have := (hown' g hv).1; simp; exact fun e => this e.symm
      · cases h1
    · intro b hx
      obtain ⟨hbw, hno⟩ := hm.x0 b hx
      have hnp := hno 0 p hp
      rw [mfp] at hnp
      refine ⟨Nat.lt_of_lt_of_le hbw hT.size, ?_⟩
      intro k p1 h1
      split at h1
      · cases h1
        rw [mfp']
        rintro (rfl | hg)
        · exact hnp (.inl rfl)
        · rcases (hown' b hg).2 with h2 | h2
          · exact hnp (.inr h2)
          · omega
      · cases h1
  · refine ⟨hT.os, hT.tape, hT.output, hT.size, ?_⟩
    intro b hbw hF
    have hnp : b ∉ p.fp := fun hm => hF ⟨0, p, hp, hm⟩
    rw [mfp] at hnp
    exact hT.block b hbw (fun e => hnp (.inl e)) (fun e => hnp (.inr e))
  · intro k p1 b h1 hbp
    dsimp only at h1
    split at h1
    · cases h1
      rw [Place.fp_hd (p := ⟨p.blk, v'.ownBlock.toList, p.v, p.hd⟩) hh] at hbp
      rcases List.mem_cons.1 hbp with rfl | hbp
      · exact .inl ⟨0, p, hp, by rw [mfp]; exact .inl rfl⟩
      · have hg : v'.ownBlock = some b := by
          cases hv : v'.ownBlock with
          | none => rw [hv] at hbp; cases hbp
          | some g => rw [hv] at hbp; simp at hbp; rw [hbp]
        rcases (hown' b hg).2 with h2 | h2
        · exact .inl ⟨0, p, hp, by rw [mfp]; exact .inr h2⟩
        · exact .inr h2
    · cases h1
  · intro k p1 h1
    cases hk k p1 h1
    rw [hp] at h1; cases h1
    exact ⟨_, rfl, rfl, rfl⟩
end Go.Pm
namespace Go.Proofs
open Go.Pm
set_option linter.unusedVariables false
set_option linter.unusedSimpArgs false
set_option maxHeartbeats 1000000 in
set_option maxRecDepth 100000 in
theorem Try.copyCheck_used (b : Nat) (w : World) (h0 : w.cell? ⟨b, 0, none⟩ = some (.pointer (some ⟨b, 0, none⟩))) :
    Calls Try.prog 114 #[.pointer (some ⟨b, 0, none⟩)] w fun e w' => e = .returned (.tuple #[]) ∧ w' = w := by
  obtain ⟨j, hj, _⟩ : ∃ j, Try.prog.info? 93 = some j ∧ j.size = 2 := Option.map_eq_some_iff.1 (by kernel_rfl : (Try.prog.info? 93).map (·.size) = some 2)
  go_enter Try.func114, Try.ntmps114
  go_wp2
  rw [Lib.run_neq_ptr_same w _ (by kernel_rfl : Try.prog.underlying 91 = some (.pointer 93)) hj]
  go_wp2
  go_end0
  exact ⟨rfl, rfl⟩
set_option maxHeartbeats 1000000 in
set_option maxRecDepth 100000 in
theorem Try.copyCheck_fresh (b : Nat) (w : World) (h0 : w.cell? ⟨b, 0, none⟩ = some (.pointer none)) (hsh : w.shape? b = some (93, 2)) (hfz : w.frozen? ⟨b, 0, none⟩ = false) :
    Calls Try.prog 114 #[.pointer (some ⟨b, 0, none⟩)] w fun e w' => e = .returned (.tuple #[]) ∧ w' = w.setCell ⟨b, 0, none⟩ (.pointer (some ⟨b, 0, none⟩)) := by
  obtain ⟨j, hj, hjs⟩ : ∃ j, Try.prog.info? 93 = some j ∧ j.size = 2 := Option.map_eq_some_iff.1 (by kernel_rfl : (Try.prog.info? 93).map (·.size) = some 2)
  have t70 : Try.prog.underlying 91 = some (.pointer 93) := by kernel_rfl
  have t164 : Try.prog.underlying 144 = some .unsafePointer := by kernel_rfl
  go_enter Try.func114, Try.ntmps114
  go_wp2
  rw [Lib.run_to_unsafe w ⟨b, 0, none⟩ t70 t164 hj (by rw [hjs]; decide) hsh (Nat.zero_lt_succ 1)]
  simp only [Result.andThen]
  rw [Oper.upon_value]
  go_wp2
  rw [run_callFunc_extern Try.func130 (by kernel_rfl) (by kernel_rfl) (by kernel_rfl) (e := Extern.AbiNoEscape.same) (by kernel_rfl)]
  rw [Lib.run_noEscape]
  simp only [Result.andThen]
  rw [Oper.upon_value]
  go_wp2
  rw [Lib.run_from_unsafe w ⟨b, 0, none⟩ t164 t70 hj hsh (by kernel_rfl : liesAt Try.prog Try.prog.depth 93 (2 / Try.prog.cellsOf 93) 0 93 1 = true)]
  simp only [Result.andThen]
  rw [Oper.upon_value]
  go_wp2
  go_end0
  exact ⟨rfl, rfl⟩
end Go.Proofs
