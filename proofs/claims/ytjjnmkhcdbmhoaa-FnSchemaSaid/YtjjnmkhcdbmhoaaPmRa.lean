/-
A walk of Go's code over values: a slot that is filled ahead.
-/
import Derived.Test.YtjjnmkhcdbmhoaaPmR
namespace Go.Pm
open Go
set_option linter.unusedVariables false
variable {P : Program}

def over (x : Option (Nat × AV)) (k : Nat) (o : Option AV) : Option AV := match x with | some (d, v) => if d = k then some v else o | none => o
/-- t is s, and one slot is filled besides (or none). -/
structure Ext (x : Option (Nat × AV)) (s t : St) : Prop where
  env : ∀ k, look k t.env = over x k (look k s.env)
  obj : ∀ k, look k t.obj = look k s.obj

/-- What a step leaves: the blocks of prot, and the slots that name no others. -/
structure Far (prot : List Nat) (e : Nat) (s s' : St) : Prop where
  obj : ∀ k, k ∈ prot → look k s'.obj = look k s.obj
  env : ∀ t, t ≠ e → (∀ u, look t s.env = some u → ∀ k, k ∈ u.refs → k ∈ prot ∨ k < 10000) → look t s'.env = look t s.env

def closedIn (obj : List (Nat × Ob)) (prot : List Nat) : List Nat → Bool
  | [] => true
  | k :: r => match look k obj with
    | some o => match inside o.refs prot with | true => closedIn obj prot r | false => false
    | none => false
theorem closedIn_ok {obj : List (Nat × Ob)} {prot : List Nat} : ∀ {l : List Nat}, closedIn obj prot l = true → ∀ k, k ∈ l → ∃ o, look k obj = some o ∧ ∀ j, j ∈ o.refs → j ∈ prot
  | [], _, k, h => by cases h
  | j :: l, hh, k, h => by
    simp only [closedIn] at hh
    split at hh
    · rename_i o ho
      split at hh
      · rename_i hi
        rcases List.mem_cons.1 h with e | h
        · subst e; exact ⟨o, ho, inside_ok hi⟩
        · exact closedIn_ok hh k h
      · cases hh
    · cases hh

mutual
theorem AV.ren_id {f : Nat → Option Nat} : ∀ (v : AV), (∀ k, k ∈ v.refs → f k = some k) → v.ren f = v
  | .d _, _ => rfl
  | .c _, _ => rfl
  | .snil, _ => rfl
  | .rd _, _ => rfl
  | .bot, _ => rfl
  | .ptr k o, h => by simp only [AV.ren]; rw [h k (by simp [AV.refs])]
  | .eptr k s i o, h => by simp only [AV.ren]; rw [h k (by simp [AV.refs])]
  | .own k, h => by simp only [AV.ren]; rw [h k (by simp [AV.refs])]
  | .win k a b c, h => by simp only [AV.ren]; rw [h k (by simp [AV.refs])]
  | .agg cs, h => by simp only [AV.ren]; rw [renL_id cs h]
  | .tup cs, h => by simp only [AV.ren]; rw [renL_id cs h]
  | .fn g cs, h => by simp only [AV.ren]; rw [renL_id cs h]
theorem renL_id {f : Nat → Option Nat} : ∀ (vs : List AV), (∀ k, k ∈ refsL vs → f k = some k) → renL f vs = vs
  | [], _ => rfl
  | v :: vs, h => by
    simp only [renL]
    rw [AV.ren_id v (fun k hk => h k (by simp only [refsL]; exact List.mem_append_left _ hk)), renL_id vs (fun k hk => h k (by simp only [refsL]; exact List.mem_append_right _ hk))]
end
theorem Ob.ren_id {f : Nat → Option Nat} (o : Ob) (h : ∀ k, k ∈ o.refs → f k = some k) : o.ren f = o := by
  cases o with
  | var cells => simp only [Ob.ren]; rw [renL_id cells h]
  | arr _ _ _ => rfl
  | bld _ _ _ => rfl
  | gone => rfl
  | opn sz xs els =>
    have cells : ∀ cs : List OC, (∀ k, k ∈ cellKeys cs → f k = some k) → renCells f cs = cs := by
      intro cs
      induction cs with
      | nil => intro _; rfl
      | cons y cs ih =>
        intro hk
        cases y with
        | d x => simp only [renCells]; rw [ih hk]
        | k key => simp only [renCells, hk key (by simp [cellKeys])]; rw [ih fun j hj => hk j (by simp [cellKeys, hj])]
    have all : ∀ l : List OE, (∀ k, k ∈ elKeys l → f k = some k) → renEls f l = l := by
      intro l
      induction l with
      | nil => intro _; rfl
      | cons y l ih =>
        intro hk
        simp only [renEls]
        rw [cells y.cells fun k hj => hk k (by simp [elKeys, hj]), ih fun k hj => hk k (by simp [elKeys, hj])]
    simp only [Ob.ren]
    rw [all els h]
mutual
theorem AV.frz_id {σ : Nat → Option Ob} {bs : List Nat} : ∀ (v : AV), (∀ k, k ∈ v.refs → has k bs = false) → v.frz σ bs = v
  | .d _, _ => rfl
  | .c _, _ => rfl
  | .snil, _ => rfl
  | .rd _, _ => rfl
  | .bot, _ => rfl
  | .ptr k o, h => by simp only [AV.frz]; rw [h k (by simp [AV.refs])]
  | .eptr k s i o, h => by simp only [AV.frz]; rw [h k (by simp [AV.refs])]
  | .own k, h => by simp only [AV.frz]; rw [h k (by simp [AV.refs])]
  | .win k a b c, h => by simp only [AV.frz]; rw [h k (by simp [AV.refs])]
  | .agg cs, h => by simp only [AV.frz]; rw [frzL_id cs h]
  | .tup cs, h => by simp only [AV.frz]; rw [frzL_id cs h]
  | .fn g cs, h => by simp only [AV.frz]; rw [frzL_id cs h]
theorem frzL_id {σ : Nat → Option Ob} {bs : List Nat} : ∀ (vs : List AV), (∀ k, k ∈ refsL vs → has k bs = false) → frzL σ bs vs = vs
  | [], _ => rfl
  | v :: vs, h => by
    simp only [frzL]
    rw [AV.frz_id v (fun k hk => h k (by simp only [refsL]; exact List.mem_append_left _ hk)), frzL_id vs (fun k hk => h k (by simp only [refsL]; exact List.mem_append_right _ hk))]
end
theorem Ob.frz_id {σ : Nat → Option Ob} {bs : List Nat} (o : Ob) (h : ∀ k, k ∈ o.refs → has k bs = false) : o.frz σ bs = o := by
  cases o with
  | var cells => simp only [Ob.frz]; rw [frzL_id cells h]
  | arr _ _ _ => rfl
  | bld _ _ _ => rfl
  | gone => rfl
  | opn sz xs els =>
    have := Ob.ren_id (f := without bs) (.opn sz xs els) (fun k hk => by unfold without; rw [h k hk])
    exact this

section
variable {x : Option (Nat × AV)} {s t : St}
theorem Ext.put (h : Ext x s t) {e : Nat} (hne : ∀ d v, x = some (d, v) → d ≠ e) (u : AV) : Ext x (s.put (some e) u) (t.put (some e) u) := by
  refine ⟨fun k => ?_, h.obj⟩
  rw [St.put_look, St.put_look, h.env]
  by_cases h1 : e = k
  · subst h1
    rw [if_pos rfl, if_pos rfl]
    cases x with
    | none => rfl
    | some dv => obtain ⟨d, v⟩ := dv; simp only [over]; rw [if_neg (hne d v rfl)]
  · rw [if_neg h1, if_neg h1]
theorem Ext.set (h : Ext x s t) (k0 : Nat) (o : Ob) : Ext x (s.set k0 o) (t.set k0 o) := by
  refine ⟨h.env, fun k => ?_⟩
  rw [St.set_look, St.set_look, h.obj]
theorem over_map {g : AV → AV} (hv : ∀ d v, x = some (d, v) → g v = v) (k : Nat) (o : Option AV) : (over x k o).map g = over x k (o.map g) := by
  cases x with
  | none => rfl
  | some dv =>
    obtain ⟨d, v⟩ := dv
    simp only [over]
    by_cases e : d = k
    · rw [if_pos e, if_pos e]; simp [hv d v rfl]
    · rw [if_neg e, if_neg e]
theorem Ext.ren (h : Ext x s t) {f : Nat → Option Nat} (hf : ∀ k j, f k = some j → j = k) (hv : ∀ d v, x = some (d, v) → v.ren f = v) : Ext x (s.ren f) (t.ren f) := by
  refine ⟨fun k => ?_, fun k => ?_⟩
  · show look k (renEnv f t.env) = over x k (look k (renEnv f s.env))
    rw [look_renEnv, look_renEnv, h.env, over_map hv]
  · show look k (renObj f t.obj) = look k (renObj f s.obj)
    rw [look_renObj hf, look_renObj hf, h.obj]
theorem Ext.look (h : Ext x s t) : (Pm.look · t.obj) = (Pm.look · s.obj) := funext h.obj
theorem Ext.frz (h : Ext x s t) {bs : List Nat} (hv : ∀ d v, x = some (d, v) → ∀ k, k ∈ v.refs → has k bs = false) : Ext x (s.frz bs) (t.frz bs) := by
  refine ⟨fun k => ?_, fun k => ?_⟩
  · show Pm.look k (frzEnv (Pm.look · t.obj) bs t.env) = over x k (Pm.look k (frzEnv (Pm.look · s.obj) bs s.env))
    rw [look_frzEnv, look_frzEnv, h.env, h.look, over_map (fun d v hd => AV.frz_id v (hv d v hd))]
  · show Pm.look k (frzObj (Pm.look · t.obj) bs t.obj) = Pm.look k (frzObj (Pm.look · s.obj) bs s.obj)
    rw [look_frzObj, look_frzObj, h.obj, h.look]
theorem Ext.setAll : ∀ (O : List Ob) (i : Nat) (g : Nat → Option Nat) (s t : St), Ext x s t → Ext x (setAll s g i O) (setAll t g i O)
  | [], _, _, _, _, h => h
  | o :: O, i, g, s, t, h => by
    simp only [Pm.setAll]
    split
    · exact Ext.setAll O (i + 1) g _ _ (h.set _ _)
    · exact h
theorem Ext.after (h : Ext x s t) {e : Nat} (hne : ∀ d v, x = some (d, v) → d ≠ e) (ks : List Nat) (O : List Ob) (R : AV) : Ext x (after s ks e O R) (after t ks e O R) :=
  (Ext.setAll O 0 _ s t h).put hne _

variable {s' : St} {prot : List Nat} {e : Nat}
theorem Far.refl (prot : List Nat) (e : Nat) (s : St) : Far prot e s s := ⟨fun _ _ => rfl, fun _ _ _ => rfl⟩
theorem Far.put (h : Far prot e s s') (u : AV) : Far prot e s (s'.put (some e) u) := by
  refine ⟨h.obj, fun t ht hu => ?_⟩
  rw [St.put_look, if_neg (Ne.symm ht)]
  exact h.env t ht hu
theorem Far.set (h : Far prot e s s') {k0 : Nat} {o : Ob} (hk : k0 ∉ prot) : Far prot e s (s'.set k0 o) := by
  refine ⟨fun k hp => ?_, h.env⟩
  rw [St.set_look, if_neg (by rintro rfl; exact hk hp)]
  exact h.obj k hp
theorem Far.ren {f : Nat → Option Nat} (hf : ∀ k j, f k = some j → j = k) (hp : ∀ k, k ∈ prot → f k = some k) (hsm : ∀ k, k < 10000 → f k = some k) (hc : ∀ k, k ∈ prot → ∃ o, look k s.obj = some o ∧ ∀ j, j ∈ o.refs → j ∈ prot) : Far prot e s (s.ren f) := by
  refine ⟨fun k hk => ?_, fun t ht hu => ?_⟩
  · show look k (renObj f s.obj) = _
    rw [look_renObj hf, hp k hk]
    obtain ⟨o, ho, hr⟩ := hc k hk
    simp only [ho, Option.map_some]
    rw [Ob.ren_id o fun j hj => hp j (hr j hj)]
  · show look t (renEnv f s.env) = _
    rw [look_renEnv]
    cases hl : look t s.env with
    | none => rfl
    | some u => simp only [Option.map_some]; rw [AV.ren_id u fun k hk => (hu u hl k hk).elim (hp k) (hsm k)]
theorem Far.frz {bs : List Nat} (hp : ∀ k, k ∈ prot → has k bs = false) (hsm : ∀ k, k < 10000 → has k bs = false) (hc : ∀ k, k ∈ prot → ∃ o, look k s.obj = some o ∧ ∀ j, j ∈ o.refs → j ∈ prot) : Far prot e s (s.frz bs) := by
  refine ⟨fun k hk => ?_, fun t ht hu => ?_⟩
  · show look k (frzObj (look · s.obj) bs s.obj) = _
    rw [look_frzObj, hp k hk]
    obtain ⟨o, ho, hr⟩ := hc k hk
    simp only [ho, Option.map_some]
    rw [Ob.frz_id o fun j hj => hp j (hr j hj)]
  · show look t (frzEnv (look · s.obj) bs s.env) = _
    rw [look_frzEnv]
    cases hl : look t s.env with
    | none => rfl
    | some u => simp only [Option.map_some]; rw [AV.frz_id u fun k hk => (hu u hl k hk).elim (hp k) (hsm k)]
theorem Far.setAll {s0 : St} : ∀ (O : List Ob) (i : Nat) (g : Nat → Option Nat) (s' : St), Far prot e s0 s' → (∀ j k, i ≤ j → j < i + O.length → g j = some k → k ∉ prot) → Far prot e s0 (setAll s' g i O)
  | [], _, _, _, h, _ => h
  | o :: O, i, g, s', h, hg => by
    simp only [Pm.setAll]
    split
    · rename_i k hk
      refine Far.setAll O (i + 1) g _ (h.set (hg i k (Nat.le_refl _) (by simp) hk)) fun j k hj hl => hg j k (by omega) (by simp only [List.length_cons]; omega)
    · exact h
end
end Go.Pm
