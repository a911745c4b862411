/-
A walk of Go's code over values: operations whose order does not matter.
-/
import Derived.Test.YtjjnmkhcdbmhoaaPmM
namespace Go.Pm
open Go
set_option linter.unusedVariables false
variable {P : Program}

theorem evs_congr {s t : St} : ∀ {xs : List Operand}, (∀ x, x ∈ xs → s.ev x = t.ev x) → s.evs xs = t.evs xs
  | [], _ => rfl
  | x :: xs, h => by
    simp only [St.evs]
    rw [h x (List.mem_cons_self ..), evs_congr (xs := xs) fun y hy => h y (List.mem_cons_of_mem _ hy)]
theorem pairs_congr {s t : St} : ∀ {ps : List (Nat × Operand)}, (∀ x, x ∈ ps.map (·.2) → s.ev x = t.ev x) → pairs s ps = pairs t ps
  | [], _ => rfl
  | (j, x) :: ps, h => by
    simp only [pairs]
    rw [h x (by simp), pairs_congr (ps := ps) fun y hy => h y (List.mem_cons_of_mem _ hy)]

/-- A command depends on the slots that its operation names, and on the blocks. -/
theorem opCmd_env {T : List TD} {o : Oper} {s t : St} (h : ∀ x, x ∈ o.op.operands.toList → s.ev x = t.ev x) (hk : ∀ k, look k s.obj = look k t.obj) : opCmd T o s = opCmd T o t := by
  have hf : (look · s.obj) = (look · t.obj) := funext hk
  cases hop : o.op with
  | call c =>
    obtain ⟨callee, args, ts⟩ := c
    simp only [hop, Op.operands, Call.operands] at h
    cases callee with
    | value f =>
      have h1 : s.ev f = t.ev f := h f (by simp)
      have h2 : s.evs args.toList = t.evs args.toList := evs_congr fun x hx => h x (by simp at hx ⊢; simp [hx])
      simp only [opCmd, hop, h1, h2]
    | builtin b =>
      have h2 : s.evs args.toList = t.evs args.toList := evs_congr fun x hx => h x (by simp at hx ⊢; simp [hx])
      simp only [opCmd, hop, builtinC, h2, hk]
    | invoke x n => simp only [opCmd, hop]
  | build ty ps =>
    simp only [hop, Op.operands] at h
    have h2 : pairs s ps.toList = pairs t ps.toList := pairs_congr fun x hx => h x (by simpa using hx)
    simp only [opCmd, hop, h2]
  | buildSlice ty n ps =>
    simp only [hop, Op.operands] at h
    have h2 : pairs s ps.toList = pairs t ps.toList := pairs_congr fun x hx => h x (by simpa using hx)
    simp only [opCmd, hop, h2, hf]
  | makeFunc f fi ca =>
    simp only [hop, Op.operands] at h
    have h2 : s.evs ca.toList = t.evs ca.toList := evs_congr fun x hx => h x (by simp at hx ⊢; simp [hx])
    simp only [opCmd, hop, h2]
  | slice ty x lo hi mx =>
    simp only [hop, Op.operands] at h
    have h1 : s.ev x = t.ev x := h x (by simp)
    have h2 : ∀ l, lo = some l → s.ev l = t.ev l := fun l hl => h l (by simp [hl])
    have h3 : ∀ l, hi = some l → s.ev l = t.ev l := fun l hl => h l (by simp [hl])
    have h4 : ∀ l, mx = some l → s.ev l = t.ev l := fun l hl => h l (by simp [hl])
    have hv : ∀ (ty : TypeId) (v : AV) (lo hi : Option AV), sliceV T s ty v lo hi = sliceV T t ty v lo hi := fun ty v lo hi => by unfold sliceV; rw [hf]
    cases mx with
    | some m =>
      cases lo with
      | none => cases hi with
        | none => simp only [opCmd, hop, h1]
        | some b => simp only [opCmd, hop, h1, h3 b rfl, h4 m rfl]
      | some a => simp only [opCmd, hop, h1]
    | none =>
    cases lo with
    | none => cases hi with
      | none => simp only [opCmd, hop, h1, hv]
      | some b => simp only [opCmd, hop, h1, h3 b rfl, hv]
    | some a => cases hi with
      | none => simp only [opCmd, hop, h1, h2 a rfl, hv]
      | some b => simp only [opCmd, hop, h1, h2 a rfl, h3 b rfl, hv]
  | convert a b x =>
    simp only [hop, Op.operands] at h
    have h1 : s.ev x = t.ev x := h x (by simp)
    simp only [opCmd, hop, h1, convC, hk]
  | store ty a v =>
    simp only [hop, Op.operands] at h
    have h1 : s.ev a = t.ev a := h a (by simp)
    have h2 : s.ev v = t.ev v := h v (by simp)
    simp only [opCmd, hop, h1, h2, hk]
  | _ =>
    simp only [hop, Op.operands] at h
    simp only [opCmd, hop]
    try (simp at h)
    try simp only [h, hk]

/-- Operations that only read. -/
def valOp : Op → Bool
  | .move _ | .assign _ | .pick .. | .nilCheck _ | .extract .. | .unOp .. | .load .. | .field .. | .fieldAddr .. | .index .. | .indexAddr .. | .binOp .. | .makeFunc .. | .build .. | .convert .. => true
  | .call c => match c.callee with | .builtin .len => true | _ => false
  | _ => false

theorem evs_refs {s : St} : ∀ {xs : List Operand} {vs : List AV}, s.evs xs = some vs → ∀ v, v ∈ vs → ∃ x, x ∈ xs ∧ s.ev x = some v
  | [], vs, h, v, hv => by cases h; cases hv
  | x :: xs, vs, h, v, hv => by
    simp only [St.evs] at h
    split at h
    case h_2 => cases h
    rename_i u hu
    split at h
    case h_2 => cases h
    rename_i l hl
    cases h
    rcases List.mem_cons.1 hv with rfl | hv
    · exact ⟨x, List.mem_cons_self .., hu⟩
    · obtain ⟨y, hy, h2⟩ := evs_refs hl v hv
      exact ⟨y, List.mem_cons_of_mem _ hy, h2⟩

/-- Such an operation depends on the slots that it names, and on the blocks that these name. -/
theorem opCmd_far {T : List TD} {o : Oper} {s t : St} (hv : valOp o.op = true) (h : ∀ x, x ∈ o.op.operands.toList → s.ev x = t.ev x)
    (hr : ∀ x, x ∈ o.op.operands.toList → ∀ v, s.ev x = some v → ∀ k, k ∈ v.refs → look k s.obj = look k t.obj) : opCmd T o s = opCmd T o t := by
  rw [← opCmd_env (T := T) (o := o) (s := ⟨t.env, s.obj⟩) (t := s) (fun x hx => by
    rw [h x hx]; cases x <;> rfl) (fun _ => rfl)]
  have hr' : ∀ x, x ∈ o.op.operands.toList → ∀ v, t.ev x = some v → ∀ k, k ∈ v.refs → look k s.obj = look k t.obj := fun x hx v hv' => hr x hx v ((h x hx).trans hv')
  have he : ∀ x, (⟨t.env, s.obj⟩ : St).ev x = t.ev x := fun x => by cases x <;> rfl
  have hes : ∀ xs : List Operand, (⟨t.env, s.obj⟩ : St).evs xs = t.evs xs := fun xs => evs_congr fun x _ => he x
  have hps : ∀ ps : List (Nat × Operand), pairs ⟨t.env, s.obj⟩ ps = pairs t ps := fun ps => pairs_congr fun x _ => he x
  cases hop : o.op with
  | load ty a =>
    simp only [hop, Op.operands] at hr'
    have h1 := hr' a (by simp)
    simp only [opCmd, hop, he]
    split
    · rename_i i hi
      split
      · rename_i k off hx; rw [h1 _ hx k (by simp [AV.refs])]
      · rfl
      · rename_i k sz j off hx; rw [h1 _ hx k (by simp [AV.refs])]
      · rfl
    · rfl
  | indexAddr ty x j =>
    simp only [hop, Op.operands] at hr'
    have h1 := hr' x (by simp)
    simp only [opCmd, hop, he]
    split
    · rename_i i hi
      split
      · split
        · split
          · split
            · rfl
            · rename_i k hx; rw [h1 _ hx k (by simp [AV.refs])]
            · rfl
            · rfl
          · rfl
        · rfl
      · rfl
    · rfl
  | convert a b x =>
    simp only [hop, Op.operands] at hr'
    have h1 := hr' x (by simp)
    simp only [opCmd, hop, he]
    cases hx : t.ev x with
    | none => rfl
    | some v =>
      have h2 := h1 v hx
      cases v with
      | own k => simp only [convC]; rw [h2 k (by simp [AV.refs])]
      | d y => cases y <;> simp only [convC]
      | _ => simp only [convC]
  | call c =>
    obtain ⟨callee, args, ts⟩ := c
    cases callee with
    | value f => simp [valOp, hop] at hv
    | invoke x n => simp [valOp, hop] at hv
    | builtin b =>
      cases b with
      | len =>
        simp only [hop, Op.operands, Call.operands] at hr'
        simp only [opCmd, hop, builtinC, hes]
        cases hx : t.evs args.toList with
        | none => rfl
        | some vs =>
          have h2 : ∀ v, v ∈ vs → ∀ k, k ∈ v.refs → look k s.obj = look k t.obj := by
            intro v hv2 k hk
            obtain ⟨x, hx1, hx2⟩ := evs_refs hx v hv2
            exact hr' x (by simpa using hx1) v hx2 k hk
          simp only
          split
          · split
            · split
              · split
                · rfl
                · rfl
                · rename_i k
                  rw [h2 (.own k) (List.mem_cons_self ..) k (by simp [AV.refs])]
                · rfl
                · rfl
              · rfl
              · rfl
            · rfl
          · rfl
      | _ => simp [valOp, hop] at hv
  | move x => simp only [opCmd, hop, he]
  | assign x => simp only [opCmd, hop, he]
  | pick c x y => simp only [opCmd, hop, he]
  | nilCheck x => simp only [opCmd, hop, he]
  | extract x i => simp only [opCmd, hop, he]
  | unOp p ty x => simp only [opCmd, hop, he]
  | field ty x f => simp only [opCmd, hop, he]
  | fieldAddr ty x f => simp only [opCmd, hop, he]
  | index ty x j => simp only [opCmd, hop, he]
  | binOp p ty x y yt => simp only [opCmd, hop, he]
  | makeFunc f x y => simp only [opCmd, hop, hes]
  | build ty ps => simp only [opCmd, hop, hps]
  | _ => simp [valOp, hop] at hv
end Go.Pm
