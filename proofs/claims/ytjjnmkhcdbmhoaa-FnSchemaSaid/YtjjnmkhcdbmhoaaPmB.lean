/-
A walk of Go's code over values: what a state says of memory, what a call says, and the walk itself.
-/
import Derived.Test.YtjjnmkhcdbmhoaaPmA
import Derived.Deep.MidRow
import Derived.Lib.FrozenHead
namespace Go.Pm
open Go

/-- A block of n cells, each of which may be written. -/
def Plain (w : World) (b n : Nat) : Prop := ∃ cs t, w.heap[b]? = some (.cells cs t (0, 0)) ∧ cs.size = n

mutual
/-- v is the data x, in w; bs: the blocks that it owns; X: the blocks that may be written. -/
def D.rep (w : World) (X : Nat → Prop) : D → Value → List Nat → Prop
  | .b x, v, bs => v = .bool x ∧ bs = []
  | .i k n, v, bs => v = .int k n ∧ bs = []
  | .s l, v, bs => v = .string ⟨l.toArray⟩ ∧ bs = []
  | .agg cs, v, bs => ∃ vs, v = .agg vs ∧ repL w X cs vs.toList bs
  | .sl u xs, v, bs => u = false ∧ bs = [] ∧ ∃ a cap, v = .slice a xs.length cap ∧ xs.length ≤ cap ∧
      (xs = [] ∨ ∃ b off sz, xs ≠ [] ∧ a = some ⟨b, off, none⟩ ∧ 0 < sz ∧ repRows w X b sz xs off [] ∧ ¬ X b)
  | .os sz deep xs, v, bs => 0 < sz ∧ ∃ a cap, v = .slice a xs.length cap ∧ xs.length ≤ cap ∧
      ((xs = [] ∧ cap = 0 ∧ bs = []) ∨ ∃ b bs', a = some ⟨b, 0, none⟩ ∧ Plain w b (cap * sz) ∧ repRows w X b sz xs 0 bs' ∧ bs = b :: bs' ∧ (deep = false → bs' = []))
  | .junk, v, bs => v.oneCell' = true ∧ bs = []
def repL (w : World) (X : Nat → Prop) : List D → List Value → List Nat → Prop
  | [], vs, bs => vs = [] ∧ bs = []
  | x :: xs, vs, bs => ∃ v vs' b1 b2, vs = v :: vs' ∧ bs = b1 ++ b2 ∧ D.rep w X x v b1 ∧ repL w X xs vs' b2
def repRows (w : World) (X : Nat → Prop) (b sz : Nat) : List D → Nat → List Nat → Prop
  | [], _, bs => bs = []
  | x :: xs, off, bs => ∃ v b1 b2, bs = b1 ++ b2 ∧ D.rep w X x v b1 ∧ v.cells.size = sz ∧ (x.cells.length = sz ∧ ∀ u ∈ v.cells.toList, u.oneCell' = true) ∧ w.rangeAt b off v.cells.toList ∧ repRows w X b sz xs (off + sz) b2
end

/-- Where a block of the walk lies. -/
structure Place where
  blk : Nat
  nest : List Nat
  v : Value
  hd : Bool
def Place.fp (p : Place) : List Nat := match p.hd with | true => p.blk :: p.nest | false => []

mutual
def AV.rep (w : World) (X : Nat → Prop) (J : Nat → Option Place) : AV → Value → Prop
  | .d x, v => x.rep w X v []
  | .c u, v => v = u ∧ u.oneCell' = true
  | .snil, v => v = .slice none 0 0
  | .agg cs, v => ∃ vs, v = .agg vs ∧ AV.repL w X J cs vs.toList
  | .tup cs, v => ∃ vs, v = .tuple vs ∧ AV.repL w X J cs vs.toList
  | .ptr k off, v => ∃ p, J k = some p ∧ v = .pointer (some ⟨p.blk, off, none⟩)
  | .eptr k sz i off, v => ∃ p, J k = some p ∧ v = .pointer (some ⟨p.blk, i * sz + off, none⟩)
  | .own k, v => ∃ p, J k = some p ∧ v = p.v ∧ p.v.oneCell' = true
  | .win k sz lo hi, v => ∃ p a0 n0 c0 a c, J k = some p ∧ p.v = .slice a0 n0 c0 ∧ lo ≤ hi ∧ hi ≤ n0 ∧ n0 ≤ c0 ∧ v = .slice a (hi - lo) c ∧ hi - lo ≤ c ∧ (lo < hi → a0 = some ⟨p.blk, 0, none⟩ ∧ a = some ⟨p.blk, lo * sz, none⟩)
  | .rd cs, v => ∃ b off vs, v = .pointer (some ⟨b, off, none⟩) ∧ vs ≠ [] ∧ ¬ X b ∧ Go.Pm.repL w X cs vs [] ∧ w.rangeAt b off vs
  | .fn g caps, v => ∃ cs, v = .func (.func g) #[] cs ∧ AV.repL w X J caps cs.toList
  | .bot, v => v.oneCell' = true
def AV.repL (w : World) (X : Nat → Prop) (J : Nat → Option Place) : List AV → List Value → Prop
  | [], vs => vs = []
  | x :: xs, vs => ∃ v vs', vs = v :: vs' ∧ AV.rep w X J x v ∧ AV.repL w X J xs vs'
end

def Ob.rep (w : World) (X : Nat → Prop) (J : Nat → Option Place) (p : Place) : Ob → Prop
  | .var cells => p.hd = true ∧ p.nest = [] ∧ ∃ cs t, w.heap[p.blk]? = some (.cells cs t (0, 0)) ∧ AV.repL w X J cells cs.toList
  | .arr sz deep xs => 0 < sz ∧ ∃ a cap, p.v = .slice a xs.length cap ∧ xs.length ≤ cap ∧
      ((p.hd = false ∧ xs = [] ∧ cap = 0) ∨ (p.hd = true ∧ a = some ⟨p.blk, 0, none⟩ ∧ Plain w p.blk (cap * sz) ∧ repRows w X p.blk sz xs 0 p.nest ∧ (deep = false → p.nest = [])))
  | .bld t e l => p.hd = true ∧ ∃ q v, (q = .pointer none ∨ q = .pointer (some ⟨p.blk, 0, none⟩)) ∧ w.heap[p.blk]? = some (.cells #[q, v] t (0, 0)) ∧ w.ownsRowF 0 e 1 v l.length (Lib.byteCells l) ∧ p.nest = v.ownBlock.toList
  | .opn sz xs els => 0 < sz ∧ ∃ cap, p.v = .slice (some ⟨p.blk, 0, none⟩) xs.length cap ∧ xs.length ≤ cap ∧ p.hd = true ∧ Plain w p.blk (cap * sz) ∧ repRows w X p.blk sz (baseXs xs els) 0 p.nest ∧
      (els.map (·.i)).Nodup ∧ ∀ e ∈ els, (e.i < xs.length ∧ e.cells.length = sz ∧ (e.ag = false → sz = 1) ∧ allOneD (ocD e.cells) = true) ∧ ∀ (c key : Nat), e.cells[c]? = some (.k key) → ∃ q, J key = some q ∧ w.cell? ⟨p.blk, e.i * sz + c, none⟩ = some q.v ∧ q.v.oneCell' = true
  | .gone => p.hd = false

/-- The blocks that may be written: those of the walk, and X0. -/
def Xof (X0 : Nat → Prop) (J : Nat → Option Place) (b : Nat) : Prop := X0 b ∨ ∃ k p, J k = some p ∧ b ∈ p.fp

structure Mem (X0 : Nat → Prop) (J : Nat → Option Place) (obj : Nat → Option Ob) (w : World) : Prop where
  ob : ∀ k o, obj k = some o → ∃ p, J k = some p ∧ o.rep w (Xof X0 J) J p
  dom : ∀ k p, J k = some p → ∃ o, obj k = some o
  sep : ∀ k k' p p', J k = some p → J k' = some p' → k ≠ k' → ∀ b, b ∈ p.fp → b ∈ p'.fp → False
  nd : ∀ k p, J k = some p → p.fp.Nodup
  x0 : ∀ b, X0 b → b < w.heap.size ∧ ∀ k p, J k = some p → b ∉ p.fp

structure Rel (X0 : Nat → Prop) (J : Nat → Option Place) (st : St) (a : Act) (w : World) : Prop where
  env : ∀ t v, look t st.env = some v → ∃ u, a.tmps[t]? = some u ∧ v.rep w (Xof X0 J) J u
  mem : Mem X0 J (look · st.obj) w
  defers : a.defers = []

/-- What was there and may not be written is as it was. -/
structure Kept (F : Nat → Prop) (w w' : World) : Prop where
  os : w'.os = w.os
  tape : w'.tape = w.tape
  output : w'.output = w.output
  size : w.heap.size ≤ w'.heap.size
  block : ∀ b, b < w.heap.size → ¬ F b → w'.heap[b]? = w.heap[b]?

/-- The same place: who names it still does. -/
def Place.like (p q : Place) : Prop := q.blk = p.blk ∧ q.v = p.v

/-- A function that is entered when it is called. -/
def Enters (P : Program) (f : FuncId) : Prop := ∃ fn, P.funcs[f]? = some fn ∧ (fn.name == "runtime.NumGoroutine") = false ∧ fn.body.isNone = false

def Fps (J : Nat → Option Place) (b : Nat) : Prop := ∃ k p, J k = some p ∧ b ∈ p.fp

/-- A call: of these values, over these blocks, it hands back R, and leaves the blocks as O says (those behind the ones that came in are new), R and O as Q says. -/
structure EntQ (P : Program) (f : FuncId) (args : List AV) (objs : List Ob) (Q : AV → List Ob → Prop) : Prop where
  enters : Enters P f
  calls : ∀ (X0 : Nat → Prop) (J : Nat → Option Place) (w : World) (vs : Array Value),
    AV.repL w (Xof X0 J) J args vs.toList → Mem X0 J (objs[·]?) w →
    Calls P f vs w fun e w' => ∃ R O v J', Q R O ∧ e = .returned v ∧ R.rep w' (Xof X0 J') J' v ∧ Mem X0 J' (O[·]?) w' ∧ Kept (Fps J) w w' ∧
      (∀ k p b, J' k = some p → b ∈ p.fp → Fps J b ∨ w.heap.size ≤ b) ∧ ∀ k p, J k = some p → ∃ p', J' k = some p' ∧ p.like p'
def Ent (P : Program) (f : FuncId) (args : List AV) (objs : List Ob) (R : AV) (O : List Ob) : Prop := EntQ P f args objs fun R' O' => R' = R ∧ O' = O

mutual
def D.flat : D → Bool
  | .sl _ [] => true
  | .sl _ (_ :: _) => false
  | .os .. => false
  | .agg cs => flatL cs
  | _ => true
def flatL : List D → Bool
  | [] => true
  | x :: r => match x.flat with | true => flatL r | false => false
end
mutual
/-- Data through which nothing that was lent is seen. -/
def D.loose : D → Bool
  | .sl _ [] => true
  | .sl _ (_ :: _) => false
  | .os _ _ xs => looseL xs
  | .agg cs => looseL cs
  | _ => true
def looseL : List D → Bool
  | [] => true
  | x :: r => match x.loose with | true => looseL r | false => false
end
mutual
def AV.flat : AV → Bool
  | .d x => x.flat
  | .c _ => true
  | .tup vs => flatV vs
  | _ => false
def flatV : List AV → Bool
  | [] => true
  | x :: r => match x.flat with | true => flatV r | false => false
end

mutual
/-- The blocks ks are no longer the walk's own: who names them sees their elements, for good. -/
def AV.frz (σ : Nat → Option Ob) (ks : List Nat) : AV → AV
  | .own k => match has k ks with
    | true => match (AV.own k).show σ with | some (x, _) => .d x | none => .bot
    | false => .own k
  | .win k s lo hi => match has k ks with
    | true => match (AV.win k s lo hi).show σ with | some (x, _) => .d x | none => .bot
    | false => .win k s lo hi
  | .ptr k o => match has k ks with | true => .bot | false => .ptr k o
  | .eptr k s i o => match has k ks with | true => .bot | false => .eptr k s i o
  | .agg cs => .agg (frzL σ ks cs)
  | .tup vs => .tup (frzL σ ks vs)
  | .fn g caps => .fn g (frzL σ ks caps)
  | v => v
def frzL (σ : Nat → Option Ob) (ks : List Nat) : List AV → List AV
  | [] => []
  | v :: r => v.frz σ ks :: frzL σ ks r
end
def Ob.frz (σ : Nat → Option Ob) (ks : List Nat) : Ob → Ob
  | .var cells => .var (frzL σ ks cells)
  | .arr s u xs => .arr s u xs
  | .bld t e l => .bld t e l
  | .opn s xs els => .opn s xs (renEls (without ks) els)
  | .gone => .gone
def frzEnv (σ : Nat → Option Ob) (ks : List Nat) : List (Nat × AV) → List (Nat × AV)
  | [] => []
  | (t, v) :: r => (t, v.frz σ ks) :: frzEnv σ ks r
def frzObj (σ : Nat → Option Ob) (ks : List Nat) : List (Nat × Ob) → List (Nat × Ob)
  | [] => []
  | (k, o) :: r => match has k ks with | true => frzObj σ ks r | false => (k, o.frz σ ks) :: frzObj σ ks r
def St.frz (st : St) (ks : List Nat) : St := { env := frzEnv (look · st.obj) ks st.env, obj := frzObj (look · st.obj) ks st.obj }

/-- Values handed on to a call: what can be shown is shown. -/
def lend (σ : Nat → Option Ob) : List AV → List AV × List Nat
  | [] => ([], [])
  | v :: r => match lend σ r with
    | (l, ks) => match v.show σ with | some (x, k1) => (.d x :: l, k1 ++ ks) | none => (v :: l, ks)

def addNew : List Nat → List Nat → List Nat
  | [], acc => acc
  | k :: r, acc => match has k acc with | true => addNew r acc | false => addNew r (acc ++ [k])
/-- What the blocks lead to. -/
def reachN (σ : Nat → Option Ob) : Nat → List Nat → List Nat → List Nat
  | 0, _, acc => acc
  | _ + 1, [], acc => acc
  | n + 1, k :: todo, acc => match has k acc with
    | true => reachN σ n todo acc
    | false => match σ k with
      | some o => reachN σ n (o.refs ++ todo) (acc ++ [k])
      | none => reachN σ n todo (acc ++ [k])
def idx (k : Nat) : List Nat → Nat → Option Nat
  | [], _ => none
  | j :: r, i => match Nat.beq j k with | true => some i | false => idx k r (i + 1)
def pickObs (σ : Nat → Option Ob) (f : Nat → Option Nat) : List Nat → Option (List Ob)
  | [] => some []
  | k :: r => match σ k with
    | some o => match pickObs σ f r with | some l => some (o.ren f :: l) | none => none
    | none => none
/-- The caller's name of the callee's block i: ks those that were handed in; behind them new ones. -/
def nameOf (ks : List Nat) (d i : Nat) : Option Nat := match ks[i]? with | some k => some k | none => some (10000 * (i - ks.length + 1) + d)
def setAll (st : St) (g : Nat → Option Nat) : Nat → List Ob → St
  | _, [] => st
  | i, o :: r => match g i with
    | some k => setAll (st.set k (o.ren g)) g (i + 1) r
    | none => st
def freshOk (obj : List (Nat × Ob)) (ks : List Nat) (d : Nat) : Nat → Nat → Bool
  | _, 0 => true
  | i, n + 1 => match look (10000 * (i + 1) + d) obj with | none => freshOk obj ks d (i + 1) n | some _ => false

def inside : List Nat → List Nat → Bool
  | [], _ => true
  | k :: r, ks => match has k ks with | true => inside r ks | false => false
mutual
/-- A value through which nothing that was lent is seen. -/
def AV.loose : AV → Bool
  | .d x => x.flat
  | .rd _ => false
  | .agg vs => looseV vs
  | .tup vs => looseV vs
  | .fn _ vs => looseV vs
  | _ => true
def looseV : List AV → Bool
  | [] => true
  | x :: r => match x.loose with | true => looseV r | false => false
end
def flatObs : List Ob → Bool
  | [] => true
  | .var cells :: r => match looseV cells with | true => flatObs r | false => false
  | .arr _ _ xs :: r => match looseL xs with | true => flatObs r | false => false
  | .bld .. :: r => flatObs r
  | .opn .. :: _ => false
  | .gone :: r => flatObs r
def apart : List Nat → List Nat → Bool
  | [], _ => true
  | k :: r, ks => match has k ks with | true => false | false => apart r ks

/-! The walk's state is brought to its own form behind each region. -/
def AV.force (v : AV) (K : AV → Prop) : Prop := match v with
  | .d x => K (.d x)
  | .c u => K (.c u)
  | .snil => K .snil
  | .agg cs => K (.agg cs)
  | .tup vs => K (.tup vs)
  | .ptr k o => K (.ptr k o)
  | .eptr k s i o => K (.eptr k s i o)
  | .own k => K (.own k)
  | .win k s lo hi => K (.win k s lo hi)
  | .rd cs => K (.rd cs)
  | .fn g caps => K (.fn g caps)
  | .bot => K .bot
theorem AV.force_eq (v : AV) (K : AV → Prop) : v.force K = K v := by cases v <;> rfl
def forceL : List AV → (List AV → Prop) → Prop
  | [], K => K []
  | v :: r, K => v.force fun v' => forceL r fun r' => K (v' :: r')
theorem forceL_eq : ∀ (l : List AV) (K : List AV → Prop), forceL l K = K l
  | [], K => rfl
  | v :: r, K => by simp only [forceL, AV.force_eq, forceL_eq r]
def OC.force (c : OC) (K : OC → Prop) : Prop := match c with | .d x => K (.d x) | .k n => K (.k n)
theorem OC.force_eq (c : OC) (K : OC → Prop) : c.force K = K c := by cases c <;> rfl
def forceC : List OC → (List OC → Prop) → Prop
  | [], K => K []
  | c :: r, K => c.force fun c' => forceC r fun r' => K (c' :: r')
theorem forceC_eq : ∀ (l : List OC) (K : List OC → Prop), forceC l K = K l
  | [], K => rfl
  | v :: r, K => by simp only [forceC, OC.force_eq, forceC_eq r]
def forceB (b : Bool) (K : Bool → Prop) : Prop := match b with | true => K true | false => K false
theorem forceB_eq (b : Bool) (K : Bool → Prop) : forceB b K = K b := by cases b <;> rfl
def forceE : List OE → (List OE → Prop) → Prop
  | [], K => K []
  | e :: r, K => forceB e.ag fun ag => forceC e.cells fun cs => forceE r fun r' => K (⟨e.i, ag, cs⟩ :: r')
theorem forceE_eq : ∀ (l : List OE) (K : List OE → Prop), forceE l K = K l
  | [], K => rfl
  | v :: r, K => by simp only [forceE, forceB_eq, forceC_eq, forceE_eq r]
def Ob.force (o : Ob) (K : Ob → Prop) : Prop := match o with
  | .var cells => forceL cells fun c => K (.var c)
  | .arr s dp xs => K (.arr s dp xs)
  | .bld t e l => K (.bld t e l)
  | .opn s xs els => forceE els fun els' => K (.opn s xs els')
  | .gone => K .gone
theorem Ob.force_eq (o : Ob) (K : Ob → Prop) : o.force K = K o := by cases o <;> simp only [Ob.force, forceL_eq, forceE_eq]
def forceEnv : List (Nat × AV) → (List (Nat × AV) → Prop) → Prop
  | [], K => K []
  | (n, v) :: r, K => v.force fun v' => forceEnv r fun r' => K ((n, v') :: r')
theorem forceEnv_eq : ∀ (l : List (Nat × AV)) (K : List (Nat × AV) → Prop), forceEnv l K = K l
  | [], K => rfl
  | (n, v) :: r, K => by simp only [forceEnv, AV.force_eq, forceEnv_eq r]
def forceObj : List (Nat × Ob) → (List (Nat × Ob) → Prop) → Prop
  | [], K => K []
  | (n, v) :: r, K => v.force fun v' => forceObj r fun r' => K ((n, v') :: r')
theorem forceObj_eq : ∀ (l : List (Nat × Ob)) (K : List (Nat × Ob) → Prop), forceObj l K = K l
  | [], K => rfl
  | (n, v) :: r, K => by simp only [forceObj, Ob.force_eq, forceObj_eq r]
def St.force (st : St) (K : St → Prop) : Prop := forceEnv st.env fun e => forceObj st.obj fun o => K ⟨e, o⟩
theorem St.force_eq (st : St) (K : St → Prop) : st.force K = K st := by simp only [St.force, forceEnv_eq, forceObj_eq]

/-- New blocks, each under its name. -/
def St.news (st : St) : List (Nat × Ob) → St
  | [] => st
  | (k, ob) :: r => (st.news r).set k ob

section
variable (P : Program) (cx : Cx)
/-- The state behind a call. -/
def after (st : St) (ks : List Nat) (d : Nat) (O : List Ob) (R : AV) : St := (setAll st (nameOf ks d) 0 O).put (some d) (R.ren (nameOf ks d))
def forceN : List Nat → (List Nat → Prop) → Prop
  | [], K => K []
  | k :: r, K => forceN r fun r' => K (k :: r')
theorem forceN_eq : ∀ (l : List Nat) (K : List Nat → Prop), forceN l K = K l
  | [], K => rfl
  | k :: r, K => by simp only [forceN, forceN_eq r]
/-- The call itself, of what is handed on. -/
def evCallIn (f : FuncId) (args : List AV) (bs : List Nat) (d : Nat) (st : St) (K : St → Prop) : Prop :=
  forceN (reachN (look · st.obj) 50 (refsL args) []) fun ks =>
    match nodup ks && apart bs ks && bigs bs && inside (refsL args) ks with
    | false => False
    | true => match pickObs (look · st.obj) (idx · ks 0) ks with
      | none => False
      | some objs => ∃ Q, EntQ P f (renL (idx · ks 0) args) objs Q ∧ ∀ R O, Q R O →
        (match Nat.ble ks.length O.length && freshOk st.obj ks d 0 (O.length - ks.length) with
        | false => False
        | true => match bs with
          | [] => K (after st ks d O R)
          | _ => match R.loose && flatObs O with
            | true => K (after st ks d O R)
            | false => K (after (st.frz bs) ks d O R))
/-- Pointers handed on to be read through only. -/
def evRo (σ : Nat → Option Ob) : List AV → (List AV → List Nat → Prop) → Prop
  | [], K => K [] []
  | .ptr k off :: r, K => match σ k with
    | some (.var cells) => match drop off cells with
      | some tl => match showL σ tl with
        | some (c :: cs, ks) => evRo σ r fun l bs => K (.rd (c :: cs) :: l) (k :: (ks ++ bs))
        | _ => False
      | none => False
    | _ => False
  | .eptr k s j off :: r, K => match σ k with
    | some (.arr sz _ xs) => match Nat.beq s sz with
      | true => ∃ x, xs[j]? = some x ∧ match drop off x.erase.cells with
        | some (c :: cs) => evRo σ r fun l bs => K (.rd (c :: cs) :: l) (k :: bs)
        | _ => False
      | false => False
    | _ => False
  | v :: r, K => match v.show σ with
    | some (x, k1) => evRo σ r fun l bs => K (.d x :: l) (k1 ++ bs)
    | none => evRo σ r fun l bs => K (v :: l) bs
/-- cx.mu: the functions that are handed blocks to be written; f + 1000000 for those that read through all pointers that they are handed. -/
def evCall (f : FuncId) (vs : List AV) (dst : Option Nat) (st : St) (K : St → Prop) : Prop :=
  match dst with
  | none => False
  | some d => match has (1000000 + f) cx.mu with
    | true => evRo (look · st.obj) vs fun args bs => evCallIn P f args bs d st K
    | false => match has f cx.mu with
      | true => evCallIn P f vs [] d st K
      | false => match lend (look · st.obj) vs with | (args, bs) => evCallIn P f args bs d st K

def evCmd : Option Nat → Cmd → St → (St → Prop) → Prop
  | _, .stuck, _, _ => False
  | dst, .val v, st, K => K (st.put dst v)
  | dst, .need p c, st, K => p ∧ evCmd dst c st K
  | dst, .get xs i f, st, K => ∃ x, xs[i]? = some x ∧ evCmd dst (f x) st K
  | dst, .str xs, st, K => ∃ l, xs = u8s l ∧ K (st.put dst (.d (.s l)))
  | dst, .newVar ob, st, K => match dst with
    | some d => match look (10000 + d) st.obj with
      | none => K ((st.set (10000 + d) ob).put (some d) (.ptr (10000 + d) 0))
      | some _ => False
    | none => False
  | dst, .newArr sz deep xs ks, st, K => match dst with
    | some d => match look (10000 + d) st.obj with
      | none => match ks with
        | [] => K ((st.set (10000 + d) (.arr sz deep xs)).put (some d) (.own (10000 + d)))
        | k :: ks => match bigs (k :: ks) with
          | false => False
          | true => K (((st.ren (without ((10000 + d) :: k :: ks))).set (10000 + d) (.arr sz deep xs)).put (some d) (.own (10000 + d)))
      | some _ => False
    | none => False
  | dst, .app k sz deep xs ks, st, K => match bigs (k :: ks) with
    | true => K (((st.ren (without (k :: ks))).set k (.arr sz deep xs)).put dst (.own k))
    | false => False
  | dst, .upd k o v, st, K => K ((st.set k o).put dst v)
  | dst, .call f vs, st, K => evCall P cx f vs dst st K
  | dst, .alt a b, st, K => evCmd dst a st K ∨ evCmd dst b st K
  | dst, .newNil sz deep, st, K => match dst with
    | some d => match look (10000 + d) st.obj with
      | none => K ((st.set (10000 + d) (.arr sz deep [])).put (some d) (.own (10000 + d)))
      | some _ => False
    | none => False
  | dst, .opens k ob news c, st, K => match freshAll st.obj news with
    | true => evCmd dst c ((st.news news).set k ob) K
    | false => False
  | dst, .put k ob ks, st, K => match bigs ks with
    | true => K (((st.ren (without ks)).set k ob).put dst (.tup []))
    | false => False
  | dst, .bit p, st, K => ∀ b : Bool, (b = true → p) → K (st.put dst (.d (.b b)))

/-- The same, one step: unfolded, it names what comes next by rc, so that whoever unfolds it sees the same term. -/
def evStep (rc : Option Nat → Cmd → St → (St → Prop) → Prop) : Option Nat → Cmd → St → (St → Prop) → Prop
  | _, .stuck, _, _ => False
  | dst, .val v, st, K => K (st.put dst v)
  | dst, .need p c, st, K => p ∧ rc dst c st K
  | dst, .get xs i f, st, K => ∃ x, xs[i]? = some x ∧ rc dst (f x) st K
  | dst, .str xs, st, K => ∃ l, xs = u8s l ∧ K (st.put dst (.d (.s l)))
  | dst, .newVar ob, st, K => match dst with
    | some d => match look (10000 + d) st.obj with
      | none => K ((st.set (10000 + d) ob).put (some d) (.ptr (10000 + d) 0))
      | some _ => False
    | none => False
  | dst, .newArr sz deep xs ks, st, K => match dst with
    | some d => match look (10000 + d) st.obj with
      | none => match ks with
        | [] => K ((st.set (10000 + d) (.arr sz deep xs)).put (some d) (.own (10000 + d)))
        | k :: ks => match bigs (k :: ks) with
          | false => False
          | true => K (((st.ren (without ((10000 + d) :: k :: ks))).set (10000 + d) (.arr sz deep xs)).put (some d) (.own (10000 + d)))
      | some _ => False
    | none => False
  | dst, .app k sz deep xs ks, st, K => match bigs (k :: ks) with
    | true => K (((st.ren (without (k :: ks))).set k (.arr sz deep xs)).put dst (.own k))
    | false => False
  | dst, .upd k o v, st, K => K ((st.set k o).put dst v)
  | dst, .call f vs, st, K => evCall P cx f vs dst st K
  | dst, .alt a b, st, K => rc dst a st K ∨ rc dst b st K
  | dst, .newNil sz deep, st, K => match dst with
    | some d => match look (10000 + d) st.obj with
      | none => K ((st.set (10000 + d) (.arr sz deep [])).put (some d) (.own (10000 + d)))
      | some _ => False
    | none => False
  | dst, .opens k ob news c, st, K => match freshAll st.obj news with
    | true => rc dst c ((st.news news).set k ob) K
    | false => False
  | dst, .put k ob ks, st, K => match bigs ks with
    | true => K (((st.ren (without ks)).set k ob).put dst (.tup []))
    | false => False
  | dst, .bit p, st, K => ∀ b : Bool, (b = true → p) → K (st.put dst (.d (.b b)))

def ev0 : Option Nat → Cmd → St → (St → Prop) → Prop := evStep P cx fun _ _ _ _ => False
def ev1 : Option Nat → Cmd → St → (St → Prop) → Prop := evStep P cx (ev0 P cx)
def ev2 : Option Nat → Cmd → St → (St → Prop) → Prop := evStep P cx (ev1 P cx)
def ev3 : Option Nat → Cmd → St → (St → Prop) → Prop := evStep P cx (ev2 P cx)
def ev4 : Option Nat → Cmd → St → (St → Prop) → Prop := evStep P cx (ev3 P cx)
def ev5 : Option Nat → Cmd → St → (St → Prop) → Prop := evStep P cx (ev4 P cx)
def ev6 : Option Nat → Cmd → St → (St → Prop) → Prop := evStep P cx (ev5 P cx)
def ev7 : Option Nat → Cmd → St → (St → Prop) → Prop := evStep P cx (ev6 P cx)
def ev8 : Option Nat → Cmd → St → (St → Prop) → Prop := evStep P cx (ev7 P cx)
def ev9 : Option Nat → Cmd → St → (St → Prop) → Prop := evStep P cx (ev8 P cx)
def ev10 : Option Nat → Cmd → St → (St → Prop) → Prop := evStep P cx (ev9 P cx)
def ev11 : Option Nat → Cmd → St → (St → Prop) → Prop := evStep P cx (ev10 P cx)
def ev12 : Option Nat → Cmd → St → (St → Prop) → Prop := evStep P cx (ev11 P cx)
def ev13 : Option Nat → Cmd → St → (St → Prop) → Prop := evStep P cx (ev12 P cx)
def ev14 : Option Nat → Cmd → St → (St → Prop) → Prop := evStep P cx (ev13 P cx)
def ev15 : Option Nat → Cmd → St → (St → Prop) → Prop := evStep P cx (ev14 P cx)
def ev16 : Option Nat → Cmd → St → (St → Prop) → Prop := evStep P cx (ev15 P cx)
/-- What must be whole ahead of an operation. -/
def wholeFor (o : Oper) (st : St) : List Nat :=
  match o.op with
  | .call c => match c.callee with
    | .builtin .len => []
    | .builtin _ => match st.evs c.args.toList with | some vs => refsL vs | none => []
    | .value f => match st.ev f, st.evs c.args.toList with
      | some v, some vs => reachN (look · st.obj) 50 (v.refs ++ refsL vs) []
      | _, _ => []
    | _ => []
  | .slice _ x _ _ _ => match st.ev x with | some v => v.refs | none => []
  | _ => []
def asksWhole : Op → Bool
  | .call c => match c.callee with | .builtin .len => false | _ => true
  | .slice .. => true
  | _ => false
def evOp (o : Oper) (st : St) (K : St → Prop) : Prop :=
  match asksWhole o.op with
  | false => ev16 P cx o.dst (opCmd cx.T o st) st K
  | true => match anyOpn st.obj with
    | false => ev16 P cx o.dst (opCmd cx.T o st) st K
    | true => (st.shuts (wholeFor o st)).force fun st' => ev16 P cx o.dst (opCmd cx.T o st') st' K
/-- The operations of a region, in the order of the text. -/
def evOps (all : List Oper) (K : St → Prop) : List Oper → St → Prop
  | [], st => K st
  | o :: rest, st => match o.guard with
    | none => evOp P cx o st (evOps all K rest)
    | some (j, want) => match all[j]? with
      | some oj => match oj.dst with
        | some t => match look t st.env with
          | some (.d (.b x)) => (match want with
            | true => (match x with
              | true => evOp P cx o st (evOps all K rest)
              | false => evOps all K rest (st.put o.dst (.tup [])))
            | false => (match x with
              | true => evOps all K rest (st.put o.dst (.tup []))
              | false => evOp P cx o st (evOps all K rest)))
          | some (.tup []) => evOps all K rest (st.put o.dst (.tup []))
          | _ => False
        | none => False
      | none => False
end

section
variable {P : Program} {cx : Cx}
theorem evStep_to {rc : Option Nat → Cmd → St → (St → Prop) → Prop} (h : ∀ dst c st K, rc dst c st K → evCmd P cx dst c st K) {dst : Option Nat} {c : Cmd} {st : St} {K : St → Prop} (hc : evStep P cx rc dst c st K) : evCmd P cx dst c st K := by
  cases c with
  | need p c => exact ⟨hc.1, h _ _ _ _ hc.2⟩
  | get xs i f => obtain ⟨x, hx, hc⟩ := hc; exact ⟨x, hx, h _ _ _ _ hc⟩
  | alt a b => exact hc.imp (h _ _ _ _) (h _ _ _ _)
  | opens k ob news c =>
    simp only [evStep] at hc
    simp only [evCmd]
    split at hc
    · exact h _ _ _ _ hc
    · exact hc.elim
  | _ => exact hc
theorem ev0_to (dst : Option Nat) (c : Cmd) (st : St) (K : St → Prop) (hc : ev0 P cx dst c st K) : evCmd P cx dst c st K := evStep_to (fun _ _ _ _ h => h.elim) hc
theorem ev1_to (dst : Option Nat) (c : Cmd) (st : St) (K : St → Prop) (hc : ev1 P cx dst c st K) : evCmd P cx dst c st K := evStep_to ev0_to hc
theorem ev2_to (dst : Option Nat) (c : Cmd) (st : St) (K : St → Prop) (hc : ev2 P cx dst c st K) : evCmd P cx dst c st K := evStep_to ev1_to hc
theorem ev3_to (dst : Option Nat) (c : Cmd) (st : St) (K : St → Prop) (hc : ev3 P cx dst c st K) : evCmd P cx dst c st K := evStep_to ev2_to hc
theorem ev4_to (dst : Option Nat) (c : Cmd) (st : St) (K : St → Prop) (hc : ev4 P cx dst c st K) : evCmd P cx dst c st K := evStep_to ev3_to hc
theorem ev5_to (dst : Option Nat) (c : Cmd) (st : St) (K : St → Prop) (hc : ev5 P cx dst c st K) : evCmd P cx dst c st K := evStep_to ev4_to hc
theorem ev6_to (dst : Option Nat) (c : Cmd) (st : St) (K : St → Prop) (hc : ev6 P cx dst c st K) : evCmd P cx dst c st K := evStep_to ev5_to hc
theorem ev7_to (dst : Option Nat) (c : Cmd) (st : St) (K : St → Prop) (hc : ev7 P cx dst c st K) : evCmd P cx dst c st K := evStep_to ev6_to hc
theorem ev8_to (dst : Option Nat) (c : Cmd) (st : St) (K : St → Prop) (hc : ev8 P cx dst c st K) : evCmd P cx dst c st K := evStep_to ev7_to hc
theorem ev9_to (dst : Option Nat) (c : Cmd) (st : St) (K : St → Prop) (hc : ev9 P cx dst c st K) : evCmd P cx dst c st K := evStep_to ev8_to hc
theorem ev10_to (dst : Option Nat) (c : Cmd) (st : St) (K : St → Prop) (hc : ev10 P cx dst c st K) : evCmd P cx dst c st K := evStep_to ev9_to hc
theorem ev11_to (dst : Option Nat) (c : Cmd) (st : St) (K : St → Prop) (hc : ev11 P cx dst c st K) : evCmd P cx dst c st K := evStep_to ev10_to hc
theorem ev12_to (dst : Option Nat) (c : Cmd) (st : St) (K : St → Prop) (hc : ev12 P cx dst c st K) : evCmd P cx dst c st K := evStep_to ev11_to hc
theorem ev13_to (dst : Option Nat) (c : Cmd) (st : St) (K : St → Prop) (hc : ev13 P cx dst c st K) : evCmd P cx dst c st K := evStep_to ev12_to hc
theorem ev14_to (dst : Option Nat) (c : Cmd) (st : St) (K : St → Prop) (hc : ev14 P cx dst c st K) : evCmd P cx dst c st K := evStep_to ev13_to hc
theorem ev15_to (dst : Option Nat) (c : Cmd) (st : St) (K : St → Prop) (hc : ev15 P cx dst c st K) : evCmd P cx dst c st K := evStep_to ev14_to hc
theorem ev16_to (dst : Option Nat) (c : Cmd) (st : St) (K : St → Prop) (hc : ev16 P cx dst c st K) : evCmd P cx dst c st K := evStep_to ev15_to hc
end

def pickEnv (l : List (Nat × AV)) : List Nat → List (Nat × AV)
  | [] => []
  | t :: ts => match look t l with | some v => (t, v) :: pickEnv l ts | none => pickEnv l ts
def pickObj (l : List (Nat × Ob)) : List Nat → List (Nat × Ob)
  | [] => []
  | t :: ts => match look t l with | some v => (t, v) :: pickObj l ts | none => pickObj l ts
/-- Only these slots, and these blocks. -/
def St.only (st : St) (ts ks : List Nat) : St :=
  { env := renEnv (Pm.within ks) (pickEnv st.env ts), obj := renObj (Pm.within ks) (pickObj st.obj ks) }

inductive Ex where
  | normal
  | exit (id : Nat)
  | ret
end Go.Pm
