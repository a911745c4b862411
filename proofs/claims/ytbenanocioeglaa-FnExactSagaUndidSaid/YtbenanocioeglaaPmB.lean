/-
A walk of Go's code over values: what a state says of memory, what a call says, and the walk itself.
-/
import Derived.Test.YtbenanocioeglaaPmA
import Derived.Deep.MidRow
import Derived.Lib.FrozenHead
namespace Go.Pm
open Go

/-- A block of n cells, each of which may be written. -/
def Plain (w : World) (b n : Nat) : Prop := ∃ cs t, w.heap[b]? = some (.cells cs t (0, 0)) ∧ cs.size = n

mutual
/-- v is the data x, in w; bs: the blocks that it owns; X: the blocks that may be written. -/
def D.rep (w : World) (X : Nat → Prop) : D → Value → List Nat → Prop
  | .b x, v, bs => v = .bool x ∧ bs = []
  | .i k n, v, bs => v = .int k n ∧ bs = []
  | .s l, v, bs => v = .string ⟨l.toArray⟩ ∧ bs = []
  | .agg cs, v, bs => ∃ vs, v = .agg vs ∧ repL w X cs vs.toList bs
  | .sl u xs, v, bs => ∃ a cap, v = .slice a xs.length cap ∧ xs.length ≤ cap ∧
      ((xs = [] ∧ bs = []) ∨ ∃ b off sz bs', xs ≠ [] ∧ a = some ⟨b, off, none⟩ ∧ 0 < sz ∧ repRows w X b sz xs off bs' ∧
        ((u = false ∧ ¬ X b ∧ bs = [] ∧ bs' = []) ∨ (u = true ∧ off = 0 ∧ bs = b :: bs' ∧ Plain w b (cap * sz))))
def repL (w : World) (X : Nat → Prop) : List D → List Value → List Nat → Prop
  | [], vs, bs => vs = [] ∧ bs = []
  | x :: xs, vs, bs => ∃ v vs' b1 b2, vs = v :: vs' ∧ bs = b1 ++ b2 ∧ D.rep w X x v b1 ∧ repL w X xs vs' b2
def repRows (w : World) (X : Nat → Prop) (b sz : Nat) : List D → Nat → List Nat → Prop
  | [], _, bs => bs = []
  | x :: xs, off, bs => ∃ v b1 b2, bs = b1 ++ b2 ∧ D.rep w X x v b1 ∧ v.cells.size = sz ∧ (x.cells.length = sz ∧ ∀ u ∈ v.cells.toList, u.oneCell' = true) ∧ w.rangeAt b off v.cells.toList ∧ repRows w X b sz xs (off + sz) b2
end

/-- Where a block of the walk lies. -/
structure Place where
  blk : Nat
  nest : List Nat
  len : Nat
  cap : Nat
def Place.fp (p : Place) : List Nat := p.blk :: p.nest

mutual
def AV.rep (w : World) (X : Nat → Prop) (J : Nat → Option Place) : AV → Value → Prop
  | .d x, v => x.rep w X v []
  | .c u, v => v = u ∧ u.oneCell' = true
  | .snil, v => v = .slice none 0 0
  | .agg cs, v => ∃ vs, v = .agg vs ∧ AV.repL w X J cs vs.toList
  | .tup cs, v => ∃ vs, v = .tuple vs ∧ AV.repL w X J cs vs.toList
  | .ptr k off, v => ∃ p, J k = some p ∧ v = .pointer (some ⟨p.blk, off, none⟩)
  | .eptr k sz i off, v => ∃ p, J k = some p ∧ v = .pointer (some ⟨p.blk, i * sz + off, none⟩)
  | .own k, v => ∃ p, J k = some p ∧ v = .slice (some ⟨p.blk, 0, none⟩) p.len p.cap
  | .rd cs, v => ∃ b off vs, v = .pointer (some ⟨b, off, none⟩) ∧ vs ≠ [] ∧ ¬ X b ∧ Go.Pm.repL w X cs vs [] ∧ w.rangeAt b off vs
  | .fn g caps, v => ∃ cs, v = .func (.func g) #[] cs ∧ AV.repL w X J caps cs.toList
  | .bot, v => v.oneCell' = true
def AV.repL (w : World) (X : Nat → Prop) (J : Nat → Option Place) : List AV → List Value → Prop
  | [], vs => vs = []
  | x :: xs, vs => ∃ v vs', vs = v :: vs' ∧ AV.rep w X J x v ∧ AV.repL w X J xs vs'
end

def Ob.rep (w : World) (X : Nat → Prop) (J : Nat → Option Place) (p : Place) : Ob → Prop
  | .var cells => p.nest = [] ∧ ∃ cs t, w.heap[p.blk]? = some (.cells cs t (0, 0)) ∧ AV.repL w X J cells cs.toList
  | .arr sz deep xs => 0 < sz ∧ p.len = xs.length ∧ p.len ≤ p.cap ∧ Plain w p.blk (p.cap * sz) ∧ repRows w X p.blk sz xs 0 p.nest ∧ (deep = false → p.nest = [])
  | .bld e l => ∃ v t, w.heap[p.blk]? = some (.cells #[.pointer (some ⟨p.blk, 0, none⟩), v] t (0, 0)) ∧ w.ownsRowF 0 e 1 v l.length (Lib.byteCells l) ∧ p.nest = v.ownBlock.toList

/-- The blocks that may be written: those of the walk, and X0. -/
def Xof (X0 : Nat → Prop) (J : Nat → Option Place) (b : Nat) : Prop := X0 b ∨ ∃ k p, J k = some p ∧ b ∈ p.fp

structure Mem (X0 : Nat → Prop) (J : Nat → Option Place) (obj : Nat → Option Ob) (w : World) : Prop where
  ob : ∀ k o, obj k = some o → ∃ p, J k = some p ∧ o.rep w (Xof X0 J) J p
  dom : ∀ k p, J k = some p → ∃ o, obj k = some o
  sep : ∀ k k' p p', J k = some p → J k' = some p' → k ≠ k' → ∀ b, b ∈ p.fp → b ∈ p'.fp → False
  nd : ∀ k p, J k = some p → p.fp.Nodup
  x0 : ∀ b, X0 b → b < w.heap.size ∧ ∀ k p, J k = some p → b ∉ p.fp

structure Rel (X0 : Nat → Prop) (J : Nat → Option Place) (st : St) (a : Act) (w : World) : Prop where
  env : ∀ t v, look t st.env = some v → ∃ u, a.tmps[t]? = some u ∧ v.rep w (Xof X0 J) J u
  mem : Mem X0 J (look · st.obj) w
  defers : a.defers = []

/-- What was there and may not be written is as it was. -/
structure Kept (F : Nat → Prop) (w w' : World) : Prop where
  os : w'.os = w.os
  tape : w'.tape = w.tape
  output : w'.output = w.output
  size : w.heap.size ≤ w'.heap.size
  block : ∀ b, b < w.heap.size → ¬ F b → w'.heap[b]? = w.heap[b]?

/-- The same place: who names it still does. -/
def Place.like (p q : Place) : Prop := q.blk = p.blk ∧ q.len = p.len ∧ q.cap = p.cap

/-- A function that is entered when it is called. -/
def Enters (P : Program) (f : FuncId) : Prop := ∃ fn, P.funcs[f]? = some fn ∧ (fn.name == "runtime.NumGoroutine") = false ∧ fn.body.isNone = false

def Fps (J : Nat → Option Place) (b : Nat) : Prop := ∃ k p, J k = some p ∧ b ∈ p.fp

/-- A call: of these values, over these blocks, it hands back R, and leaves the blocks as O says (those behind the ones that came in are new), R and O as Q says. -/
structure EntQ (P : Program) (f : FuncId) (args : List AV) (objs : List Ob) (Q : AV → List Ob → Prop) : Prop where
  enters : Enters P f
  calls : ∀ (X0 : Nat → Prop) (J : Nat → Option Place) (w : World) (vs : Array Value),
    AV.repL w (Xof X0 J) J args vs.toList → Mem X0 J (objs[·]?) w →
    Calls P f vs w fun e w' => ∃ R O v J', Q R O ∧ e = .returned v ∧ R.rep w' (Xof X0 J') J' v ∧ Mem X0 J' (O[·]?) w' ∧ Kept (Fps J) w w' ∧
      (∀ k p b, J' k = some p → b ∈ p.fp → Fps J b ∨ w.heap.size ≤ b) ∧ ∀ k p, J k = some p → ∃ p', J' k = some p' ∧ p.like p'
def Ent (P : Program) (f : FuncId) (args : List AV) (objs : List Ob) (R : AV) (O : List Ob) : Prop := EntQ P f args objs fun R' O' => R' = R ∧ O' = O

mutual
def D.flat : D → Bool
  | .sl _ [] => true
  | .sl _ (_ :: _) => false
  | .agg cs => flatL cs
  | _ => true
def flatL : List D → Bool
  | [] => true
  | x :: r => match x.flat with | true => flatL r | false => false
end
mutual
def AV.flat : AV → Bool
  | .d x => x.flat
  | .c _ => true
  | .tup vs => flatV vs
  | _ => false
def flatV : List AV → Bool
  | [] => true
  | x :: r => match x.flat with | true => flatV r | false => false
end

mutual
/-- The blocks ks are no longer the walk's own: who names them sees their elements, for good. -/
def AV.frz (σ : Nat → Option Ob) (ks : List Nat) : AV → AV
  | .own k => match has k ks with
    | true => match (AV.own k).show σ with | some (x, _) => .d x | none => .bot
    | false => .own k
  | .ptr k o => match has k ks with | true => .bot | false => .ptr k o
  | .eptr k s i o => match has k ks with | true => .bot | false => .eptr k s i o
  | .agg cs => .agg (frzL σ ks cs)
  | .tup vs => .tup (frzL σ ks vs)
  | .fn g caps => .fn g (frzL σ ks caps)
  | v => v
def frzL (σ : Nat → Option Ob) (ks : List Nat) : List AV → List AV
  | [] => []
  | v :: r => v.frz σ ks :: frzL σ ks r
end
def Ob.frz (σ : Nat → Option Ob) (ks : List Nat) : Ob → Ob
  | .var cells => .var (frzL σ ks cells)
  | .arr s u xs => .arr s u xs
  | .bld e l => .bld e l
def frzEnv (σ : Nat → Option Ob) (ks : List Nat) : List (Nat × AV) → List (Nat × AV)
  | [] => []
  | (t, v) :: r => (t, v.frz σ ks) :: frzEnv σ ks r
def frzObj (σ : Nat → Option Ob) (ks : List Nat) : List (Nat × Ob) → List (Nat × Ob)
  | [] => []
  | (k, o) :: r => match has k ks with | true => frzObj σ ks r | false => (k, o.frz σ ks) :: frzObj σ ks r
def St.frz (st : St) (ks : List Nat) : St := { env := frzEnv (look · st.obj) ks st.env, obj := frzObj (look · st.obj) ks st.obj }

/-- Values handed on to a call: what can be shown is shown. -/
def lend (σ : Nat → Option Ob) : List AV → List AV × List Nat
  | [] => ([], [])
  | v :: r => match lend σ r with
    | (l, ks) => match v.show σ with | some (x, k1) => (.d x :: l, k1 ++ ks) | none => (v :: l, ks)

def addNew : List Nat → List Nat → List Nat
  | [], acc => acc
  | k :: r, acc => match has k acc with | true => addNew r acc | false => addNew r (acc ++ [k])
/-- What the blocks lead to. -/
def reachN (σ : Nat → Option Ob) : Nat → List Nat → List Nat → List Nat
  | 0, _, acc => acc
  | _ + 1, [], acc => acc
  | n + 1, k :: todo, acc => match has k acc with
    | true => reachN σ n todo acc
    | false => match σ k with
      | some o => reachN σ n (o.refs ++ todo) (acc ++ [k])
      | none => reachN σ n todo (acc ++ [k])
def idx (k : Nat) : List Nat → Nat → Option Nat
  | [], _ => none
  | j :: r, i => match Nat.beq j k with | true => some i | false => idx k r (i + 1)
def pickObs (σ : Nat → Option Ob) (f : Nat → Option Nat) : List Nat → Option (List Ob)
  | [] => some []
  | k :: r => match σ k with
    | some o => match pickObs σ f r with | some l => some (o.ren f :: l) | none => none
    | none => none
/-- The caller's name of the callee's block i: ks those that were handed in; behind them new ones. -/
def nameOf (ks : List Nat) (d i : Nat) : Option Nat := match ks[i]? with | some k => some k | none => some (10000 * (i - ks.length + 1) + d)
def setAll (st : St) (g : Nat → Option Nat) : Nat → List Ob → St
  | _, [] => st
  | i, o :: r => match g i with
    | some k => setAll (st.set k (o.ren g)) g (i + 1) r
    | none => st
def freshOk (obj : List (Nat × Ob)) (ks : List Nat) (d : Nat) : Nat → Nat → Bool
  | _, 0 => true
  | i, n + 1 => match look (10000 * (i + 1) + d) obj with | none => freshOk obj ks d (i + 1) n | some _ => false

def inside : List Nat → List Nat → Bool
  | [], _ => true
  | k :: r, ks => match has k ks with | true => inside r ks | false => false
mutual
/-- A value through which nothing that was lent is seen. -/
def AV.loose : AV → Bool
  | .d x => x.flat
  | .rd _ => false
  | .agg vs => looseV vs
  | .tup vs => looseV vs
  | .fn _ vs => looseV vs
  | _ => true
def looseV : List AV → Bool
  | [] => true
  | x :: r => match x.loose with | true => looseV r | false => false
end
def flatObs : List Ob → Bool
  | [] => true
  | .var cells :: r => match looseV cells with | true => flatObs r | false => false
  | .arr _ _ xs :: r => match flatL xs with | true => flatObs r | false => false
  | .bld .. :: r => flatObs r
def apart : List Nat → List Nat → Bool
  | [], _ => true
  | k :: r, ks => match has k ks with | true => false | false => apart r ks

section
variable (P : Program) (cx : Cx)
/-- The state behind a call. -/
def after (st : St) (ks : List Nat) (d : Nat) (O : List Ob) (R : AV) : St := (setAll st (nameOf ks d) 0 O).put (some d) (R.ren (nameOf ks d))
def forceN : List Nat → (List Nat → Prop) → Prop
  | [], K => K []
  | k :: r, K => forceN r fun r' => K (k :: r')
theorem forceN_eq : ∀ (l : List Nat) (K : List Nat → Prop), forceN l K = K l
  | [], K => rfl
  | k :: r, K => by simp only [forceN, forceN_eq r]
def evCall (f : FuncId) (vs : List AV) (dst : Option Nat) (st : St) (K : St → Prop) : Prop :=
  match dst with
  | none => False
  | some d =>
    match (match has f cx.mu with | true => (vs, []) | false => lend (look · st.obj) vs) with
    | (args, bs) =>
      forceN (reachN (look · st.obj) 50 (refsL args) []) fun ks =>
        match nodup ks && apart bs ks && bigs bs && inside (refsL args) ks with
        | false => False
        | true => match pickObs (look · st.obj) (idx · ks 0) ks with
          | none => False
          | some objs => ∃ Q, EntQ P f (renL (idx · ks 0) args) objs Q ∧ ∀ R O, Q R O →
            (match Nat.ble ks.length O.length && freshOk st.obj ks d 0 (O.length - ks.length) with
            | false => False
            | true => match bs with
              | [] => K (after st ks d O R)
              | _ => match R.loose && flatObs O with
                | true => K (after st ks d O R)
                | false => K (after (st.frz bs) ks d O R))

def evCmd : Cmd → Option Nat → St → (St → Prop) → Prop
  | .stuck, _, _, _ => False
  | .val v, dst, st, K => K (st.put dst v)
  | .need p c, dst, st, K => p ∧ evCmd c dst st K
  | .get xs i f, dst, st, K => ∃ x, xs[i]? = some x ∧ evCmd (f x) dst st K
  | .str xs, dst, st, K => ∃ l, xs = u8s l ∧ K (st.put dst (.d (.s l)))
  | .newVar cells, dst, st, K => match dst with
    | some d => match look (10000 + d) st.obj with
      | none => K ((st.set (10000 + d) (.var cells)).put (some d) (.ptr (10000 + d) 0))
      | some _ => False
    | none => False
  | .newArr sz deep xs ks, dst, st, K => match dst with
    | some d => match look (10000 + d) st.obj with
      | none => match ks with
        | [] => K ((st.set (10000 + d) (.arr sz deep xs)).put (some d) (.own (10000 + d)))
        | k :: ks => match bigs (k :: ks) with
          | false => False
          | true => K (((st.ren (without ((10000 + d) :: k :: ks))).set (10000 + d) (.arr sz deep xs)).put (some d) (.own (10000 + d)))
      | some _ => False
    | none => False
  | .app k sz deep xs ks, dst, st, K => match bigs (k :: ks) with
    | true => K (((st.ren (without (k :: ks))).set k (.arr sz deep xs)).put dst (.own k))
    | false => False
  | .upd k o v, dst, st, K => K ((st.set k o).put dst v)
  | .call f vs, dst, st, K => evCall P cx f vs dst st K

/-- The operations of a region, in the order of the text. -/
def evOps (all : List Oper) (K : St → Prop) : List Oper → St → Prop
  | [], st => K st
  | o :: rest, st => match o.guard with
    | none => evCmd P cx (opCmd cx.T o st) o.dst st (evOps all K rest)
    | some (j, want) => match all[j]? with
      | some oj => match oj.dst with
        | some t => match look t st.env with
          | some (.d (.b x)) => (match want with
            | true => (match x with
              | true => evCmd P cx (opCmd cx.T o st) o.dst st (evOps all K rest)
              | false => evOps all K rest (st.put o.dst (.tup [])))
            | false => (match x with
              | true => evOps all K rest (st.put o.dst (.tup []))
              | false => evCmd P cx (opCmd cx.T o st) o.dst st (evOps all K rest)))
          | some (.tup []) => evOps all K rest (st.put o.dst (.tup []))
          | _ => False
        | none => False
      | none => False
end

def pickEnv (l : List (Nat × AV)) : List Nat → List (Nat × AV)
  | [] => []
  | t :: ts => match look t l with | some v => (t, v) :: pickEnv l ts | none => pickEnv l ts
def pickObj (l : List (Nat × Ob)) : List Nat → List (Nat × Ob)
  | [] => []
  | t :: ts => match look t l with | some v => (t, v) :: pickObj l ts | none => pickObj l ts
/-- Only these slots, and these blocks. -/
def St.only (st : St) (ts ks : List Nat) : St :=
  { env := renEnv (Pm.within ks) (pickEnv st.env ts), obj := renObj (Pm.within ks) (pickObj st.obj ks) }

inductive Ex where
  | normal
  | exit (id : Nat)
  | ret
end Go.Pm
