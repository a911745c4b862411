/-
A walk of Go's code over values: definitions. A state holds what each slot holds, as data where it can, and the few blocks that the call itself writes.
-/
import Derived.Below
import Derived.Calls
namespace Go.Pm
open Go

/-- Data: what a value reads as, to the bottom. 'sl u xs' (u: always false): a slice whose block nobody writes; 'os sz deep xs': one that owns its block (deep: its elements own blocks in turn); 'junk': one cell of which nothing is known. -/
inductive D where
  | b (x : Bool)
  | i (k : IntKind) (n : Int)
  | s (l : List UInt8)
  | agg (cs : List D)
  | sl (u : Bool) (xs : List D)
  | os (sz : Nat) (deep : Bool) (xs : List D)
  | junk
  deriving Inhabited

/-- What a slot, or a cell of a variable, holds. -/
inductive AV where
  | d (x : D)
  | c (v : Value)
  | snil
  | agg (cs : List AV)
  | tup (vs : List AV)
  | ptr (k off : Nat)
  | eptr (k sz i off : Nat)
  | own (k : Nat)
  | win (k sz lo hi : Nat)
  | rd (cs : List D)
  | fn (g : FuncId) (caps : List AV)
  | bot
  deriving Inhabited

/-- A cell of an open element: data; or a slice whose block has a name of its own. -/
inductive OC where
  | d (x : D)
  | k (key : Nat)
  deriving Inhabited
/-- An open element of an array: its place, whether it is a struct, its cells. -/
structure OE where
  i : Nat
  ag : Bool
  cells : List OC
  deriving Inhabited
/-- A block that the walk knows: a variable's cells; an array of its own, or no block, for a slice without any (deep: its elements own blocks in turn); a written strings.Builder (e: the bytes' type);
an array some of whose elements are open; what is gone. -/
inductive Ob where
  | var (cells : List AV)
  | arr (sz : Nat) (deep : Bool) (xs : List D)
  | bld (t e : TypeId) (l : List UInt8)
  | opn (sz : Nat) (xs : List D) (els : List OE)
  | gone
  deriving Inhabited

inductive FK where
  | bool | int (k : IntKind) | str
inductive TK where
  | bool | int (k : IntKind) | str
  | slice (e : Nat)
  | struct (fs : List (Nat × Nat × Nat))
  | ptr (e : Nat)
  | other
structure TD where
  kind : TK
  size : Nat
  bytes : Nat
  zero : Option (List AV)
  eq : Option (List FK)

/-- A block that is kept; or a slot, a part of a slot's struct, or a variable's cell that may hold a nil slice, which then gets a name (its elements' size; do they own blocks?). -/
inductive KO where
  | k (n : Nat)
  | slot (key sz : Nat) (deep : Bool) (s : Nat)
  | part (key sz : Nat) (deep : Bool) (s c : Nat)
  | cell (key sz : Nat) (deep : Bool) (b c : Nat)
instance (n : Nat) : OfNat KO n := ⟨.k n⟩
/-- What a walk is told: the types; functions whose callers lend blocks to write; nil slices that get names ahead of a region. -/
structure Cx where
  T : List TD
  mu : List Nat
  nm : List (Nat × List KO)

structure St where
  env : List (Nat × AV)
  obj : List (Nat × Ob)

def look {α : Type} (k : Nat) : List (Nat × α) → Option α
  | [] => none
  | (j, v) :: r => match Nat.beq j k with | true => some v | false => look k r

def has (k : Nat) : List Nat → Bool
  | [] => false
  | j :: r => match Nat.beq j k with | true => true | false => has k r

/-- Blocks of the call's own (those handed in have small names). -/
def bigs : List Nat → Bool
  | [] => true
  | j :: r => match Nat.ble 10000 j with | true => bigs r | false => false

def nodup : List Nat → Bool
  | [] => true
  | j :: r => match has j r with | true => false | false => nodup r

mutual
def D.erase : D → D
  | .agg cs => .agg (eraseL cs)
  | .sl _ xs => .sl false (eraseL xs)
  | .os _ _ xs => .sl false (eraseL xs)
  | .junk => .junk
  | .b x => .b x
  | .i k n => .i k n
  | .s l => .s l
def eraseL : List D → List D
  | [] => []
  | x :: r => x.erase :: eraseL r
end

def D.cells : D → List D
  | .agg cs => cs
  | x => [x]
def AV.cells : AV → List AV
  | .agg cs => cs
  | .d (.agg cs) => cs.map .d
  | x => [x]

def AV.parts : AV → Option (List AV)
  | .agg cs => some cs
  | .d (.agg cs) => some (cs.map .d)
  | _ => none

mutual
/-- The blocks that a value names. -/
def AV.refs : AV → List Nat
  | .ptr k _ => [k]
  | .eptr k _ _ _ => [k]
  | .own k => [k]
  | .win k _ _ _ => [k]
  | .agg cs => refsL cs
  | .tup vs => refsL vs
  | .fn _ caps => refsL caps
  | _ => []
def refsL : List AV → List Nat
  | [] => []
  | v :: r => v.refs ++ refsL r
end
def cellKeys : List OC → List Nat
  | [] => []
  | .k key :: r => key :: cellKeys r
  | .d _ :: r => cellKeys r
def elKeys : List OE → List Nat
  | [] => []
  | e :: r => cellKeys e.cells ++ elKeys r
def OC.D : OC → D
  | .d x => x
  | .k _ => .junk
def ocD : List OC → List D
  | [] => []
  | c :: r => c.D :: ocD r
def OE.D (e : OE) : D := match e.ag with | true => .agg (ocD e.cells) | false => match ocD e.cells with | [x] => x | _ => .junk
/-- The elements, those that are open told by their cells. -/
def baseXs (xs : List D) : List OE → List D
  | [] => xs
  | e :: r => (baseXs xs r).set e.i e.D
def Ob.refs : Ob → List Nat
  | .var cells => refsL cells
  | .arr .. => []
  | .bld .. => []
  | .opn _ _ els => elKeys els
  | .gone => []

mutual
/-- The value with its blocks named anew; a name that f does not know is forgotten. -/
def AV.ren (f : Nat → Option Nat) : AV → AV
  | .ptr k o => match f k with | some j => .ptr j o | none => .bot
  | .eptr k s i o => match f k with | some j => .eptr j s i o | none => .bot
  | .own k => match f k with | some j => .own j | none => .bot
  | .win k s lo hi => match f k with | some j => .win j s lo hi | none => .bot
  | .agg cs => .agg (renL f cs)
  | .tup vs => .tup (renL f vs)
  | .fn g caps => .fn g (renL f caps)
  | v => v
def renL (f : Nat → Option Nat) : List AV → List AV
  | [] => []
  | v :: r => v.ren f :: renL f r
end
def renCells (f : Nat → Option Nat) : List OC → List OC
  | [] => []
  | .k key :: r => match f key with | some j => .k j :: renCells f r | none => .d .junk :: renCells f r
  | .d x :: r => .d x :: renCells f r
def renEls (f : Nat → Option Nat) : List OE → List OE
  | [] => []
  | e :: r => ⟨e.i, e.ag, renCells f e.cells⟩ :: renEls f r
def Ob.ren (f : Nat → Option Nat) : Ob → Ob
  | .var cells => .var (renL f cells)
  | .arr s u xs => .arr s u xs
  | .bld t e l => .bld t e l
  | .opn s xs els => .opn s xs (renEls f els)
  | .gone => .gone

def renEnv (f : Nat → Option Nat) : List (Nat × AV) → List (Nat × AV)
  | [] => []
  | (t, v) :: r => (t, v.ren f) :: renEnv f r
/-- The blocks: those that f does not know go. -/
def renObj (f : Nat → Option Nat) : List (Nat × Ob) → List (Nat × Ob)
  | [] => []
  | (k, o) :: r => match f k with | some j => (j, o.ren f) :: renObj f r | none => renObj f r

def without (ks : List Nat) (k : Nat) : Option Nat := match has k ks with | true => none | false => some k
def within (ks : List Nat) (k : Nat) : Option Nat := match has k ks with | true => some k | false => none

def absorbCells (g : Nat → Option (D × List Nat)) : List OC → List OC × List Nat
  | [] => ([], [])
  | .d x :: r => match absorbCells g r with | (l, ks) => (.d x :: l, ks)
  | .k key :: r => match g key with
    | some (y, k1) => match absorbCells g r with | (l, ks) => (.d y :: l, k1 ++ ks)
    | none => match absorbCells g r with | (l, ks) => (.d .junk :: l, ks)
def absorbEls (g : Nat → Option (D × List Nat)) : List OE → List OE × List Nat
  | [] => ([], [])
  | e :: r => match absorbCells g e.cells with | (cs, k1) => match absorbEls g r with | (l, ks) => (⟨e.i, e.ag, cs⟩ :: l, k1 ++ ks)
/-- A block as data: what of it is open is taken in. -/
def absorbK (σ : Nat → Option Ob) : Nat → Nat → Option (D × List Nat)
  | 0, _ => none
  | n + 1, k => match σ k with
    | some (.arr sz d xs) => some (.os sz d xs, [k])
    | some (.opn sz xs els) => match absorbEls (absorbK σ n) els with | (els', ks) => some (.os sz true (baseXs xs els'), k :: ks)
    | _ => none
mutual
/-- The value as data; the blocks that it then owns. -/
def AV.absorb (σ : Nat → Option Ob) : AV → Option (D × List Nat)
  | .d x => some (x, [])
  | .snil => some (.sl false [], [])
  | .own k => absorbK σ 10 k
  | .agg cs => match absorbL σ cs with | some (l, ks) => some (.agg l, ks) | none => none
  | _ => none
def absorbL (σ : Nat → Option Ob) : List AV → Option (List D × List Nat)
  | [] => some ([], [])
  | v :: r => match v.absorb σ with
    | some (x, ks) => match absorbL σ r with | some (l, ks') => some (x :: l, ks ++ ks') | none => none
    | none => none
end

mutual
/-- The value as data that owns nothing; the blocks whose elements it shows. -/
def AV.show (σ : Nat → Option Ob) : AV → Option (D × List Nat)
  | .d x => some (x, [])
  | .snil => some (.sl false [], [])
  | .own k => match σ k with
    | some (.arr _ false xs) => some (.sl false xs, [k])
    | some (.arr _ true xs) => some (.sl false (eraseL xs), [k])
    | _ => none
  | .win k s lo hi => match σ k with
    | some (.arr sz d xs) => match Nat.beq s sz with
      | true => match d with
        | false => some (.sl false ((xs.take hi).drop lo), [k])
        | true => some (.sl false (eraseL ((xs.take hi).drop lo)), [k])
      | false => none
    | _ => none
  | .agg cs => match showL σ cs with | some (l, ks) => some (.agg l, ks) | none => none
  | _ => none
def showL (σ : Nat → Option Ob) : List AV → Option (List D × List Nat)
  | [] => some ([], [])
  | v :: r => match v.show σ with
    | some (x, ks) => match showL σ r with | some (l, ks') => some (x :: l, ks ++ ks') | none => none
    | none => none
end

def allD : List AV → Option (List D)
  | [] => some []
  | .d x :: r => match allD r with | some l => some (x :: l) | none => none
  | _ => none
def mkAgg (cs : List AV) : AV := match allD cs with | some l => .d (.agg l) | none => .agg cs

def setCells {α : Type} : Nat → List α → List α → Option (List α)
  | _, [], l => some l
  | 0, v :: vs, _ :: l => match setCells 0 vs l with | some r => some (v :: r) | none => none
  | n + 1, v :: vs, c :: l => match setCells n (v :: vs) l with | some r => some (c :: r) | none => none
  | _, _ :: _, [] => none

def take {α : Type} : Nat → List α → Option (List α)
  | 0, _ => some []
  | n + 1, x :: l => match take n l with | some r => some (x :: r) | none => none
  | _ + 1, [] => none
def drop {α : Type} : Nat → List α → Option (List α)
  | 0, l => some l
  | n + 1, _ :: l => drop n l
  | _ + 1, [] => none

/-- One cell alone? -/
def AV.one : AV → Bool
  | .d (.agg _) => false
  | .agg _ => false
  | .tup _ => false
  | _ => true
def allOne : List AV → Bool
  | [] => true
  | v :: r => match v.one with | true => allOne r | false => false
def ofConst : Value → Option AV
  | .int k n => some (.d (.i k n))
  | .bool b => some (.d (.b b))
  | .string s => some (.d (.s s.data.toList))
  | .slice none 0 0 => some .snil
  | .pointer none => some (.c (.pointer none))
  | .nilFunc => some (.c .nilFunc)
  | .nilIface => some (.c .nilIface)
  | .map none => some (.c (.map none))
  | _ => none

def St.ev (st : St) : Operand → Option AV
  | .tmp t => look t st.env
  | .const v => ofConst v
  | .func f => some (.fn f [])
  | .global _ => none
def St.evs (st : St) : List Operand → Option (List AV)
  | [] => some []
  | x :: r => match st.ev x with
    | some v => match st.evs r with | some l => some (v :: l) | none => none
    | none => none
def St.put (st : St) (dst : Option Nat) (v : AV) : St :=
  match dst with | some d => { st with env := (d, v) :: st.env } | none => st
def St.ren (st : St) (f : Nat → Option Nat) : St := { env := renEnv f st.env, obj := renObj f st.obj }
def St.set (st : St) (k : Nat) (o : Ob) : St := { st with obj := (k, o) :: st.obj }

def bitD (k : IntKind) (f : BitVec k.bits → BitVec k.bits → BitVec k.bits) (x y : Int) : D :=
  .i k (k.wrap (f (BitVec.ofInt k.bits x) (BitVec.ofInt k.bits y)).toNat)

/-- Go's == on the cells of two structs, of these kinds. -/
def eqK : List FK → List D → List D → Option Bool
  | [], [], [] => some true
  | k :: ks, x :: xs, y :: ys =>
    match (match k with
      | .bool => match x with | .b p => (match y with | .b q => some (p == q) | _ => none) | _ => none
      | .int k => match x with
        | .i k1 n => (match y with | .i k2 m => (match decide (k1 = k) && decide (k2 = k) with | true => some (decide (n = m)) | false => none) | _ => none)
        | _ => none
      | .str => match x with | .s p => (match y with | .s q => some (decide (p = q)) | _ => none) | _ => none) with
    | some p => match eqK ks xs ys with | some q => some (p && q) | none => none
    | none => none
  | _, _, _ => none

def u8s (l : List UInt8) : List D := l.map fun c => .i .u8 c.toNat

/-- What an operation does. -/
inductive Cmd where
  | stuck
  | val (v : AV)
  | need (p : Prop) (c : Cmd)
  | get (xs : List D) (i : Nat) (f : D → Cmd)
  | str (xs : List D)
  | newVar (ob : Ob)
  | newArr (sz : Nat) (deep : Bool) (xs : List D) (ks : List Nat)
  | app (k sz : Nat) (deep : Bool) (xs : List D) (ks : List Nat)
  | upd (k : Nat) (o : Ob) (v : AV)
  | call (f : FuncId) (vs : List AV)
  | alt (a b : Cmd)
  | newNil (sz : Nat) (deep : Bool)
  | opens (k : Nat) (ob : Ob) (news : List (Nat × Ob)) (c : Cmd)
  | put (k : Nat) (ob : Ob) (ks : List Nat)
  | bit (p : Prop)

def binI (op : BinOp) (k : IntKind) (x y : Int) : Cmd :=
  match op with
  | .add => .val (.d (.i k (k.wrap (x + y))))
  | .sub => .val (.d (.i k (k.wrap (x - y))))
  | .mul => .val (.d (.i k (k.wrap (x * y))))
  | .quo => .need (y ≠ 0) (.val (.d (.i k (k.wrap (x.tdiv y)))))
  | .rem => .need (y ≠ 0) (.val (.d (.i k (x.tmod y))))
  | .and => .val (.d (bitD k (· &&& ·) x y))
  | .or => .val (.d (bitD k (· ||| ·) x y))
  | .xor => .val (.d (bitD k (· ^^^ ·) x y))
  | .andNot => .val (.d (bitD k (fun a b => a &&& ~~~b) x y))
  | .eql => .val (.d (.b (decide (x = y))))
  | .neq => .val (.d (.b (!decide (x = y))))
  | .lss => .val (.d (.b (decide (x < y))))
  | .leq => .val (.d (.b (decide (x ≤ y))))
  | .gtr => .val (.d (.b (decide (x > y))))
  | .geq => .val (.d (.b (decide (x ≥ y))))
  | _ => .stuck
def binS (op : BinOp) (x y : List UInt8) : Cmd :=
  match op with
  | .add => .need (((x.length + y.length : Nat) : Int) ≤ 9223372036854775807) (.val (.d (.s (x ++ y))))
  | .eql => .val (.d (.b (decide (x = y))))
  | .neq => .val (.d (.b (!decide (x = y))))
  | .lss => .val (.d (.b (Op.bytesLess x y)))
  | .leq => .val (.d (.b (Op.bytesLess x y || decide (x = y))))
  | .gtr => .val (.d (.b (!(Op.bytesLess x y || decide (x = y)))))
  | .geq => .val (.d (.b (!Op.bytesLess x y)))
  | _ => .stuck
def binC (i : TD) (op : BinOp) (x y : D) : Cmd :=
  match x with
  | .i k a => match y with
    | .i k' b => match op with
      | .shl => .need (0 ≤ b) (.val (.d (.i k (k.wrap (a * 2 ^ (min b.toNat k.bits))))))
      | .shr => .need (0 ≤ b) (.val (.d (.i k (a.fdiv (2 ^ (min b.toNat k.bits))))))
      | op => .need (k = k') (binI op k a b)
    | _ => .stuck
  | .s a => match y with | .s b => binS op a b | _ => .stuck
  | .b a => match y with
    | .b b => (match i.kind with
      | .bool => (match op with | .eql => .val (.d (.b (a == b))) | .neq => .val (.d (.b (!(a == b)))) | _ => .stuck)
      | _ => .stuck)
    | _ => .stuck
  | .agg xs => match y with
    | .agg ys => match i.kind with
      | .struct _ => match i.eq with
        | some ks => match eqK ks xs ys with
          | some r => (match op with | .eql => .val (.d (.b r)) | .neq => .val (.d (.b (!r))) | _ => .stuck)
          | none => .stuck
        | none => .stuck
      | _ => .stuck
    | _ => .stuck
  | _ => .stuck

def headC : List AV → Cmd
  | v :: _ => .val v
  | [] => .stuck
def headD : List D → Cmd
  | v :: _ => .val (.d v)
  | [] => .stuck
/-- The cells of a part of a variable: the value of type t that lies there. -/
def loadAs (i : TD) (cells : List AV) : Cmd :=
  match i.kind with
  | .struct _ => match take i.size cells with | some l => .val (mkAgg l) | none => .stuck
  | .other => .stuck
  | _ => headC cells
def loadD (i : TD) (cells : List D) : Cmd :=
  match i.kind with
  | .struct _ => match take i.size cells with | some l => .val (.d (.agg l)) | none => .stuck
  | .other => .stuck
  | _ => headD cells

/-- The field's offset, type and size. -/
def TD.field (i : TD) (f : Nat) : Option (Nat × Nat × Nat) := match i.kind with | .struct fs => fs[f]? | _ => none

def placeOf (fs : List (Nat × Nat × Nat)) (j : Nat) : Option (Nat × Nat) := match fs[j]? with | some (off, _, sz) => some (off, sz) | none => none
def fillParts (place : Nat → Option (Nat × Nat)) (cells : List AV) : List (Nat × AV) → Option (List AV)
  | [] => some cells
  | (j, v) :: r => match place j with
    | some (off, size) => match Nat.beq v.cells.length size && Nat.blt 0 size with
      | true => match setCells off v.cells cells with | some cs => fillParts place cs r | none => none
      | false => none
    | none => none

/-- The elements of a literal, each given, in order. -/
def litParts (σ : Nat → Option Ob) (sz : Nat) (j : Nat) : List (Nat × AV) → Option (List D × List Nat)
  | [] => some ([], [])
  | (i, v) :: r => match Nat.beq i j with
    | true => match v.absorb σ with
      | some (x, ks) => match Nat.beq x.cells.length sz && allOne v.cells with
        | true => match litParts σ sz (j + 1) r with | some (l, ks') => some (x :: l, ks ++ ks') | none => none
        | false => none
      | none => none
    | false => none

def notNil : List Nat → Bool
  | [] => false
  | _ => true

def pairs (st : St) : List (Nat × Operand) → Option (List (Nat × AV))
  | [] => some []
  | (j, x) :: r => match st.ev x with
    | some v => match pairs st r with | some l => some ((j, v) :: l) | none => none
    | none => none

/-- Is the operand the very literal that lies in that block? (Then nobody else names it.) -/
def isLit (x : Operand) (k : Nat) : Bool := match x with | .tmp t => Nat.beq k (10000 + t) | _ => false

def room (n bytes : Nat) : Prop := n ≤ maxLen ∧ n * bytes ≤ 140737488355328

def appendC (i : TD) (σ : Nat → Option Ob) (a : AV) (xop : Operand) (x : AV) : Cmd :=
  match a with
  | .own k => match σ k with
    | some (.arr sz d xs) => match x with
      | .own k2 => match σ k2 with
        | some (.arr sz2 d2 ys) => match isLit xop k2 with
          | true => .need (k ≠ k2 ∧ sz = sz2 ∧ sz = i.size ∧ room (xs.length + ys.length) i.bytes) (.app k sz (d || d2) (xs ++ ys) [k2])
          | false => match d2 with
            | false => .need (k ≠ k2 ∧ sz = sz2 ∧ sz = i.size ∧ room (xs.length + ys.length) i.bytes) (.app k sz d (xs ++ ys) [])
            | true => .stuck
        | _ => .stuck
      | .d (.sl false ys) => .need ((∀ y ∈ ys, y.cells.length = sz) ∧ sz = i.size ∧ room (xs.length + ys.length) i.bytes) (.app k sz d (xs ++ ys) [])
      | .snil => .need (sz = i.size ∧ room xs.length i.bytes) (.app k sz d xs [])
      | _ => .stuck
    | _ => .stuck
  | .snil => match x with
    | .own k2 => match σ k2 with
      | some (.arr sz2 d2 ys) => match isLit xop k2 with
        | true => .need (sz2 = i.size ∧ ys ≠ [] ∧ room ys.length i.bytes) (.newArr sz2 d2 ys [k2])
        | false => match d2 with
          | false => .need (sz2 = i.size ∧ ys ≠ [] ∧ room ys.length i.bytes) (.newArr sz2 false ys [])
          | true => .stuck
      | _ => .stuck
    | _ => .stuck
  | _ => .stuck

def appendStr (i : TD) (σ : Nat → Option Ob) (a : AV) (l : List UInt8) : Cmd :=
  match a with
  | .own k => match σ k with
    | some (.arr sz d xs) => .need (sz = i.size ∧ sz = 1 ∧ room (xs.length + l.length) i.bytes) (.app k sz d (xs ++ u8s l) [])
    | _ => .stuck
  | _ => .stuck
/-- The first elements of ys over those of xs from lo on, up to hi. -/
def copied (xs ys : List D) (lo hi : Nat) : List D := xs.take lo ++ ys.take (hi - lo) ++ xs.drop (lo + min (hi - lo) ys.length)
def copyC (σ : Nat → Option Ob) (k s lo hi : Nat) (x : AV) (size : Nat) (k2 : TK) : Cmd :=
  match σ k with
  | some (.arr sz false xs) => match Nat.beq s sz && Nat.beq s size with
    | true => match x with
      | .d (.sl false ys) => match k2 with
        | .slice _ => .need (hi ≤ xs.length ∧ lo ≤ hi ∧ ∀ y ∈ ys, y.cells.length = sz) (.upd k (.arr sz false (copied xs ys lo hi)) (.d (.i .i64 (min (hi - lo) ys.length : Nat))))
        | _ => .stuck
      | .d (.s l) => match k2 with
        | .str => match Nat.beq sz 1 with
          | true => .need (hi ≤ xs.length ∧ lo ≤ hi) (.upd k (.arr sz false (copied xs (u8s l) lo hi)) (.d (.i .i64 (min (hi - lo) (u8s l).length : Nat))))
          | false => .stuck
        | _ => .stuck
      | _ => .stuck
    | false => .stuck
  | _ => .stuck
def builtinC (T : List TD) (st : St) (b : Builtin) (ts : List TypeId) (args : List Operand) : Cmd :=
  match st.evs args with
  | none => .stuck
  | some vs => match b with
    | .len => match ts with
      | [t] => match T[t]? with
        | some i => match i.kind with
          | .slice _ => match vs with
            | [.d (.sl _ xs)] => .val (.d (.i .i64 xs.length))
            | [.snil] => .val (.d (.i .i64 ((0 : Nat) : Int)))
            | [.own k] => match look k st.obj with | some (.arr _ _ xs) => .val (.d (.i .i64 xs.length)) | some (.opn _ xs _) => .val (.d (.i .i64 xs.length)) | _ => .stuck
            | [.win _ _ lo hi] => .val (.d (.i .i64 (hi - lo : Nat)))
            | _ => .stuck
          | .str => match vs with
            | [.d (.s l)] => .val (.d (.i .i64 l.length))
            | _ => .stuck
          | _ => .stuck
        | none => .stuck
      | _ => .stuck
    | .append => match ts with
      | [t, t'] => match T[t]? with
        | some i => match i.kind with
          | .slice e => match T[e]? with
            | some ie => match vs, args with
              | [a, .d (.s l)], [_, _] => match ie.kind with
                | .int .u8 => match (match T[t']? with | some i2 => i2.kind | none => .other) with
                  | .str => match ie.zero with
                    | some z => match Nat.beq z.length ie.size with
                      | true => appendStr ie (look · st.obj) a l
                      | false => .stuck
                    | none => .stuck
                  | _ => .stuck
                | _ => .stuck
              | [a, x], [_, xop] => match Nat.beq t t' with
                | true => match ie.zero with
                  | some z => match Nat.beq z.length ie.size with
                    | true => appendC ie (look · st.obj) a xop x
                    | false => .stuck
                  | none => .stuck
                | false => .stuck
              | _, _ => .stuck
            | none => .stuck
          | _ => .stuck
        | none => .stuck
      | _ => .stuck
    | .min => match vs with
      | [.d (.i k x), .d (.i k' y)] => .need (k = k') (.val (.d (.i k (if y < x then y else x))))
      | _ => .stuck
    | .max => match vs with
      | [.d (.i k x), .d (.i k' y)] => .need (k = k') (.val (.d (.i k (if y > x then y else x))))
      | _ => .stuck
    | .copy => match ts with
      | [t, t2] => match T[t]?, T[t2]? with
        | some i, some i2 => match i.kind with
          | .slice e => match T[e]? with
            | some ie => match vs with
              | [.win k s lo hi, x] => copyC (look · st.obj) k s lo hi x ie.size i2.kind
              | [.own k, x] => match look k st.obj with | some (.arr s false xs) => copyC (look · st.obj) k s 0 xs.length x ie.size i2.kind | _ => .stuck
              | _ => .stuck
            | none => .stuck
          | _ => .stuck
        | _, _ => .stuck
      | _ => .stuck
    | _ => .stuck

def convC (T : List TD) (st : St) (src dst : TypeId) (v : AV) : Cmd :=
  match T[src]? with
  | none => .stuck
  | some is => match T[dst]? with
    | none => .stuck
    | some id => match id.kind with
      | .int k => match is.kind with
        | .int _ => match v with | .d (.i _ n) => .val (.d (.i k (k.wrap n))) | _ => .stuck
        | _ => .stuck
      | .str => match is.kind with
        | .str => match v with | .d (.s l) => .val (.d (.s l)) | _ => .stuck
        | .slice e => match T[e]? with
          | some ie => match ie.kind with
            | .int .u8 => match v with
              | .d (.sl _ xs) => .str xs
              | .snil => .val (.d (.s []))
              | .own k => match look k st.obj with | some (.arr 1 _ xs) => .str xs | _ => .stuck
              | _ => .stuck
            | _ => .stuck
          | none => .stuck
        | _ => .stuck
      | _ => .stuck

def bounds (n : Nat) (f : Nat → Nat → AV) (lo hi : Option AV) : Cmd :=
  match lo, hi with
  | none, none => .val (f 0 n)
  | some (.d (.i _ l)), none => .need (0 ≤ l ∧ l ≤ n) (.val (f l.toNat n))
  | none, some (.d (.i _ h)) => .need (0 ≤ h ∧ h ≤ n) (.val (f 0 h.toNat))
  | some (.d (.i _ l)), some (.d (.i _ h)) => .need (0 ≤ l ∧ l ≤ h ∧ h ≤ n) (.val (f l.toNat h.toNat))
  | _, _ => .stuck
def sliceC (T : List TD) (t : TypeId) (v : AV) (lo hi : Option AV) : Cmd :=
  match T[t]? with
  | none => .stuck
  | some i => match v with
    | .d (.s s) => match i.kind with
      | .str => bounds s.length (fun l h => .d (.s ((s.take h).drop l))) lo hi
      | _ => .stuck
    | .d (.sl false xs) => match i.kind with
      | .slice e => match T[e]? with
        | some ie => .need ((∀ x ∈ xs, x.cells.length = ie.size) ∧ 0 < ie.size) (bounds xs.length (fun l h => .d (.sl false ((xs.take h).drop l))) lo hi)
        | none => .stuck
      | _ => .stuck
    | .win k s lo0 hi0 => match i.kind with
      | .slice e => match T[e]? with
        | some ie => match Nat.beq s ie.size with
          | true => .need (0 < ie.size) (bounds (hi0 - lo0) (fun l h => .win k s (lo0 + l) (lo0 + h)) lo hi)
          | false => .stuck
        | none => .stuck
      | _ => .stuck
    | _ => .stuck
/-- An array's own slice, sliced. -/
def sliceOwn (T : List TD) (σ : Nat → Option Ob) (t : TypeId) (k : Nat) (lo hi : Option AV) : Cmd :=
  match T[t]? with
  | none => .stuck
  | some i => match i.kind with
    | .slice e => match T[e]? with
      | some ie => match σ k with
        | some (.arr sz _ xs) => match Nat.beq sz ie.size with
          | true => .need (0 < ie.size) (bounds xs.length (fun l h => .win k sz l h) lo hi)
          | false => .stuck
        | _ => .stuck
      | none => .stuck
    | _ => .stuck
/-- s[:0:0] -/
def sliceNil (T : List TD) (t : TypeId) : Cmd :=
  match T[t]? with
  | none => .stuck
  | some i => match i.kind with
    | .slice e => match T[e]? with
      | some ie => match Nat.blt 0 ie.size with | true => .newNil ie.size false | false => .stuck
      | none => .stuck
    | _ => .stuck
def isZero : Option AV → Bool
  | some (.d (.i _ (Int.ofNat 0))) => true
  | _ => false
def isSlice : AV → Bool
  | .d (.sl ..) => true
  | .snil => true
  | .win .. => true
  | _ => false

/-! ### Arrays whose elements own blocks -/
def D.isAgg : D → Bool
  | .agg _ => true
  | _ => false
def OC.av : OC → AV
  | .d x => .d x
  | .k key => .own key
def avsOf : List OC → List AV
  | [] => []
  | c :: r => c.av :: avsOf r
def ocsOf : List D → List OC
  | [] => []
  | x :: r => .d x :: ocsOf r
def noOs : List OC → Bool
  | [] => true
  | .d (.os ..) :: _ => false
  | _ :: r => noOs r
/-- Opens cells: slices that own their blocks get names. -/
def openCells (d : Nat) : Nat → List OC → List OC × List (Nat × Ob)
  | _, [] => ([], [])
  | n, .d (.os sz dp ys) :: r => match openCells d (n + 1) r with | (l, news) => (.k (10000 * (n + 1) + d) :: l, (10000 * (n + 1) + d, .arr sz dp ys) :: news)
  | n, c :: r => match openCells d n r with | (l, news) => (c :: l, news)
def freshAll (obj : List (Nat × Ob)) : List (Nat × Ob) → Bool
  | [] => true
  | (k, _) :: r => match look k obj with | none => freshAll obj r | some _ => false
/-- Element j: open already, or opened. -/
def pickEl (xs : List D) (j : Nat) (f : OE → List OE → Cmd) : List OE → List OE → Cmd
  | [], passed => .get xs j fun x => f ⟨j, x.isAgg, ocsOf x.cells⟩ passed
  | e :: r, passed => .alt (.need (j = e.i) (f e (passed ++ r))) (.need (j ≠ e.i) (pickEl xs j f r (passed ++ [e])))
def openEls : Ob → Option (Nat × List D × List OE)
  | .arr sz true xs => some (sz, xs, [])
  | .opn sz xs els => some (sz, xs, els)
  | _ => none
def openAny : Ob → Option (Nat × List D × List OE)
  | .arr sz _ xs => some (sz, xs, [])
  | .opn sz xs els => some (sz, xs, els)
  | _ => none
def loadDeep (d : Option Nat) (i : TD) (k sz off : Nat) (xs : List D) (e : OE) (others : List OE) : Cmd :=
  match drop off e.cells with
  | none => .stuck
  | some tl => match take i.size tl with
    | none => .stuck
    | some mid => match noOs mid with
      | true => loadAs i (avsOf mid)
      | false => match d with
        | none => .stuck
        | some d => match openCells d 0 mid with
          | (mid', news) => match setCells off mid' e.cells with
            | some cs => .opens k (.opn sz xs (⟨e.i, e.ag, cs⟩ :: others)) news (loadAs i (avsOf mid'))
            | none => .stuck
/-- All cells data again: a plain array. -/
def mkOpn (sz : Nat) (xs : List D) (els : List OE) : Ob := match elKeys els with | [] => .arr sz true (baseXs xs els) | _ => .opn sz xs els
def allOneD : List D → Bool
  | [] => true
  | .agg _ :: _ => false
  | _ :: r => allOneD r
def storeDeep (σ : Nat → Option Ob) (i : TD) (k sz off : Nat) (xs : List D) (x : AV) (e : OE) (others : List OE) : Cmd :=
  match x.absorb σ with
  | none => .stuck
  | some (y, ks) => match Nat.beq y.cells.length i.size && Nat.blt 0 i.size && allOneD y.cells && !(has k ks) && nodup ks with
    | false => .stuck
    | true => match i.kind with
      | .other => .stuck
      | _ => match setCells off (ocsOf y.cells) e.cells with
        | some cs => .put k (mkOpn sz xs (renEls (without ks) (⟨e.i, e.ag, cs⟩ :: others))) ks
        | none => .stuck
/-- The array k, whole again. -/
def St.shut (st : St) (k : Nat) : St := match look k st.obj with
  | some (.opn sz xs els) => match absorbEls (absorbK (look · st.obj) 10) els with
    | (els', ks) => match !(has k ks) && nodup ks && bigs ks with
      | true => (st.ren (without ks)).set k (.arr sz true (baseXs xs els'))
      | false => st
  | _ => st
def anyOpn : List (Nat × Ob) → Bool
  | [] => false
  | (_, .opn ..) :: _ => true
  | _ :: r => anyOpn r
def St.shuts (st : St) : List Nat → St
  | [] => st
  | k :: r => (st.shut k).shuts r
def sliceV (T : List TD) (st : St) (t : TypeId) (v : AV) (lo hi : Option AV) : Cmd :=
  match v with
  | .own k => sliceOwn T (look · st.obj) t k lo hi
  | v => sliceC T t v lo hi

/-- A pointer to a value like it, and a slice: strings.Builder (the type of its slice's elements). -/
def bldOf (T : List TD) (t : TypeId) (i : TD) : Option TypeId :=
  match i.kind with
  | .struct [(_, tp, _), (_, ts, _)] => match T[tp]? with
    | some ip => match ip.kind with
      | .ptr e1 => match Nat.beq e1 t with
        | true => match T[ts]? with
          | some is => match is.kind with | .slice e => some e | _ => none
          | none => none
        | false => none
      | _ => none
    | none => none
  | _ => none
def opCmd (T : List TD) (o : Oper) (st : St) : Cmd :=
  match o.op with
  | .move x => match st.ev x with | some v => .val v | none => .stuck
  | .assign x => match st.ev x with | some v => .val v | none => .stuck
  | .pick c a b => match st.ev c with
    | some (.d (.b t)) => (match t with
      | true => match st.ev a with | some v => .val v | none => .stuck
      | false => match st.ev b with | some v => .val v | none => .stuck)
    | _ => .stuck
  | .alloc t => match T[t]? with
    | some i => match i.zero with
      | some z => (match bldOf T t i with
        | some e => (match z with | [.c (.pointer none), .snil] => .newVar (.bld t e []) | _ => .stuck)
        | none => .newVar (.var z))
      | none => .stuck
    | none => .stuck
  | .box _ x => match st.ev x with | some v => .newVar (.var v.cells) | none => .stuck
  | .build t parts => match T[t]? with
    | some i => match i.kind with
      | .struct fs => match i.zero with
        | some z => match pairs st parts.toList with
          | some ps => match fillParts (placeOf fs) z ps with
            | some cs => .val (mkAgg cs)
            | none => .stuck
          | none => .stuck
        | none => .stuck
      | _ => .stuck
    | none => .stuck
  | .buildSlice t n parts => match T[t]? with
    | some i => match i.kind with
      | .slice e => match T[e]? with
        | some ie => match Nat.beq n parts.size with
          | true => match pairs st parts.toList with
            | some ps => match litParts (look · st.obj) ie.size 0 ps with
              | some (xs, ks) => match nodup ks with
                | true => match Nat.ble (n * ie.size) 16777216 && Nat.blt 0 ie.size with
                  | true => match ie.zero with
                    | some _ => .newArr ie.size (notNil ks) xs ks
                    | none => .stuck
                  | false => .stuck
                | false => .stuck
              | none => .stuck
            | none => .stuck
          | false => .stuck
        | none => .stuck
      | _ => .stuck
    | none => .stuck
  | .load t a => match T[t]? with
    | some i => match st.ev a with
      | some (.ptr k off) => match look k st.obj with
        | some (.var cells) => match drop off cells with | some l => loadAs i l | none => .stuck
        | _ => .stuck
      | some (.rd cs) => loadD i cs
      | some (.eptr k s j off) => match look k st.obj with
        | some (.arr sz false xs) => match Nat.beq s sz with
          | true => .get xs j fun x => match drop off x.cells with | some l => loadD i l | none => .stuck
          | false => .stuck
        | some ob => match openEls ob with
          | some (sz, xs, els) => match Nat.beq s sz with
            | true => pickEl xs j (loadDeep o.dst i k sz off xs) els []
            | false => .stuck
          | none => .stuck
        | none => .stuck
      | _ => .stuck
    | none => .stuck
  | .store t a x => match T[t]? with
    | some i => match st.ev a with
      | some (.ptr k off) => match st.ev x with
        | some v => match look k st.obj with
          | some (.var cells) => match Nat.beq v.cells.length i.size && Nat.blt 0 i.size with
            | true => match allOne v.cells with
              | true => match setCells off v.cells cells with | some cs => .upd k (.var cs) (.tup []) | none => .stuck
              | false => .stuck
            | false => .stuck
          | _ => .stuck
        | none => .stuck
      | some (.eptr k s j off) => match st.ev x with
        | some (.d y) => match look k st.obj with
          | some (.arr sz false xs) => match Nat.beq sz i.size with
            | true => match off with
              | 0 => match Nat.beq sz i.size && Nat.beq s sz with
                | true => match allOne (y.cells.map .d) with
                  | true => .need (j < xs.length ∧ y.cells.length = i.size) (.upd k (.arr sz false (xs.set j y)) (.tup []))
                  | false => .stuck
                | false => .stuck
              | _ => .stuck
            | false => match Nat.beq s sz && Nat.blt 0 i.size with
              | true => match allOne (y.cells.map .d) with
                | true => match Nat.beq y.cells.length i.size with
                  | true => .get xs j fun e => match e with
                    | .agg cs => match setCells off y.cells cs with
                      | some cs' => .upd k (.arr sz false (xs.set j (.agg cs'))) (.tup [])
                      | none => .stuck
                    | _ => .stuck
                  | false => .stuck
                | false => .stuck
              | false => .stuck
          | some ob => match openEls ob with
            | some (sz, xs, els) => match Nat.beq s sz with
              | true => pickEl xs j (storeDeep (look · st.obj) i k sz off xs (.d y)) els []
              | false => .stuck
            | none => .stuck
          | none => .stuck
        | some v => match look k st.obj with
          | some ob => match openAny ob with
            | some (sz, xs, els) => match Nat.beq s sz with
              | true => pickEl xs j (storeDeep (look · st.obj) i k sz off xs v) els []
              | false => .stuck
            | none => .stuck
          | none => .stuck
        | none => .stuck
      | _ => .stuck
    | none => .stuck
  | .nilCheck x => match st.ev x with
    | some (.ptr k o) => .val (.ptr k o)
    | some (.eptr k s j o) => .val (.eptr k s j o)
    | some (.rd cs) => .val (.rd cs)
    | some (.fn g caps) => .val (.fn g caps)
    | _ => .stuck
  | .binOp op t x y _ => match st.ev x with
    | some (.d a) => match st.ev y with
      | some (.d b) => match T[t]? with
        | some i => binC i op a b
        | none => .stuck
      | some .snil => match a with
        | .sl _ xs => match op with
          | .eql => match T[t]? with
            | some i => match i.kind with
              | .slice _ => .bit (xs = [])
              | _ => .stuck
            | none => .stuck
          | _ => .stuck
        | _ => .stuck
      | _ => .stuck
    | _ => .stuck
  | .unOp op _ x => match op with
    | .not => match st.ev x with | some (.d (.b t)) => .val (.d (.b (!t))) | _ => .stuck
    | .neg => match st.ev x with | some (.d (.i k n)) => .val (.d (.i k (k.wrap (0 - n)))) | _ => .stuck
    | .xor => match st.ev x with | some (.d (.i k n)) => .val (.d (bitD k (· ^^^ ·) (if k.signed then -1 else k.max) n)) | _ => .stuck
    | _ => .stuck
  | .convert src dst x => match st.ev x with | some v => convC T st src dst v | none => .stuck
  | .makeFunc fn first caps => match fn with
    | .func g => match first.toList with
      | [] => match st.evs caps.toList with | some vs => .val (.fn g vs) | none => .stuck
      | _ => .stuck
    | _ => .stuck
  | .makeSlice t l c => match T[t]? with
    | some i => match i.kind with
      | .slice e => match T[e]? with
        | some ie => match st.ev l with
          | some (.d (.i _ n)) => match st.ev c with
            | some (.d (.i _ m)) => match ie.zero with
              | some z0 => match showL (fun _ => none) z0 with
                | some (z, _) => match Nat.beq z.length ie.size && Nat.blt 0 ie.size with
                  | true => .need (n = m ∧ 0 ≤ n ∧ n * ie.bytes ≤ 281474976710656 ∧ n ≤ maxLen) (match ie.kind with
                    | .struct _ => .newArr ie.size false (List.replicate n.toNat (.agg z)) []
                    | .other => .stuck
                    | _ => match z with
                      | [z1] => .newArr ie.size false (List.replicate n.toNat z1) []
                      | _ => .stuck)
                  | false => .stuck
                | none => .stuck
              | none => .stuck
            | _ => .stuck
          | _ => .stuck
        | none => .stuck
      | _ => .stuck
    | none => .stuck
  | .slice t x lo hi mx => match mx with
    | none => match st.ev x with
      | some v => match lo with
        | none => match hi with
          | none => sliceV T st t v none none
          | some h => match st.ev h with | some hv => sliceV T st t v none (some hv) | none => .stuck
        | some l => match st.ev l with
          | some lv => match hi with
            | none => sliceV T st t v (some lv) none
            | some h => match st.ev h with | some hv => sliceV T st t v (some lv) (some hv) | none => .stuck
          | none => .stuck
      | none => .stuck
    | some m => match st.ev x with
      | some v => match lo with
        | none => match hi with
          | some h => match isSlice v && isZero (st.ev h) && isZero (st.ev m) with | true => sliceNil T t | false => .stuck
          | none => .stuck
        | some _ => .stuck
      | none => .stuck
  | .fieldAddr t x f => match T[t]? with
    | some i => match i.field f with
      | some (off, _, fsz) => match Nat.blt 0 fsz with
        | true => match st.ev x with
          | some (.ptr k o) => .val (.ptr k (o + off))
          | some (.eptr k s j o) => .val (.eptr k s j (o + off))
          | some (.rd cs) => match drop off cs with | some (c :: l) => .val (.rd (c :: l)) | _ => .stuck
          | _ => .stuck
        | false => .stuck
      | none => .stuck
    | none => .stuck
  | .field t x f => match T[t]? with
    | some i => match i.field f with
      | some (off, ft, _) => match T[ft]? with
        | some fi => match st.ev x with
          | some v => match v.parts with
            | some cs => match drop off cs with | some l => loadAs fi l | none => .stuck
            | none => .stuck
          | none => .stuck
        | none => .stuck
      | none => .stuck
    | none => .stuck
  | .indexAddr t x j => match T[t]? with
    | some i => match i.kind with
      | .slice e => match T[e]? with
        | some ie => match st.ev j with
          | some (.d (.i _ n)) => match st.ev x with
            | some (.d (.sl false xs)) => .need (0 ≤ n) (.get xs n.toNat fun x => match Nat.beq x.cells.length ie.size with | true => .val (.rd x.cells) | false => .stuck)
            | some (.own k) => match look k st.obj with
              | some (.arr sz _ xs) => match Nat.beq sz ie.size with
                | true => .need (0 ≤ n ∧ n < xs.length) (.val (.eptr k sz n.toNat 0))
                | false => .stuck
              | some (.opn sz xs _) => match Nat.beq sz ie.size with
                | true => .need (0 ≤ n ∧ n < xs.length) (.val (.eptr k sz n.toNat 0))
                | false => .stuck
              | _ => .stuck
            | some (.win k s lo hi) => match Nat.beq s ie.size with
              | true => .need ((0 ≤ n ∧ n.toNat < hi - lo) ∧ 0 < ie.size) (.val (.eptr k s (lo + n.toNat) 0))
              | false => .stuck
            | _ => .stuck
          | _ => .stuck
        | none => .stuck
      | _ => .stuck
    | none => .stuck
  | .index t x j => match T[t]? with
    | some i => match i.kind with
      | .str => match st.ev x with
        | some (.d (.s l)) => match st.ev j with
          | some (.d (.i _ n)) => .need (0 ≤ n ∧ n < l.length) (.val (.d (.i .u8 (l.getD n.toNat 0).toNat)))
          | _ => .stuck
        | _ => .stuck
      | _ => .stuck
    | none => .stuck
  | .extract t ix => match st.ev t with
    | some (.tup vs) => match vs[ix]? with | some v => .val v | none => .stuck
    | _ => .stuck
  | .call c => match c.callee with
    | .builtin b => builtinC T st b c.argTypes.toList c.args.toList
    | .value f => match st.ev f with
      | some (.fn g caps) => match st.evs c.args.toList with
        | some vs => .call g (vs ++ caps)
        | none => .stuck
      | _ => .stuck
    | _ => .stuck
  | _ => .stuck

/-! ### The types' table -/
def kindOf (P : Program) (t : TypeId) : TK :=
  match P.underlying t with
  | some .bool => .bool
  | some (.int k) => .int k
  | some .string => .str
  | some (.slice e) => .slice e
  | some (.struct fs) => if fs.toList.all (fun f => (P.info? f.type).isSome) = true then .struct (fs.toList.map fun f => (f.offset, f.type, P.cellsOf f.type)) else .other
  | some (.pointer e) => .ptr e
  | _ => .other
def constsOf : List Value → Option (List AV)
  | [] => some []
  | v :: r => match ofConst v with
    | some x => match constsOf r with | some l => some (x :: l) | none => none
    | none => none
/-- The kinds of the cells of a type whose == asks cell by cell. -/
def fieldKinds (P : Program) (f : TypeId → Option (List FK)) : List Field → Nat → Option (List FK)
  | [], _ => some []
  | x :: r, off => if x.offset = off ∧ x.name ≠ "_" then (f x.type).bind fun k => (fieldKinds P f r (off + P.cellsOf x.type)).map fun l => k ++ l else none
def flatKinds (P : Program) : Nat → TypeId → Option (List FK)
  | 0, _ => none
  | d + 1, t => match P.underlying t with
    | some .bool => if P.cellsOf t = 1 then some [.bool] else none
    | some (.int k) => if P.cellsOf t = 1 then some [.int k] else none
    | some .string => if P.cellsOf t = 1 then some [.str] else none
    | some (.struct fs) => if P.stoodInHeld t = true then none else
        (fieldKinds P (flatKinds P d) fs.toList 0).bind fun l => if l.length = P.cellsOf t then some l else none
    | _ => none
def tdOf (P : Program) (t : TypeId) : TD :=
  { kind := kindOf P t, size := P.cellsOf t, bytes := P.bytesOf t
    zero := ((P.info? t).bind (·.zero)).bind fun z => constsOf z.cells.toList
    eq := if P.eqGuardType P.depth t = true then none else flatKinds P 20 t }
/-- The table tells what the program's types are. -/
def TOk (P : Program) (T : List TD) : Prop := ∀ (t : Nat) (i : TD), T[t]? = some i → i = tdOf P t
theorem tok_of {P : Program} {T : List TD} {n : Nat} (h : T = (List.range n).map (tdOf P)) : TOk P T := by
  intro t i hi
  rw [h, List.getElem?_map] at hi
  cases hr : (List.range n)[t]? with
  | none => rw [hr] at hi; cases hi
  | some j =>
    rw [hr] at hi
    have : j = t := by
      rw [List.getElem?_eq_some_iff] at hr
      obtain ⟨h1, h2⟩ := hr
      rw [List.getElem_range] at h2; exact h2.symm
    subst this
    exact (Option.some.inj hi).symm
end Go.Pm
