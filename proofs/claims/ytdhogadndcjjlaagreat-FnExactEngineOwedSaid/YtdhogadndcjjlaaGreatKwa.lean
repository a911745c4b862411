/-
A part of the proof (packed).
-/
import Derived.Below
import Derived.Calls
import Derived.Deep.MidRow
import Derived.Lib.FrozenHead
namespace Go.Pm
open Go
inductive D where
  | b (x : Bool)
  | i (k : IntKind) (n : Int)
  | s (l : List UInt8)
  | agg (cs : List D)
  | sl (u : Bool) (xs : List D)
  | os (sz : Nat) (deep : Bool) (xs : List D)
  | junk
  deriving Inhabited
inductive AV where
  | d (x : D)
  | c (v : Value)
  | snil
  | agg (cs : List AV)
  | tup (vs : List AV)
  | ptr (k off : Nat)
  | eptr (k sz i off : Nat)
  | own (k : Nat)
  | win (k sz lo hi : Nat)
  | rd (cs : List D)
  | fn (g : FuncId) (caps : List AV)
  | bot
  deriving Inhabited
inductive OC where
  | d (x : D)
  | k (key : Nat)
  deriving Inhabited
structure OE where
  i : Nat
  ag : Bool
  cells : List OC
  deriving Inhabited
inductive Ob where
  | var (cells : List AV)
  | arr (sz : Nat) (deep : Bool) (xs : List D)
  | bld (t e : TypeId) (l : List UInt8)
  | mp (es : List (List UInt8 × D))
  | opn (sz : Nat) (xs : List D) (els : List OE)
  | gone
  deriving Inhabited
inductive FK where
  | bool | int (k : IntKind) | str
inductive TK where
  | bool | int (k : IntKind) | str
  | slice (e : Nat)
  | struct (fs : List (Nat × Nat × Nat))
  | ptr (e : Nat)
  | map (k e : Nat)
  | other
structure TD where
  kind : TK
  size : Nat
  bytes : Nat
  zero : Option (List AV)
  eq : Option (List FK)
inductive KO where
  | k (n : Nat)
  | slot (key sz : Nat) (deep : Bool) (s : Nat)
  | part (key sz : Nat) (deep : Bool) (s c : Nat)
  | cell (key sz : Nat) (deep : Bool) (b c : Nat)
  | frz (n : Nat)
instance (n : Nat) : OfNat KO n := ⟨.k n⟩
structure Cx where
  T : List TD
  mu : List Nat
  nm : List (Nat × List KO)
structure St where
  env : List (Nat × AV)
  obj : List (Nat × Ob)
def look {α : Type} (k : Nat) : List (Nat × α) → Option α
  | [] => none
  | (j, v) :: r => match Nat.beq j k with | true => some v | false => look k r
def has (k : Nat) : List Nat → Bool
  | [] => false
  | j :: r => match Nat.beq j k with | true => true | false => has k r
def litAt (cx : Cx) (dst : Option Nat) : Bool := match dst with | some d => has (2000000 + d) cx.mu | none => false
def bigs : List Nat → Bool
  | [] => true
  | j :: r => match Nat.ble 10000 j with | true => bigs r | false => false
def nodup : List Nat → Bool
  | [] => true
  | j :: r => match has j r with | true => false | false => nodup r
mutual
def D.erase : D → D
  | .agg cs => .agg (eraseL cs)
  | .sl _ xs => .sl false (eraseL xs)
  | .os _ _ xs => .sl false (eraseL xs)
  | .junk => .junk
  | .b x => .b x
  | .i k n => .i k n
  | .s l => .s l
def eraseL : List D → List D
  | [] => []
  | x :: r => x.erase :: eraseL r
end
def D.cells : D → List D
  | .agg cs => cs
  | x => [x]
def AV.cells : AV → List AV
  | .agg cs => cs
  | .d (.agg cs) => cs.map .d
  | x => [x]
def AV.parts : AV → Option (List AV)
  | .agg cs => some cs
  | .d (.agg cs) => some (cs.map .d)
  | _ => none
mutual
def AV.refs : AV → List Nat
  | .ptr k _ => [k]
  | .eptr k _ _ _ => [k]
  | .own k => [k]
  | .win k _ _ _ => [k]
  | .agg cs => refsL cs
  | .tup vs => refsL vs
  | .fn _ caps => refsL caps
  | _ => []
def refsL : List AV → List Nat
  | [] => []
  | v :: r => v.refs ++ refsL r
end
def cellKeys : List OC → List Nat
  | [] => []
  | .k key :: r => key :: cellKeys r
  | .d _ :: r => cellKeys r
def elKeys : List OE → List Nat
  | [] => []
  | e :: r => cellKeys e.cells ++ elKeys r
def OC.D : OC → D
  | .d x => x
  | .k _ => .junk
def ocD : List OC → List D
  | [] => []
  | c :: r => c.D :: ocD r
def OE.D (e : OE) : D := match e.ag with | true => .agg (ocD e.cells) | false => match ocD e.cells with | [x] => x | _ => .junk
def baseXs (xs : List D) : List OE → List D
  | [] => xs
  | e :: r => (baseXs xs r).set e.i e.D
def Ob.refs : Ob → List Nat
  | .var cells => refsL cells
  | .arr .. => []
  | .bld .. => []
  | .mp _ => []
  | .opn _ _ els => elKeys els
  | .gone => []
mutual
def AV.ren (f : Nat → Option Nat) : AV → AV
  | .ptr k o => match f k with | some j => .ptr j o | none => .bot
  | .eptr k s i o => match f k with | some j => .eptr j s i o | none => .bot
  | .own k => match f k with | some j => .own j | none => .bot
  | .win k s lo hi => match f k with | some j => .win j s lo hi | none => .bot
  | .agg cs => .agg (renL f cs)
  | .tup vs => .tup (renL f vs)
  | .fn g caps => .fn g (renL f caps)
  | v => v
def renL (f : Nat → Option Nat) : List AV → List AV
  | [] => []
  | v :: r => v.ren f :: renL f r
end
def renCells (f : Nat → Option Nat) : List OC → List OC
  | [] => []
  | .k key :: r => match f key with | some j => .k j :: renCells f r | none => .d .junk :: renCells f r
  | .d x :: r => .d x :: renCells f r
def renEls (f : Nat → Option Nat) : List OE → List OE
  | [] => []
  | e :: r => ⟨e.i, e.ag, renCells f e.cells⟩ :: renEls f r
def Ob.ren (f : Nat → Option Nat) : Ob → Ob
  | .var cells => .var (renL f cells)
  | .arr s u xs => .arr s u xs
  | .bld t e l => .bld t e l
  | .mp es => .mp es
  | .opn s xs els => .opn s xs (renEls f els)
  | .gone => .gone
def renEnv (f : Nat → Option Nat) : List (Nat × AV) → List (Nat × AV)
  | [] => []
  | (t, v) :: r => (t, v.ren f) :: renEnv f r
def renObj (f : Nat → Option Nat) : List (Nat × Ob) → List (Nat × Ob)
  | [] => []
  | (k, o) :: r => match f k with | some j => (j, o.ren f) :: renObj f r | none => renObj f r
def without (ks : List Nat) (k : Nat) : Option Nat := match has k ks with | true => none | false => some k
def within (ks : List Nat) (k : Nat) : Option Nat := match has k ks with | true => some k | false => none
def absorbCells (g : Nat → Option (D × List Nat)) : List OC → List OC × List Nat
  | [] => ([], [])
  | .d x :: r => match absorbCells g r with | (l, ks) => (.d x :: l, ks)
  | .k key :: r => match g key with
    | some (y, k1) => match absorbCells g r with | (l, ks) => (.d y :: l, k1 ++ ks)
    | none => match absorbCells g r with | (l, ks) => (.d .junk :: l, ks)
def absorbEls (g : Nat → Option (D × List Nat)) : List OE → List OE × List Nat
  | [] => ([], [])
  | e :: r => match absorbCells g e.cells with | (cs, k1) => match absorbEls g r with | (l, ks) => (⟨e.i, e.ag, cs⟩ :: l, k1 ++ ks)
def absorbK (σ : Nat → Option Ob) : Nat → Nat → Option (D × List Nat)
  | 0, _ => none
  | n + 1, k => match σ k with
    | some (.arr sz d xs) => some (.os sz d xs, [k])
    | some (.opn sz xs els) => match absorbEls (absorbK σ n) els with | (els', ks) => some (.os sz true (baseXs xs els'), k :: ks)
    | _ => none
mutual
def AV.absorb (σ : Nat → Option Ob) : AV → Option (D × List Nat)
  | .d x => some (x, [])
  | .snil => some (.sl false [], [])
  | .own k => absorbK σ 10 k
  | .agg cs => match absorbL σ cs with | some (l, ks) => some (.agg l, ks) | none => none
  | _ => none
def absorbL (σ : Nat → Option Ob) : List AV → Option (List D × List Nat)
  | [] => some ([], [])
  | v :: r => match v.absorb σ with
    | some (x, ks) => match absorbL σ r with | some (l, ks') => some (x :: l, ks ++ ks') | none => none
    | none => none
end
mutual
def AV.show (σ : Nat → Option Ob) : AV → Option (D × List Nat)
  | .d x => some (x, [])
  | .snil => some (.sl false [], [])
  | .own k => match σ k with
    | some (.arr _ false xs) => some (.sl false xs, [k])
    | some (.arr _ true xs) => some (.sl false (eraseL xs), [k])
    | _ => none
  | .win k s lo hi => match σ k with
    | some (.arr sz d xs) => match Nat.beq s sz with
      | true => match d with
        | false => some (.sl false ((xs.take hi).drop lo), [k])
        | true => some (.sl false (eraseL ((xs.take hi).drop lo)), [k])
      | false => none
    | _ => none
  | .agg cs => match showL σ cs with | some (l, ks) => some (.agg l, ks) | none => none
  | _ => none
def showL (σ : Nat → Option Ob) : List AV → Option (List D × List Nat)
  | [] => some ([], [])
  | v :: r => match v.show σ with
    | some (x, ks) => match showL σ r with | some (l, ks') => some (x :: l, ks ++ ks') | none => none
    | none => none
end
def allD : List AV → Option (List D)
  | [] => some []
  | .d x :: r => match allD r with | some l => some (x :: l) | none => none
  | _ => none
def mkAgg (cs : List AV) : AV := match allD cs with | some l => .d (.agg l) | none => .agg cs
def setCells {α : Type} : Nat → List α → List α → Option (List α)
  | _, [], l => some l
  | 0, v :: vs, _ :: l => match setCells 0 vs l with | some r => some (v :: r) | none => none
  | n + 1, v :: vs, c :: l => match setCells n (v :: vs) l with | some r => some (c :: r) | none => none
  | _, _ :: _, [] => none
def take {α : Type} : Nat → List α → Option (List α)
  | 0, _ => some []
  | n + 1, x :: l => match take n l with | some r => some (x :: r) | none => none
  | _ + 1, [] => none
def drop {α : Type} : Nat → List α → Option (List α)
  | 0, l => some l
  | n + 1, _ :: l => drop n l
  | _ + 1, [] => none
def AV.one : AV → Bool
  | .d (.agg _) => false
  | .agg _ => false
  | .tup _ => false
  | _ => true
def allOne : List AV → Bool
  | [] => true
  | v :: r => match v.one with | true => allOne r | false => false
def ofConst : Value → Option AV
  | .int k n => some (.d (.i k n))
  | .bool b => some (.d (.b b))
  | .string s => some (.d (.s s.data.toList))
  | .slice none 0 0 => some .snil
  | .pointer none => some (.c (.pointer none))
  | .nilFunc => some (.c .nilFunc)
  | .nilIface => some (.c .nilIface)
  | .map none => some (.c (.map none))
  | _ => none
def St.ev (st : St) : Operand → Option AV
  | .tmp t => look t st.env
  | .const v => ofConst v
  | .func f => some (.fn f [])
  | .global _ => none
def St.evs (st : St) : List Operand → Option (List AV)
  | [] => some []
  | x :: r => match st.ev x with
    | some v => match st.evs r with | some l => some (v :: l) | none => none
    | none => none
def St.put (st : St) (dst : Option Nat) (v : AV) : St :=
  match dst with | some d => { st with env := (d, v) :: st.env } | none => st
def St.ren (st : St) (f : Nat → Option Nat) : St := { env := renEnv f st.env, obj := renObj f st.obj }
def St.set (st : St) (k : Nat) (o : Ob) : St := { st with obj := (k, o) :: st.obj }
def bitD (k : IntKind) (f : BitVec k.bits → BitVec k.bits → BitVec k.bits) (x y : Int) : D :=
  .i k (k.wrap (f (BitVec.ofInt k.bits x) (BitVec.ofInt k.bits y)).toNat)
def eqK : List FK → List D → List D → Option Bool
  | [], [], [] => some true
  | k :: ks, x :: xs, y :: ys =>
    match (match k with
      | .bool => match x with | .b p => (match y with | .b q => some (p == q) | _ => none) | _ => none
      | .int k => match x with
        | .i k1 n => (match y with | .i k2 m => (match decide (k1 = k) && decide (k2 = k) with | true => some (decide (n = m)) | false => none) | _ => none)
        | _ => none
      | .str => match x with | .s p => (match y with | .s q => some (decide (p = q)) | _ => none) | _ => none) with
    | some p => match eqK ks xs ys with | some q => some (p && q) | none => none
    | none => none
  | _, _, _ => none
def u8s (l : List UInt8) : List D := l.map fun c => .i .u8 c.toNat
inductive Cmd where
  | stuck
  | val (v : AV)
  | need (p : Prop) (c : Cmd)
  | get (xs : List D) (i : Nat) (f : D → Cmd)
  | str (xs : List D)
  | newVar (ob : Ob)
  | newArr (sz : Nat) (deep : Bool) (xs : List D) (ks : List Nat)
  | app (k sz : Nat) (deep : Bool) (xs : List D) (ks : List Nat)
  | upd (k : Nat) (o : Ob) (v : AV)
  | call (f : FuncId) (vs : List AV)
  | alt (a b : Cmd)
  | newNil (sz : Nat) (deep : Bool)
  | opens (k : Nat) (ob : Ob) (news : List (Nat × Ob)) (c : Cmd)
  | put (k : Nat) (ob : Ob) (ks : List Nat)
  | bit (p : Prop)
  | newMp
def binI (op : BinOp) (k : IntKind) (x y : Int) : Cmd :=
  match op with
  | .add => .val (.d (.i k (k.wrap (x + y))))
  | .sub => .val (.d (.i k (k.wrap (x - y))))
  | .mul => .val (.d (.i k (k.wrap (x * y))))
  | .quo => .need (y ≠ 0) (.val (.d (.i k (k.wrap (x.tdiv y)))))
  | .rem => .need (y ≠ 0) (.val (.d (.i k (x.tmod y))))
  | .and => .val (.d (bitD k (· &&& ·) x y))
  | .or => .val (.d (bitD k (· ||| ·) x y))
  | .xor => .val (.d (bitD k (· ^^^ ·) x y))
  | .andNot => .val (.d (bitD k (fun a b => a &&& ~~~b) x y))
  | .eql => .val (.d (.b (decide (x = y))))
  | .neq => .val (.d (.b (!decide (x = y))))
  | .lss => .val (.d (.b (decide (x < y))))
  | .leq => .val (.d (.b (decide (x ≤ y))))
  | .gtr => .val (.d (.b (decide (x > y))))
  | .geq => .val (.d (.b (decide (x ≥ y))))
  | _ => .stuck
def binS (op : BinOp) (x y : List UInt8) : Cmd :=
  match op with
  | .add => .need (((x.length + y.length : Nat) : Int) ≤ 9223372036854775807) (.val (.d (.s (x ++ y))))
  | .eql => .val (.d (.b (decide (x = y))))
  | .neq => .val (.d (.b (!decide (x = y))))
  | .lss => .val (.d (.b (Op.bytesLess x y)))
  | .leq => .val (.d (.b (Op.bytesLess x y || decide (x = y))))
  | .gtr => .val (.d (.b (!(Op.bytesLess x y || decide (x = y)))))
  | .geq => .val (.d (.b (!Op.bytesLess x y)))
  | _ => .stuck
def binC (i : TD) (op : BinOp) (x y : D) : Cmd :=
  match x with
  | .i k a => match y with
    | .i k' b => match op with
      | .shl => .need (0 ≤ b) (.val (.d (.i k (k.wrap (a * 2 ^ (min b.toNat k.bits))))))
      | .shr => .need (0 ≤ b) (.val (.d (.i k (a.fdiv (2 ^ (min b.toNat k.bits))))))
      | op => .need (k = k') (binI op k a b)
    | _ => .stuck
  | .s a => match y with | .s b => binS op a b | _ => .stuck
  | .b a => match y with
    | .b b => (match i.kind with
      | .bool => (match op with | .eql => .val (.d (.b (a == b))) | .neq => .val (.d (.b (!(a == b)))) | _ => .stuck)
      | _ => .stuck)
    | _ => .stuck
  | .agg xs => match y with
    | .agg ys => match i.kind with
      | .struct _ => match i.eq with
        | some ks => match eqK ks xs ys with
          | some r => (match op with | .eql => .val (.d (.b r)) | .neq => .val (.d (.b (!r))) | _ => .stuck)
          | none => .stuck
        | none => .stuck
      | _ => .stuck
    | _ => .stuck
  | _ => .stuck
def headC : List AV → Cmd
  | v :: _ => .val v
  | [] => .stuck
def headD : List D → Cmd
  | v :: _ => .val (.d v)
  | [] => .stuck
def loadAs (i : TD) (cells : List AV) : Cmd :=
  match i.kind with
  | .struct _ => match take i.size cells with | some l => .val (mkAgg l) | none => .stuck
  | .other => .stuck
  | _ => headC cells
def loadD (i : TD) (cells : List D) : Cmd :=
  match i.kind with
  | .struct _ => match take i.size cells with | some l => .val (.d (.agg l)) | none => .stuck
  | .other => .stuck
  | _ => headD cells
def TD.field (i : TD) (f : Nat) : Option (Nat × Nat × Nat) := match i.kind with | .struct fs => fs[f]? | _ => none
def placeOf (fs : List (Nat × Nat × Nat)) (j : Nat) : Option (Nat × Nat) := match fs[j]? with | some (off, _, sz) => some (off, sz) | none => none
def fillParts (place : Nat → Option (Nat × Nat)) (cells : List AV) : List (Nat × AV) → Option (List AV)
  | [] => some cells
  | (j, v) :: r => match place j with
    | some (off, size) => match Nat.beq v.cells.length size && Nat.blt 0 size with
      | true => match setCells off v.cells cells with | some cs => fillParts place cs r | none => none
      | false => none
    | none => none
def litParts (σ : Nat → Option Ob) (sz : Nat) (j : Nat) : List (Nat × AV) → Option (List D × List Nat)
  | [] => some ([], [])
  | (i, v) :: r => match Nat.beq i j with
    | true => match v.absorb σ with
      | some (x, ks) => match Nat.beq x.cells.length sz && allOne v.cells with
        | true => match litParts σ sz (j + 1) r with | some (l, ks') => some (x :: l, ks ++ ks') | none => none
        | false => none
      | none => none
    | false => none
def notNil : List Nat → Bool
  | [] => false
  | _ => true
def pairs (st : St) : List (Nat × Operand) → Option (List (Nat × AV))
  | [] => some []
  | (j, x) :: r => match st.ev x with
    | some v => match pairs st r with | some l => some ((j, v) :: l) | none => none
    | none => none
def isLit (x : Operand) (k : Nat) : Bool := match x with | .tmp t => Nat.beq k (10000 + t) | _ => false
def room (n bytes : Nat) : Prop := n ≤ maxLen ∧ n * bytes ≤ 140737488355328
def appendC (i : TD) (σ : Nat → Option Ob) (a : AV) (xop : Operand) (x : AV) : Cmd :=
  match a with
  | .own k => match σ k with
    | some (.arr sz d xs) => match x with
      | .own k2 => match σ k2 with
        | some (.arr sz2 d2 ys) => match isLit xop k2 with
          | true => .need (k ≠ k2 ∧ sz = sz2 ∧ sz = i.size ∧ room (xs.length + ys.length) i.bytes) (.app k sz (d || d2) (xs ++ ys) [k2])
          | false => match d2 with
            | false => .need (k ≠ k2 ∧ sz = sz2 ∧ sz = i.size ∧ room (xs.length + ys.length) i.bytes) (.app k sz d (xs ++ ys) [])
            | true => .stuck
        | _ => .stuck
      | .d (.sl false ys) => .need ((∀ y ∈ ys, y.cells.length = sz) ∧ sz = i.size ∧ room (xs.length + ys.length) i.bytes) (.app k sz d (xs ++ ys) [])
      | .snil => .need (sz = i.size ∧ room xs.length i.bytes) (.app k sz d xs [])
      | _ => .stuck
    | _ => .stuck
  | .snil => match x with
    | .own k2 => match σ k2 with
      | some (.arr sz2 d2 ys) => match isLit xop k2 with
        | true => .need (sz2 = i.size ∧ ys ≠ [] ∧ room ys.length i.bytes) (.newArr sz2 d2 ys [k2])
        | false => match d2 with
          | false => .need (sz2 = i.size ∧ ys ≠ [] ∧ room ys.length i.bytes) (.newArr sz2 false ys [])
          | true => .stuck
      | _ => .stuck
    | _ => .stuck
  | _ => .stuck
def appendStr (i : TD) (σ : Nat → Option Ob) (a : AV) (l : List UInt8) : Cmd :=
  match a with
  | .own k => match σ k with
    | some (.arr sz d xs) => .need (sz = i.size ∧ sz = 1 ∧ room (xs.length + l.length) i.bytes) (.app k sz d (xs ++ u8s l) [])
    | _ => .stuck
  | _ => .stuck
def copied (xs ys : List D) (lo hi : Nat) : List D := xs.take lo ++ ys.take (hi - lo) ++ xs.drop (lo + min (hi - lo) ys.length)
def copyC (σ : Nat → Option Ob) (k s lo hi : Nat) (x : AV) (size : Nat) (k2 : TK) : Cmd :=
  match σ k with
  | some (.arr sz false xs) => match Nat.beq s sz && Nat.beq s size with
    | true => match x with
      | .d (.sl false ys) => match k2 with
        | .slice _ => .need (hi ≤ xs.length ∧ lo ≤ hi ∧ ∀ y ∈ ys, y.cells.length = sz) (.upd k (.arr sz false (copied xs ys lo hi)) (.d (.i .i64 (min (hi - lo) ys.length : Nat))))
        | _ => .stuck
      | .d (.s l) => match k2 with
        | .str => match Nat.beq sz 1 with
          | true => .need (hi ≤ xs.length ∧ lo ≤ hi) (.upd k (.arr sz false (copied xs (u8s l) lo hi)) (.d (.i .i64 (min (hi - lo) (u8s l).length : Nat))))
          | false => .stuck
        | _ => .stuck
      | _ => .stuck
    | false => .stuck
  | _ => .stuck
def builtinC (T : List TD) (st : St) (b : Builtin) (ts : List TypeId) (args : List Operand) : Cmd :=
  match st.evs args with
  | none => .stuck
  | some vs => match b with
    | .len => match ts with
      | [t] => match T[t]? with
        | some i => match i.kind with
          | .slice _ => match vs with
            | [.d (.sl _ xs)] => .val (.d (.i .i64 xs.length))
            | [.snil] => .val (.d (.i .i64 ((0 : Nat) : Int)))
            | [.own k] => match look k st.obj with | some (.arr _ _ xs) => .val (.d (.i .i64 xs.length)) | some (.opn _ xs _) => .val (.d (.i .i64 xs.length)) | _ => .stuck
            | [.win _ _ lo hi] => .val (.d (.i .i64 (hi - lo : Nat)))
            | _ => .stuck
          | .str => match vs with
            | [.d (.s l)] => .val (.d (.i .i64 l.length))
            | _ => .stuck
          | _ => .stuck
        | none => .stuck
      | _ => .stuck
    | .append => match ts with
      | [t, t'] => match T[t]? with
        | some i => match i.kind with
          | .slice e => match T[e]? with
            | some ie => match vs, args with
              | [a, .d (.s l)], [_, _] => match ie.kind with
                | .int .u8 => match (match T[t']? with | some i2 => i2.kind | none => .other) with
                  | .str => match ie.zero with
                    | some z => match Nat.beq z.length ie.size with
                      | true => appendStr ie (look · st.obj) a l
                      | false => .stuck
                    | none => .stuck
                  | _ => .stuck
                | _ => .stuck
              | [a, x], [_, xop] => match Nat.beq t t' with
                | true => match ie.zero with
                  | some z => match Nat.beq z.length ie.size with
                    | true => appendC ie (look · st.obj) a xop x
                    | false => .stuck
                  | none => .stuck
                | false => .stuck
              | _, _ => .stuck
            | none => .stuck
          | _ => .stuck
        | none => .stuck
      | _ => .stuck
    | .min => match vs with
      | [.d (.i k x), .d (.i k' y)] => .need (k = k') (.val (.d (.i k (if y < x then y else x))))
      | _ => .stuck
    | .max => match vs with
      | [.d (.i k x), .d (.i k' y)] => .need (k = k') (.val (.d (.i k (if y > x then y else x))))
      | _ => .stuck
    | .copy => match ts with
      | [t, t2] => match T[t]?, T[t2]? with
        | some i, some i2 => match i.kind with
          | .slice e => match T[e]? with
            | some ie => match vs with
              | [.win k s lo hi, x] => copyC (look · st.obj) k s lo hi x ie.size i2.kind
              | [.own k, x] => match look k st.obj with | some (.arr s false xs) => copyC (look · st.obj) k s 0 xs.length x ie.size i2.kind | _ => .stuck
              | _ => .stuck
            | none => .stuck
          | _ => .stuck
        | _, _ => .stuck
      | _ => .stuck
    | _ => .stuck
def convC (T : List TD) (st : St) (src dst : TypeId) (v : AV) : Cmd :=
  match T[src]? with
  | none => .stuck
  | some is => match T[dst]? with
    | none => .stuck
    | some id => match id.kind with
      | .int k => match is.kind with
        | .int _ => match v with | .d (.i _ n) => .val (.d (.i k (k.wrap n))) | _ => .stuck
        | _ => .stuck
      | .str => match is.kind with
        | .str => match v with | .d (.s l) => .val (.d (.s l)) | _ => .stuck
        | .slice e => match T[e]? with
          | some ie => match ie.kind with
            | .int .u8 => match v with
              | .d (.sl _ xs) => .str xs
              | .snil => .val (.d (.s []))
              | .own k => match look k st.obj with | some (.arr 1 _ xs) => .str xs | _ => .stuck
              | _ => .stuck
            | _ => .stuck
          | none => .stuck
        | _ => .stuck
      | _ => .stuck
def bounds (n : Nat) (f : Nat → Nat → AV) (lo hi : Option AV) : Cmd :=
  match lo, hi with
  | none, none => .val (f 0 n)
  | some (.d (.i _ l)), none => .need (0 ≤ l ∧ l ≤ n) (.val (f l.toNat n))
  | none, some (.d (.i _ h)) => .need (0 ≤ h ∧ h ≤ n) (.val (f 0 h.toNat))
  | some (.d (.i _ l)), some (.d (.i _ h)) => .need (0 ≤ l ∧ l ≤ h ∧ h ≤ n) (.val (f l.toNat h.toNat))
  | _, _ => .stuck
def sliceC (T : List TD) (t : TypeId) (v : AV) (lo hi : Option AV) : Cmd :=
  match T[t]? with
  | none => .stuck
  | some i => match v with
    | .d (.s s) => match i.kind with
      | .str => bounds s.length (fun l h => .d (.s ((s.take h).drop l))) lo hi
      | _ => .stuck
    | .d (.sl false xs) => match i.kind with
      | .slice e => match T[e]? with
        | some ie => .need ((∀ x ∈ xs, x.cells.length = ie.size) ∧ 0 < ie.size) (bounds xs.length (fun l h => .d (.sl false ((xs.take h).drop l))) lo hi)
        | none => .stuck
      | _ => .stuck
    | .win k s lo0 hi0 => match i.kind with
      | .slice e => match T[e]? with
        | some ie => match Nat.beq s ie.size with
          | true => .need (0 < ie.size) (bounds (hi0 - lo0) (fun l h => .win k s (lo0 + l) (lo0 + h)) lo hi)
          | false => .stuck
        | none => .stuck
      | _ => .stuck
    | _ => .stuck
def sliceOwn (T : List TD) (σ : Nat → Option Ob) (t : TypeId) (k : Nat) (lo hi : Option AV) : Cmd :=
  match T[t]? with
  | none => .stuck
  | some i => match i.kind with
    | .slice e => match T[e]? with
      | some ie => match σ k with
        | some (.arr sz _ xs) => match Nat.beq sz ie.size with
          | true => .need (0 < ie.size) (bounds xs.length (fun l h => .win k sz l h) lo hi)
          | false => .stuck
        | _ => .stuck
      | none => .stuck
    | _ => .stuck
def sliceNil (T : List TD) (t : TypeId) : Cmd :=
  match T[t]? with
  | none => .stuck
  | some i => match i.kind with
    | .slice e => match T[e]? with
      | some ie => match Nat.blt 0 ie.size with | true => .newNil ie.size false | false => .stuck
      | none => .stuck
    | _ => .stuck
def isZero : Option AV → Bool
  | some (.d (.i _ (Int.ofNat 0))) => true
  | _ => false
def isSlice : AV → Bool
  | .d (.sl ..) => true
  | .snil => true
  | .win .. => true
  | _ => false
def D.isAgg : D → Bool
  | .agg _ => true
  | _ => false
def OC.av : OC → AV
  | .d x => .d x
  | .k key => .own key
def avsOf : List OC → List AV
  | [] => []
  | c :: r => c.av :: avsOf r
def ocsOf : List D → List OC
  | [] => []
  | x :: r => .d x :: ocsOf r
def noOs : List OC → Bool
  | [] => true
  | .d (.os ..) :: _ => false
  | _ :: r => noOs r
def openCells (d : Nat) : Nat → List OC → List OC × List (Nat × Ob)
  | _, [] => ([], [])
  | n, .d (.os sz dp ys) :: r => match openCells d (n + 1) r with | (l, news) => (.k (10000 * (n + 1) + d) :: l, (10000 * (n + 1) + d, .arr sz dp ys) :: news)
  | n, c :: r => match openCells d n r with | (l, news) => (c :: l, news)
def freshAll (obj : List (Nat × Ob)) : List (Nat × Ob) → Bool
  | [] => true
  | (k, _) :: r => match look k obj with | none => freshAll obj r | some _ => false
def pickEl (xs : List D) (j : Nat) (f : OE → List OE → Cmd) : List OE → List OE → Cmd
  | [], passed => .get xs j fun x => f ⟨j, x.isAgg, ocsOf x.cells⟩ passed
  | e :: r, passed => .alt (.need (j = e.i) (f e (passed ++ r))) (.need (j ≠ e.i) (pickEl xs j f r (passed ++ [e])))
def openEls : Ob → Option (Nat × List D × List OE)
  | .arr sz true xs => some (sz, xs, [])
  | .opn sz xs els => some (sz, xs, els)
  | _ => none
def openAny : Ob → Option (Nat × List D × List OE)
  | .arr sz _ xs => some (sz, xs, [])
  | .opn sz xs els => some (sz, xs, els)
  | _ => none
def loadDeep (d : Option Nat) (i : TD) (k sz off : Nat) (xs : List D) (e : OE) (others : List OE) : Cmd :=
  match drop off e.cells with
  | none => .stuck
  | some tl => match take i.size tl with
    | none => .stuck
    | some mid => match noOs mid with
      | true => loadAs i (avsOf mid)
      | false => match d with
        | none => .stuck
        | some d => match openCells d 0 mid with
          | (mid', news) => match setCells off mid' e.cells with
            | some cs => .opens k (.opn sz xs (⟨e.i, e.ag, cs⟩ :: others)) news (loadAs i (avsOf mid'))
            | none => .stuck
def mkOpn (sz : Nat) (xs : List D) (els : List OE) : Ob := match elKeys els with | [] => .arr sz true (baseXs xs els) | _ => .opn sz xs els
def allOneD : List D → Bool
  | [] => true
  | .agg _ :: _ => false
  | _ :: r => allOneD r
def storeDeep (σ : Nat → Option Ob) (i : TD) (k sz off : Nat) (xs : List D) (x : AV) (e : OE) (others : List OE) : Cmd :=
  match x.absorb σ with
  | none => .stuck
  | some (y, ks) => match Nat.beq y.cells.length i.size && Nat.blt 0 i.size && allOneD y.cells && !(has k ks) && nodup ks with
    | false => .stuck
    | true => match i.kind with
      | .other => .stuck
      | _ => match setCells off (ocsOf y.cells) e.cells with
        | some cs => .put k (mkOpn sz xs (renEls (without ks) (⟨e.i, e.ag, cs⟩ :: others))) ks
        | none => .stuck
def St.shut (st : St) (k : Nat) : St := match look k st.obj with
  | some (.opn sz xs els) => match absorbEls (absorbK (look · st.obj) 10) els with
    | (els', ks) => match !(has k ks) && nodup ks && bigs ks with
      | true => (st.ren (without ks)).set k (.arr sz true (baseXs xs els'))
      | false => st
  | _ => st
def anyOpn : List (Nat × Ob) → Bool
  | [] => false
  | (_, .opn ..) :: _ => true
  | _ :: r => anyOpn r
def St.shuts (st : St) : List Nat → St
  | [] => st
  | k :: r => (st.shut k).shuts r
def sliceV (T : List TD) (st : St) (t : TypeId) (v : AV) (lo hi : Option AV) : Cmd :=
  match v with
  | .own k => sliceOwn T (look · st.obj) t k lo hi
  | v => sliceC T t v lo hi
def bldOf (T : List TD) (t : TypeId) (i : TD) : Option TypeId :=
  match i.kind with
  | .struct [(_, tp, _), (_, ts, _)] => match T[tp]? with
    | some ip => match ip.kind with
      | .ptr e1 => match Nat.beq e1 t with
        | true => match T[ts]? with
          | some is => match is.kind with | .slice e => some e | _ => none
          | none => none
        | false => none
      | _ => none
    | none => none
  | _ => none
def isMapS (T : List TD) (t : TypeId) : Bool :=
  match T[t]? with
  | some i => match i.kind with
    | .map k _ => match T[k]? with | some ik => (match ik.kind with | .str => true | _ => false) | none => false
    | _ => false
  | none => false
def findE (l : List UInt8) : List (List UInt8 × D) → Option D
  | [] => none
  | (k, y) :: r => match decide (k = l) with | true => some y | false => findE l r
def mapOf (st : St) (m : Operand) : Option (Nat × List (List UInt8 × D)) :=
  match st.ev m with
  | some (.own k) => match look k st.obj with | some (.mp es) => some (k, es) | _ => none
  | _ => none
def opCmd (T : List TD) (o : Oper) (st : St) : Cmd :=
  match o.op with
  | .move x => match st.ev x with | some v => .val v | none => .stuck
  | .assign x => match st.ev x with | some v => .val v | none => .stuck
  | .pick c a b => match st.ev c with
    | some (.d (.b t)) => (match t with
      | true => match st.ev a with | some v => .val v | none => .stuck
      | false => match st.ev b with | some v => .val v | none => .stuck)
    | _ => .stuck
  | .alloc t => match T[t]? with
    | some i => match i.zero with
      | some z => (match bldOf T t i with
        | some e => (match z with | [.c (.pointer none), .snil] => .newVar (.bld t e []) | _ => .stuck)
        | none => .newVar (.var z))
      | none => .stuck
    | none => .stuck
  | .box _ x => match st.ev x with | some v => .newVar (.var v.cells) | none => .stuck
  | .build t parts => match T[t]? with
    | some i => match i.kind with
      | .struct fs => match i.zero with
        | some z => match pairs st parts.toList with
          | some ps => match fillParts (placeOf fs) z ps with
            | some cs => .val (mkAgg cs)
            | none => .stuck
          | none => .stuck
        | none => .stuck
      | _ => .stuck
    | none => .stuck
  | .buildSlice t n parts => match T[t]? with
    | some i => match i.kind with
      | .slice e => match T[e]? with
        | some ie => match Nat.beq n parts.size with
          | true => match pairs st parts.toList with
            | some ps => match litParts (look · st.obj) ie.size 0 ps with
              | some (xs, ks) => match nodup ks with
                | true => match Nat.ble (n * ie.size) 16777216 && Nat.blt 0 ie.size with
                  | true => match ie.zero with
                    | some _ => .newArr ie.size (notNil ks) xs ks
                    | none => .stuck
                  | false => .stuck
                | false => .stuck
              | none => .stuck
            | none => .stuck
          | false => .stuck
        | none => .stuck
      | _ => .stuck
    | none => .stuck
  | .load t a => match T[t]? with
    | some i => match st.ev a with
      | some (.ptr k off) => match look k st.obj with
        | some (.var cells) => match drop off cells with | some l => loadAs i l | none => .stuck
        | _ => .stuck
      | some (.rd cs) => loadD i cs
      | some (.eptr k s j off) => match look k st.obj with
        | some (.arr sz false xs) => match Nat.beq s sz with
          | true => .get xs j fun x => match drop off x.cells with | some l => loadD i l | none => .stuck
          | false => .stuck
        | some ob => match openEls ob with
          | some (sz, xs, els) => match Nat.beq s sz with
            | true => pickEl xs j (loadDeep o.dst i k sz off xs) els []
            | false => .stuck
          | none => .stuck
        | none => .stuck
      | _ => .stuck
    | none => .stuck
  | .store t a x => match T[t]? with
    | some i => match st.ev a with
      | some (.ptr k off) => match st.ev x with
        | some v => match look k st.obj with
          | some (.var cells) => match Nat.beq v.cells.length i.size && Nat.blt 0 i.size with
            | true => match allOne v.cells with
              | true => match setCells off v.cells cells with | some cs => .upd k (.var cs) (.tup []) | none => .stuck
              | false => .stuck
            | false => .stuck
          | _ => .stuck
        | none => .stuck
      | some (.eptr k s j off) => match st.ev x with
        | some (.d y) => match look k st.obj with
          | some (.arr sz false xs) => match Nat.beq sz i.size with
            | true => match off with
              | 0 => match Nat.beq sz i.size && Nat.beq s sz with
                | true => match allOne (y.cells.map .d) with
                  | true => .need (j < xs.length ∧ y.cells.length = i.size) (.upd k (.arr sz false (xs.set j y)) (.tup []))
                  | false => .stuck
                | false => .stuck
              | _ => .stuck
            | false => match Nat.beq s sz && Nat.blt 0 i.size with
              | true => match allOne (y.cells.map .d) with
                | true => match Nat.beq y.cells.length i.size with
                  | true => .get xs j fun e => match e with
                    | .agg cs => match setCells off y.cells cs with
                      | some cs' => .upd k (.arr sz false (xs.set j (.agg cs'))) (.tup [])
                      | none => .stuck
                    | _ => .stuck
                  | false => .stuck
                | false => .stuck
              | false => .stuck
          | some ob => match openEls ob with
            | some (sz, xs, els) => match Nat.beq s sz with
              | true => pickEl xs j (storeDeep (look · st.obj) i k sz off xs (.d y)) els []
              | false => .stuck
            | none => .stuck
          | none => .stuck
        | some v => match look k st.obj with
          | some ob => match openAny ob with
            | some (sz, xs, els) => match Nat.beq s sz with
              | true => pickEl xs j (storeDeep (look · st.obj) i k sz off xs v) els []
              | false => .stuck
            | none => .stuck
          | none => .stuck
        | none => .stuck
      | _ => .stuck
    | none => .stuck
  | .nilCheck x => match st.ev x with
    | some (.ptr k o) => .val (.ptr k o)
    | some (.eptr k s j o) => .val (.eptr k s j o)
    | some (.rd cs) => .val (.rd cs)
    | some (.fn g caps) => .val (.fn g caps)
    | _ => .stuck
  | .binOp op t x y _ => match st.ev x with
    | some (.d a) => match st.ev y with
      | some (.d b) => match T[t]? with
        | some i => binC i op a b
        | none => .stuck
      | some .snil => match a with
        | .sl _ xs => match op with
          | .eql => match T[t]? with
            | some i => match i.kind with
              | .slice _ => .bit (xs = [])
              | _ => .stuck
            | none => .stuck
          | _ => .stuck
        | _ => .stuck
      | _ => .stuck
    | _ => .stuck
  | .unOp op _ x => match op with
    | .not => match st.ev x with | some (.d (.b t)) => .val (.d (.b (!t))) | _ => .stuck
    | .neg => match st.ev x with | some (.d (.i k n)) => .val (.d (.i k (k.wrap (0 - n)))) | _ => .stuck
    | .xor => match st.ev x with | some (.d (.i k n)) => .val (.d (bitD k (· ^^^ ·) (if k.signed then -1 else k.max) n)) | _ => .stuck
    | _ => .stuck
  | .convert src dst x => match st.ev x with | some v => convC T st src dst v | none => .stuck
  | .makeFunc fn first caps => match fn with
    | .func g => match first.toList with
      | [] => match st.evs caps.toList with | some vs => .val (.fn g vs) | none => .stuck
      | _ => .stuck
    | _ => .stuck
  | .makeSlice t l c => match T[t]? with
    | some i => match i.kind with
      | .slice e => match T[e]? with
        | some ie => match st.ev l with
          | some (.d (.i _ n)) => match st.ev c with
            | some (.d (.i _ m)) => match ie.zero with
              | some z0 => match showL (fun _ => none) z0 with
                | some (z, _) => match Nat.beq z.length ie.size && Nat.blt 0 ie.size with
                  | true => .need (n = m ∧ 0 ≤ n ∧ n * ie.bytes ≤ 281474976710656 ∧ n ≤ maxLen) (match ie.kind with
                    | .struct _ => .newArr ie.size false (List.replicate n.toNat (.agg z)) []
                    | .other => .stuck
                    | _ => match z with
                      | [z1] => .newArr ie.size false (List.replicate n.toNat z1) []
                      | _ => .stuck)
                  | false => .stuck
                | none => .stuck
              | none => .stuck
            | _ => .stuck
          | _ => .stuck
        | none => .stuck
      | _ => .stuck
    | none => .stuck
  | .slice t x lo hi mx => match mx with
    | none => match st.ev x with
      | some v => match lo with
        | none => match hi with
          | none => sliceV T st t v none none
          | some h => match st.ev h with | some hv => sliceV T st t v none (some hv) | none => .stuck
        | some l => match st.ev l with
          | some lv => match hi with
            | none => sliceV T st t v (some lv) none
            | some h => match st.ev h with | some hv => sliceV T st t v (some lv) (some hv) | none => .stuck
          | none => .stuck
      | none => .stuck
    | some m => match st.ev x with
      | some v => match lo with
        | none => match hi with
          | some h => match isSlice v && isZero (st.ev h) && isZero (st.ev m) with | true => sliceNil T t | false => .stuck
          | none => .stuck
        | some _ => .stuck
      | none => .stuck
  | .fieldAddr t x f => match T[t]? with
    | some i => match i.field f with
      | some (off, _, fsz) => match Nat.blt 0 fsz with
        | true => match st.ev x with
          | some (.ptr k o) => .val (.ptr k (o + off))
          | some (.eptr k s j o) => .val (.eptr k s j (o + off))
          | some (.rd cs) => match drop off cs with | some (c :: l) => .val (.rd (c :: l)) | _ => .stuck
          | _ => .stuck
        | false => .stuck
      | none => .stuck
    | none => .stuck
  | .field t x f => match T[t]? with
    | some i => match i.field f with
      | some (off, ft, _) => match T[ft]? with
        | some fi => match st.ev x with
          | some v => match v.parts with
            | some cs => match drop off cs with | some l => loadAs fi l | none => .stuck
            | none => .stuck
          | none => .stuck
        | none => .stuck
      | none => .stuck
    | none => .stuck
  | .indexAddr t x j => match T[t]? with
    | some i => match i.kind with
      | .slice e => match T[e]? with
        | some ie => match st.ev j with
          | some (.d (.i _ n)) => match st.ev x with
            | some (.d (.sl false xs)) => .need (0 ≤ n) (.get xs n.toNat fun x => match Nat.beq x.cells.length ie.size with | true => .val (.rd x.cells) | false => .stuck)
            | some (.own k) => match look k st.obj with
              | some (.arr sz _ xs) => match Nat.beq sz ie.size with
                | true => .need (0 ≤ n ∧ n < xs.length) (.val (.eptr k sz n.toNat 0))
                | false => .stuck
              | some (.opn sz xs _) => match Nat.beq sz ie.size with
                | true => .need (0 ≤ n ∧ n < xs.length) (.val (.eptr k sz n.toNat 0))
                | false => .stuck
              | _ => .stuck
            | some (.win k s lo hi) => match Nat.beq s ie.size with
              | true => .need ((0 ≤ n ∧ n.toNat < hi - lo) ∧ 0 < ie.size) (.val (.eptr k s (lo + n.toNat) 0))
              | false => .stuck
            | _ => .stuck
          | _ => .stuck
        | none => .stuck
      | _ => .stuck
    | none => .stuck
  | .index t x j => match T[t]? with
    | some i => match i.kind with
      | .str => match st.ev x with
        | some (.d (.s l)) => match st.ev j with
          | some (.d (.i _ n)) => .need (0 ≤ n ∧ n < l.length) (.val (.d (.i .u8 (l.getD n.toNat 0).toNat)))
          | _ => .stuck
        | _ => .stuck
      | _ => .stuck
    | none => .stuck
  | .extract t ix => match st.ev t with
    | some (.tup vs) => match vs[ix]? with | some v => .val v | none => .stuck
    | _ => .stuck
  | .call c => match c.callee with
    | .builtin b => builtinC T st b c.argTypes.toList c.args.toList
    | .value f => match st.ev f with
      | some (.fn g caps) => match st.evs c.args.toList with
        | some vs => .call g (vs ++ caps)
        | none => .stuck
      | _ => .stuck
    | _ => .stuck
  | .makeMap t r => match r with
    | none => match isMapS T t with | true => .newMp | false => .stuck
    | some _ => .stuck
  | .mapUpdate t m x y => match isMapS T t with
    | true => match mapOf st m with
      | some (k, es) => match st.ev x with
        | some (.d (.s l)) => match st.ev y with
          | some (.d v) => match findE l es with | none => .upd k (.mp (es ++ [(l, v)])) (.tup []) | some _ => .stuck
          | _ => .stuck
        | _ => .stuck
      | none => .stuck
    | false => .stuck
  | .lookup t m x ok => match isMapS T t with
    | true => match ok with
      | false => match mapOf st m with
        | some (_, es) => match st.ev x with
          | some (.d (.s l)) => match findE l es with | some v => .val (.d v) | none => .stuck
          | _ => .stuck
        | none => .stuck
      | true => .stuck
    | false => .stuck
  | _ => .stuck
def kindOf (P : Program) (t : TypeId) : TK :=
  match P.underlying t with
  | some .bool => .bool
  | some (.int k) => .int k
  | some .string => .str
  | some (.slice e) => .slice e
  | some (.struct fs) => if fs.toList.all (fun f => (P.info? f.type).isSome) = true then .struct (fs.toList.map fun f => (f.offset, f.type, P.cellsOf f.type)) else .other
  | some (.pointer e) => .ptr e
  | some (.map k e) => .map k e
  | _ => .other
def constsOf : List Value → Option (List AV)
  | [] => some []
  | v :: r => match ofConst v with
    | some x => match constsOf r with | some l => some (x :: l) | none => none
    | none => none
def fieldKinds (P : Program) (f : TypeId → Option (List FK)) : List Field → Nat → Option (List FK)
  | [], _ => some []
  | x :: r, off => if x.offset = off ∧ x.name ≠ "_" then (f x.type).bind fun k => (fieldKinds P f r (off + P.cellsOf x.type)).map fun l => k ++ l else none
def flatKinds (P : Program) : Nat → TypeId → Option (List FK)
  | 0, _ => none
  | d + 1, t => match P.underlying t with
    | some .bool => if P.cellsOf t = 1 then some [.bool] else none
    | some (.int k) => if P.cellsOf t = 1 then some [.int k] else none
    | some .string => if P.cellsOf t = 1 then some [.str] else none
    | some (.struct fs) => if P.stoodInHeld t = true then none else
        (fieldKinds P (flatKinds P d) fs.toList 0).bind fun l => if l.length = P.cellsOf t then some l else none
    | _ => none
def tdOf (P : Program) (t : TypeId) : TD :=
  { kind := kindOf P t, size := P.cellsOf t, bytes := P.bytesOf t
    zero := ((P.info? t).bind (·.zero)).bind fun z => constsOf z.cells.toList
    eq := if P.eqGuardType P.depth t = true then none else flatKinds P 20 t }
def TOk (P : Program) (T : List TD) : Prop := ∀ (t : Nat) (i : TD), T[t]? = some i → i = tdOf P t
theorem tok_of {P : Program} {T : List TD} {n : Nat} (h : T = (List.range n).map (tdOf P)) : TOk P T := by
  intro t i hi
  rw [h, List.getElem?_map] at hi
  cases hr : (List.range n)[t]? with
  | none => rw [hr] at hi; cases hi
  | some j =>
    rw [hr] at hi
    have : j = t := by
      rw [List.getElem?_eq_some_iff] at hr
      obtain ⟨h1, h2⟩ := hr
      rw [List.getElem_range] at h2; exact h2.symm
    subst this
    exact (Option.some.inj hi).symm
end Go.Pm
namespace Go.Pm
open Go
def Plain (w : World) (b n : Nat) : Prop := ∃ cs t, w.heap[b]? = some (.cells cs t (0, 0)) ∧ cs.size = n
mutual
def D.rep (w : World) (X : Nat → Prop) : D → Value → List Nat → Prop
  | .b x, v, bs => v = .bool x ∧ bs = []
  | .i k n, v, bs => v = .int k n ∧ bs = []
  | .s l, v, bs => v = .string ⟨l.toArray⟩ ∧ bs = []
  | .agg cs, v, bs => ∃ vs, v = .agg vs ∧ repL w X cs vs.toList bs
  | .sl u xs, v, bs => u = false ∧ bs = [] ∧ ∃ a cap, v = .slice a xs.length cap ∧ xs.length ≤ cap ∧
      (xs = [] ∨ ∃ b off sz, xs ≠ [] ∧ a = some ⟨b, off, none⟩ ∧ 0 < sz ∧ repRows w X b sz xs off [] ∧ ¬ X b)
  | .os sz deep xs, v, bs => 0 < sz ∧ ∃ a cap, v = .slice a xs.length cap ∧ xs.length ≤ cap ∧
      ((xs = [] ∧ cap = 0 ∧ bs = []) ∨ ∃ b bs', a = some ⟨b, 0, none⟩ ∧ Plain w b (cap * sz) ∧ repRows w X b sz xs 0 bs' ∧ bs = b :: bs' ∧ (deep = false → bs' = []))
  | .junk, v, bs => v.oneCell' = true ∧ bs = []
def repL (w : World) (X : Nat → Prop) : List D → List Value → List Nat → Prop
  | [], vs, bs => vs = [] ∧ bs = []
  | x :: xs, vs, bs => ∃ v vs' b1 b2, vs = v :: vs' ∧ bs = b1 ++ b2 ∧ D.rep w X x v b1 ∧ repL w X xs vs' b2
def repRows (w : World) (X : Nat → Prop) (b sz : Nat) : List D → Nat → List Nat → Prop
  | [], _, bs => bs = []
  | x :: xs, off, bs => ∃ v b1 b2, bs = b1 ++ b2 ∧ D.rep w X x v b1 ∧ v.cells.size = sz ∧ (x.cells.length = sz ∧ ∀ u ∈ v.cells.toList, u.oneCell' = true) ∧ w.rangeAt b off v.cells.toList ∧ repRows w X b sz xs (off + sz) b2
end
def mpRep (w : World) (X : Nat → Prop) : List (List UInt8 × D) → List MapEntry → Prop
  | [], l => l = []
  | (k, x) :: r, l => ∃ e l', l = e :: l' ∧ e.key = .string ⟨k.toArray⟩ ∧ x.rep w X e.val [] ∧ mpRep w X r l'
structure Place where
  blk : Nat
  nest : List Nat
  v : Value
  hd : Bool
def Place.fp (p : Place) : List Nat := match p.hd with | true => p.blk :: p.nest | false => []
mutual
def AV.rep (w : World) (X : Nat → Prop) (J : Nat → Option Place) : AV → Value → Prop
  | .d x, v => x.rep w X v []
  | .c u, v => v = u ∧ u.oneCell' = true
  | .snil, v => v = .slice none 0 0
  | .agg cs, v => ∃ vs, v = .agg vs ∧ AV.repL w X J cs vs.toList
  | .tup cs, v => ∃ vs, v = .tuple vs ∧ AV.repL w X J cs vs.toList
  | .ptr k off, v => ∃ p, J k = some p ∧ v = .pointer (some ⟨p.blk, off, none⟩)
  | .eptr k sz i off, v => ∃ p, J k = some p ∧ v = .pointer (some ⟨p.blk, i * sz + off, none⟩)
  | .own k, v => ∃ p, J k = some p ∧ v = p.v ∧ p.v.oneCell' = true
  | .win k sz lo hi, v => ∃ p a0 n0 c0 a c, J k = some p ∧ p.v = .slice a0 n0 c0 ∧ lo ≤ hi ∧ hi ≤ n0 ∧ n0 ≤ c0 ∧ v = .slice a (hi - lo) c ∧ hi - lo ≤ c ∧ (lo < hi → a0 = some ⟨p.blk, 0, none⟩ ∧ a = some ⟨p.blk, lo * sz, none⟩)
  | .rd cs, v => ∃ b off vs, v = .pointer (some ⟨b, off, none⟩) ∧ vs ≠ [] ∧ ¬ X b ∧ Go.Pm.repL w X cs vs [] ∧ w.rangeAt b off vs
  | .fn g caps, v => ∃ cs, v = .func (.func g) #[] cs ∧ AV.repL w X J caps cs.toList
  | .bot, v => v.oneCell' = true
def AV.repL (w : World) (X : Nat → Prop) (J : Nat → Option Place) : List AV → List Value → Prop
  | [], vs => vs = []
  | x :: xs, vs => ∃ v vs', vs = v :: vs' ∧ AV.rep w X J x v ∧ AV.repL w X J xs vs'
end
def Ob.rep (w : World) (X : Nat → Prop) (J : Nat → Option Place) (p : Place) : Ob → Prop
  | .var cells => p.hd = true ∧ p.nest = [] ∧ ∃ cs t, w.heap[p.blk]? = some (.cells cs t (0, 0)) ∧ AV.repL w X J cells cs.toList
  | .arr sz deep xs => 0 < sz ∧ ∃ a cap, p.v = .slice a xs.length cap ∧ xs.length ≤ cap ∧
      ((p.hd = false ∧ xs = [] ∧ cap = 0) ∨ (p.hd = true ∧ a = some ⟨p.blk, 0, none⟩ ∧ Plain w p.blk (cap * sz) ∧ repRows w X p.blk sz xs 0 p.nest ∧ (deep = false → p.nest = [])))
  | .bld t e l => p.hd = true ∧ ∃ q v, (q = .pointer none ∨ q = .pointer (some ⟨p.blk, 0, none⟩)) ∧ w.heap[p.blk]? = some (.cells #[q, v] t (0, 0)) ∧ w.ownsRowF 0 e 1 v l.length (Lib.byteCells l) ∧ p.nest = v.ownBlock.toList
  | .mp es => p.hd = true ∧ p.nest = [] ∧ p.v = .map (some p.blk) ∧ ∃ ents clock, w.heap[p.blk]? = some (.map ents clock) ∧ mpRep w X es ents.toList
  | .opn sz xs els => 0 < sz ∧ ∃ cap, p.v = .slice (some ⟨p.blk, 0, none⟩) xs.length cap ∧ xs.length ≤ cap ∧ p.hd = true ∧ Plain w p.blk (cap * sz) ∧ repRows w X p.blk sz (baseXs xs els) 0 p.nest ∧
      (els.map (·.i)).Nodup ∧ ∀ e ∈ els, (e.i < xs.length ∧ e.cells.length = sz ∧ (e.ag = false → sz = 1) ∧ allOneD (ocD e.cells) = true) ∧ ∀ (c key : Nat), e.cells[c]? = some (.k key) → ∃ q, J key = some q ∧ w.cell? ⟨p.blk, e.i * sz + c, none⟩ = some q.v ∧ q.v.oneCell' = true
  | .gone => p.hd = false
def Xof (X0 : Nat → Prop) (J : Nat → Option Place) (b : Nat) : Prop := X0 b ∨ ∃ k p, J k = some p ∧ b ∈ p.fp
structure Mem (X0 : Nat → Prop) (J : Nat → Option Place) (obj : Nat → Option Ob) (w : World) : Prop where
  ob : ∀ k o, obj k = some o → ∃ p, J k = some p ∧ o.rep w (Xof X0 J) J p
  dom : ∀ k p, J k = some p → ∃ o, obj k = some o
  sep : ∀ k k' p p', J k = some p → J k' = some p' → k ≠ k' → ∀ b, b ∈ p.fp → b ∈ p'.fp → False
  nd : ∀ k p, J k = some p → p.fp.Nodup
  x0 : ∀ b, X0 b → b < w.heap.size ∧ ∀ k p, J k = some p → b ∉ p.fp
structure Rel (X0 : Nat → Prop) (J : Nat → Option Place) (st : St) (a : Act) (w : World) : Prop where
  env : ∀ t v, look t st.env = some v → ∃ u, a.tmps[t]? = some u ∧ v.rep w (Xof X0 J) J u
  mem : Mem X0 J (look · st.obj) w
  defers : a.defers = []
structure Kept (F : Nat → Prop) (w w' : World) : Prop where
  os : w'.os = w.os
  tape : w'.tape = w.tape
  output : w'.output = w.output
  size : w.heap.size ≤ w'.heap.size
  block : ∀ b, b < w.heap.size → ¬ F b → w'.heap[b]? = w.heap[b]?
def Place.like (p q : Place) : Prop := q.blk = p.blk ∧ q.v = p.v
def Enters (P : Program) (f : FuncId) : Prop := ∃ fn, P.funcs[f]? = some fn ∧ (fn.name == "runtime.NumGoroutine") = false ∧ fn.body.isNone = false
def Fps (J : Nat → Option Place) (b : Nat) : Prop := ∃ k p, J k = some p ∧ b ∈ p.fp
structure EntQ (P : Program) (f : FuncId) (args : List AV) (objs : List Ob) (Q : AV → List Ob → Prop) : Prop where
  enters : Enters P f
  calls : ∀ (X0 : Nat → Prop) (J : Nat → Option Place) (w : World) (vs : Array Value),
    AV.repL w (Xof X0 J) J args vs.toList → Mem X0 J (objs[·]?) w →
    Calls P f vs w fun e w' => ∃ R O v J', Q R O ∧ e = .returned v ∧ R.rep w' (Xof X0 J') J' v ∧ Mem X0 J' (O[·]?) w' ∧ Kept (Fps J) w w' ∧
      (∀ k p b, J' k = some p → b ∈ p.fp → Fps J b ∨ w.heap.size ≤ b) ∧ ∀ k p, J k = some p → ∃ p', J' k = some p' ∧ p.like p'
def Ent (P : Program) (f : FuncId) (args : List AV) (objs : List Ob) (R : AV) (O : List Ob) : Prop := EntQ P f args objs fun R' O' => R' = R ∧ O' = O
mutual
def D.flat : D → Bool
  | .sl _ [] => true
  | .sl _ (_ :: _) => false
  | .os .. => false
  | .agg cs => flatL cs
  | _ => true
def flatL : List D → Bool
  | [] => true
  | x :: r => match x.flat with | true => flatL r | false => false
end
mutual
def D.loose : D → Bool
  | .sl _ [] => true
  | .sl _ (_ :: _) => false
  | .os _ _ xs => looseL xs
  | .agg cs => looseL cs
  | _ => true
def looseL : List D → Bool
  | [] => true
  | x :: r => match x.loose with | true => looseL r | false => false
end
mutual
def AV.flat : AV → Bool
  | .d x => x.flat
  | .c _ => true
  | .tup vs => flatV vs
  | _ => false
def flatV : List AV → Bool
  | [] => true
  | x :: r => match x.flat with | true => flatV r | false => false
end
def inside : List Nat → List Nat → Bool
  | [], _ => true
  | k :: r, ks => match has k ks with | true => inside r ks | false => false
mutual
def AV.frz (σ : Nat → Option Ob) (ks : List Nat) : AV → AV
  | .own k => match has k ks with
    | true => match (AV.own k).show σ with | some (x, _) => .d x | none => .bot
    | false => .own k
  | .win k s lo hi => match has k ks with
    | true => match (AV.win k s lo hi).show σ with | some (x, _) => .d x | none => .bot
    | false => .win k s lo hi
  | .ptr k o => match has k ks with
    | true => match σ k with
      | some (.var cells) => match drop o cells with
        | some tl => match showL σ tl with
          | some (c :: cs, bs) => match inside bs ks with | true => .rd (c :: cs) | false => .bot
          | _ => .bot
        | none => .bot
      | _ => .bot
    | false => .ptr k o
  | .eptr k s i o => match has k ks with | true => .bot | false => .eptr k s i o
  | .agg cs => .agg (frzL σ ks cs)
  | .tup vs => .tup (frzL σ ks vs)
  | .fn g caps => .fn g (frzL σ ks caps)
  | v => v
def frzL (σ : Nat → Option Ob) (ks : List Nat) : List AV → List AV
  | [] => []
  | v :: r => v.frz σ ks :: frzL σ ks r
end
def Ob.frz (σ : Nat → Option Ob) (ks : List Nat) : Ob → Ob
  | .var cells => .var (frzL σ ks cells)
  | .arr s u xs => .arr s u xs
  | .bld t e l => .bld t e l
  | .mp es => .mp es
  | .opn s xs els => .opn s xs (renEls (without ks) els)
  | .gone => .gone
def frzEnv (σ : Nat → Option Ob) (ks : List Nat) : List (Nat × AV) → List (Nat × AV)
  | [] => []
  | (t, v) :: r => (t, v.frz σ ks) :: frzEnv σ ks r
def frzObj (σ : Nat → Option Ob) (ks : List Nat) : List (Nat × Ob) → List (Nat × Ob)
  | [] => []
  | (k, o) :: r => match has k ks with | true => frzObj σ ks r | false => (k, o.frz σ ks) :: frzObj σ ks r
def St.frz (st : St) (ks : List Nat) : St := { env := frzEnv (look · st.obj) ks st.env, obj := frzObj (look · st.obj) ks st.obj }
def lend (σ : Nat → Option Ob) : List AV → List AV × List Nat
  | [] => ([], [])
  | v :: r => match lend σ r with
    | (l, ks) => match v.show σ with | some (x, k1) => (.d x :: l, k1 ++ ks) | none => (v :: l, ks)
def addNew : List Nat → List Nat → List Nat
  | [], acc => acc
  | k :: r, acc => match has k acc with | true => addNew r acc | false => addNew r (acc ++ [k])
def reachN (σ : Nat → Option Ob) : Nat → List Nat → List Nat → List Nat
  | 0, _, acc => acc
  | _ + 1, [], acc => acc
  | n + 1, k :: todo, acc => match has k acc with
    | true => reachN σ n todo acc
    | false => match σ k with
      | some o => reachN σ n (o.refs ++ todo) (acc ++ [k])
      | none => reachN σ n todo (acc ++ [k])
def idx (k : Nat) : List Nat → Nat → Option Nat
  | [], _ => none
  | j :: r, i => match Nat.beq j k with | true => some i | false => idx k r (i + 1)
def pickObs (σ : Nat → Option Ob) (f : Nat → Option Nat) : List Nat → Option (List Ob)
  | [] => some []
  | k :: r => match σ k with
    | some o => match pickObs σ f r with | some l => some (o.ren f :: l) | none => none
    | none => none
def nameOf (ks : List Nat) (d i : Nat) : Option Nat := match ks[i]? with | some k => some k | none => some (10000 * (i - ks.length + 1) + d)
def setAll (st : St) (g : Nat → Option Nat) : Nat → List Ob → St
  | _, [] => st
  | i, o :: r => match g i with
    | some k => setAll (st.set k (o.ren g)) g (i + 1) r
    | none => st
def freshOk (obj : List (Nat × Ob)) (ks : List Nat) (d : Nat) : Nat → Nat → Bool
  | _, 0 => true
  | i, n + 1 => match look (10000 * (i + 1) + d) obj with | none => freshOk obj ks d (i + 1) n | some _ => false
mutual
def AV.loose : AV → Bool
  | .d x => x.flat
  | .rd _ => false
  | .agg vs => looseV vs
  | .tup vs => looseV vs
  | .fn _ vs => looseV vs
  | _ => true
def looseV : List AV → Bool
  | [] => true
  | x :: r => match x.loose with | true => looseV r | false => false
end
def flatObs : List Ob → Bool
  | [] => true
  | .var cells :: r => match looseV cells with | true => flatObs r | false => false
  | .arr _ _ xs :: r => match looseL xs with | true => flatObs r | false => false
  | .bld .. :: r => flatObs r
  | .mp _ :: _ => false
  | .opn .. :: _ => false
  | .gone :: r => flatObs r
def apart : List Nat → List Nat → Bool
  | [], _ => true
  | k :: r, ks => match has k ks with | true => false | false => apart r ks
def AV.force (v : AV) (K : AV → Prop) : Prop := match v with
  | .d x => K (.d x)
  | .c u => K (.c u)
  | .snil => K .snil
  | .agg cs => K (.agg cs)
  | .tup vs => K (.tup vs)
  | .ptr k o => K (.ptr k o)
  | .eptr k s i o => K (.eptr k s i o)
  | .own k => K (.own k)
  | .win k s lo hi => K (.win k s lo hi)
  | .rd cs => K (.rd cs)
  | .fn g caps => K (.fn g caps)
  | .bot => K .bot
theorem AV.force_eq (v : AV) (K : AV → Prop) : v.force K = K v := by cases v <;> rfl
def forceL : List AV → (List AV → Prop) → Prop
  | [], K => K []
  | v :: r, K => v.force fun v' => forceL r fun r' => K (v' :: r')
theorem forceL_eq : ∀ (l : List AV) (K : List AV → Prop), forceL l K = K l
  | [], K => rfl
  | v :: r, K => by simp only [forceL, AV.force_eq, forceL_eq r]
def OC.force (c : OC) (K : OC → Prop) : Prop := match c with | .d x => K (.d x) | .k n => K (.k n)
theorem OC.force_eq (c : OC) (K : OC → Prop) : c.force K = K c := by cases c <;> rfl
def forceC : List OC → (List OC → Prop) → Prop
  | [], K => K []
  | c :: r, K => c.force fun c' => forceC r fun r' => K (c' :: r')
theorem forceC_eq : ∀ (l : List OC) (K : List OC → Prop), forceC l K = K l
  | [], K => rfl
  | v :: r, K => by simp only [forceC, OC.force_eq, forceC_eq r]
def forceB (b : Bool) (K : Bool → Prop) : Prop := match b with | true => K true | false => K false
theorem forceB_eq (b : Bool) (K : Bool → Prop) : forceB b K = K b := by cases b <;> rfl
def forceE : List OE → (List OE → Prop) → Prop
  | [], K => K []
  | e :: r, K => forceB e.ag fun ag => forceC e.cells fun cs => forceE r fun r' => K (⟨e.i, ag, cs⟩ :: r')
theorem forceE_eq : ∀ (l : List OE) (K : List OE → Prop), forceE l K = K l
  | [], K => rfl
  | v :: r, K => by simp only [forceE, forceB_eq, forceC_eq, forceE_eq r]
def Ob.force (o : Ob) (K : Ob → Prop) : Prop := match o with
  | .var cells => forceL cells fun c => K (.var c)
  | .arr s dp xs => K (.arr s dp xs)
  | .bld t e l => K (.bld t e l)
  | .mp es => K (.mp es)
  | .opn s xs els => forceE els fun els' => K (.opn s xs els')
  | .gone => K .gone
theorem Ob.force_eq (o : Ob) (K : Ob → Prop) : o.force K = K o := by cases o <;> simp only [Ob.force, forceL_eq, forceE_eq]
def forceEnv : List (Nat × AV) → (List (Nat × AV) → Prop) → Prop
  | [], K => K []
  | (n, v) :: r, K => v.force fun v' => forceEnv r fun r' => K ((n, v') :: r')
theorem forceEnv_eq : ∀ (l : List (Nat × AV)) (K : List (Nat × AV) → Prop), forceEnv l K = K l
  | [], K => rfl
  | (n, v) :: r, K => by simp only [forceEnv, AV.force_eq, forceEnv_eq r]
def forceObj : List (Nat × Ob) → (List (Nat × Ob) → Prop) → Prop
  | [], K => K []
  | (n, v) :: r, K => v.force fun v' => forceObj r fun r' => K ((n, v') :: r')
theorem forceObj_eq : ∀ (l : List (Nat × Ob)) (K : List (Nat × Ob) → Prop), forceObj l K = K l
  | [], K => rfl
  | (n, v) :: r, K => by simp only [forceObj, Ob.force_eq, forceObj_eq r]
def St.force (st : St) (K : St → Prop) : Prop := forceEnv st.env fun e => forceObj st.obj fun o => K ⟨e, o⟩
theorem St.force_eq (st : St) (K : St → Prop) : st.force K = K st := by simp only [St.force, forceEnv_eq, forceObj_eq]
def St.news (st : St) : List (Nat × Ob) → St
  | [] => st
  | (k, ob) :: r => (st.news r).set k ob
section
variable (P : Program) (cx : Cx)
def after (st : St) (ks : List Nat) (d : Nat) (O : List Ob) (R : AV) : St := (setAll st (nameOf ks d) 0 O).put (some d) (R.ren (nameOf ks d))
def forceN : List Nat → (List Nat → Prop) → Prop
  | [], K => K []
  | k :: r, K => forceN r fun r' => K (k :: r')
theorem forceN_eq : ∀ (l : List Nat) (K : List Nat → Prop), forceN l K = K l
  | [], K => rfl
  | k :: r, K => by simp only [forceN, forceN_eq r]
def evCallIn (f : FuncId) (args : List AV) (bs : List Nat) (d : Nat) (st : St) (K : St → Prop) : Prop :=
  forceN (reachN (look · st.obj) 50 (refsL args) []) fun ks =>
    match nodup ks && apart bs ks && bigs bs && inside (refsL args) ks with
    | false => False
    | true => match pickObs (look · st.obj) (idx · ks 0) ks with
      | none => False
      | some objs => ∃ Q, EntQ P f (renL (idx · ks 0) args) objs Q ∧ ∀ R O, Q R O →
        (match Nat.ble ks.length O.length && freshOk st.obj ks d 0 (O.length - ks.length) with
        | false => False
        | true => match bs with
          | [] => K (after st ks d O R)
          | _ => match R.loose && flatObs O with
            | true => K (after st ks d O R)
            | false => K (after (st.frz bs) ks d O R))
def evRo (σ : Nat → Option Ob) : List AV → (List AV → List Nat → Prop) → Prop
  | [], K => K [] []
  | .ptr k off :: r, K => match σ k with
    | some (.var cells) => match drop off cells with
      | some tl => match showL σ tl with
        | some (c :: cs, ks) => evRo σ r fun l bs => K (.rd (c :: cs) :: l) (k :: (ks ++ bs))
        | _ => False
      | none => False
    | _ => False
  | .eptr k s j off :: r, K => match σ k with
    | some (.arr sz _ xs) => match Nat.beq s sz with
      | true => ∃ x, xs[j]? = some x ∧ match drop off x.erase.cells with
        | some (c :: cs) => evRo σ r fun l bs => K (.rd (c :: cs) :: l) (k :: bs)
        | _ => False
      | false => False
    | _ => False
  | v :: r, K => match v.show σ with
    | some (x, k1) => evRo σ r fun l bs => K (.d x :: l) (k1 ++ bs)
    | none => evRo σ r fun l bs => K (v :: l) bs
def evCall (f : FuncId) (vs : List AV) (dst : Option Nat) (st : St) (K : St → Prop) : Prop :=
  match dst with
  | none => False
  | some d => match has (1000000 + f) cx.mu with
    | true => evRo (look · st.obj) vs fun args bs => evCallIn P f args bs d st K
    | false => match has f cx.mu with
      | true => evCallIn P f vs [] d st K
      | false => match lend (look · st.obj) vs with | (args, bs) => evCallIn P f args bs d st K
def evCmd : Option Nat → Cmd → St → (St → Prop) → Prop
  | _, .stuck, _, _ => False
  | dst, .val v, st, K => K (st.put dst v)
  | dst, .need p c, st, K => p ∧ evCmd dst c st K
  | dst, .get xs i f, st, K => ∃ x, xs[i]? = some x ∧ evCmd dst (f x) st K
  | dst, .str xs, st, K => ∃ l, xs = u8s l ∧ K (st.put dst (.d (.s l)))
  | dst, .newVar ob, st, K => match dst with
    | some d => match look (10000 + d) st.obj with
      | none => K ((st.set (10000 + d) ob).put (some d) (.ptr (10000 + d) 0))
      | some _ => False
    | none => False
  | dst, .newArr sz deep xs ks, st, K => match litAt cx dst with
    | true => (match deep with
      | true => False
      | false => match ks with
        | [] => K (st.put dst (.d (.sl false xs)))
        | _ :: _ => False)
    | false => match dst with
    | some d => match look (10000 + d) st.obj with
      | none => match ks with
        | [] => K ((st.set (10000 + d) (.arr sz deep xs)).put (some d) (.own (10000 + d)))
        | k :: ks => match bigs (k :: ks) with
          | false => False
          | true => K (((st.ren (without ((10000 + d) :: k :: ks))).set (10000 + d) (.arr sz deep xs)).put (some d) (.own (10000 + d)))
      | some _ => False
    | none => False
  | dst, .app k sz deep xs ks, st, K => match bigs (k :: ks) with
    | true => K (((st.ren (without (k :: ks))).set k (.arr sz deep xs)).put dst (.own k))
    | false => False
  | dst, .upd k o v, st, K => K ((st.set k o).put dst v)
  | dst, .call f vs, st, K => evCall P cx f vs dst st K
  | dst, .alt a b, st, K => evCmd dst a st K ∨ evCmd dst b st K
  | dst, .newNil sz deep, st, K => match dst with
    | some d => match look (10000 + d) st.obj with
      | none => K ((st.set (10000 + d) (.arr sz deep [])).put (some d) (.own (10000 + d)))
      | some _ => False
    | none => False
  | dst, .opens k ob news c, st, K => match freshAll st.obj news with
    | true => evCmd dst c ((st.news news).set k ob) K
    | false => False
  | dst, .put k ob ks, st, K => match bigs ks with
    | true => K (((st.ren (without ks)).set k ob).put dst (.tup []))
    | false => False
  | dst, .bit p, st, K => ∀ b : Bool, (b = true → p) → K (st.put dst (.d (.b b)))
  | dst, .newMp, st, K => match dst with
    | some d => match look (10000 + d) st.obj with
      | none => K ((st.set (10000 + d) (.mp [])).put (some d) (.own (10000 + d)))
      | some _ => False
    | none => False
def evStep (rc : Option Nat → Cmd → St → (St → Prop) → Prop) : Option Nat → Cmd → St → (St → Prop) → Prop
  | _, .stuck, _, _ => False
  | dst, .val v, st, K => K (st.put dst v)
  | dst, .need p c, st, K => p ∧ rc dst c st K
  | dst, .get xs i f, st, K => ∃ x, xs[i]? = some x ∧ rc dst (f x) st K
  | dst, .str xs, st, K => ∃ l, xs = u8s l ∧ K (st.put dst (.d (.s l)))
  | dst, .newVar ob, st, K => match dst with
    | some d => match look (10000 + d) st.obj with
      | none => K ((st.set (10000 + d) ob).put (some d) (.ptr (10000 + d) 0))
      | some _ => False
    | none => False
  | dst, .newArr sz deep xs ks, st, K => match litAt cx dst with
    | true => (match deep with
      | true => False
      | false => match ks with
        | [] => K (st.put dst (.d (.sl false xs)))
        | _ :: _ => False)
    | false => match dst with
    | some d => match look (10000 + d) st.obj with
      | none => match ks with
        | [] => K ((st.set (10000 + d) (.arr sz deep xs)).put (some d) (.own (10000 + d)))
        | k :: ks => match bigs (k :: ks) with
          | false => False
          | true => K (((st.ren (without ((10000 + d) :: k :: ks))).set (10000 + d) (.arr sz deep xs)).put (some d) (.own (10000 + d)))
      | some _ => False
    | none => False
  | dst, .app k sz deep xs ks, st, K => match bigs (k :: ks) with
    | true => K (((st.ren (without (k :: ks))).set k (.arr sz deep xs)).put dst (.own k))
    | false => False
  | dst, .upd k o v, st, K => K ((st.set k o).put dst v)
  | dst, .call f vs, st, K => evCall P cx f vs dst st K
  | dst, .alt a b, st, K => rc dst a st K ∨ rc dst b st K
  | dst, .newNil sz deep, st, K => match dst with
    | some d => match look (10000 + d) st.obj with
      | none => K ((st.set (10000 + d) (.arr sz deep [])).put (some d) (.own (10000 + d)))
      | some _ => False
    | none => False
  | dst, .opens k ob news c, st, K => match freshAll st.obj news with
    | true => rc dst c ((st.news news).set k ob) K
    | false => False
  | dst, .put k ob ks, st, K => match bigs ks with
    | true => K (((st.ren (without ks)).set k ob).put dst (.tup []))
    | false => False
  | dst, .bit p, st, K => ∀ b : Bool, (b = true → p) → K (st.put dst (.d (.b b)))
  | dst, .newMp, st, K => match dst with
    | some d => match look (10000 + d) st.obj with
      | none => K ((st.set (10000 + d) (.mp [])).put (some d) (.own (10000 + d)))
      | some _ => False
    | none => False
def ev0 : Option Nat → Cmd → St → (St → Prop) → Prop := evStep P cx fun _ _ _ _ => False
def ev1 : Option Nat → Cmd → St → (St → Prop) → Prop := evStep P cx (ev0 P cx)
def ev2 : Option Nat → Cmd → St → (St → Prop) → Prop := evStep P cx (ev1 P cx)
def ev3 : Option Nat → Cmd → St → (St → Prop) → Prop := evStep P cx (ev2 P cx)
def ev4 : Option Nat → Cmd → St → (St → Prop) → Prop := evStep P cx (ev3 P cx)
def ev5 : Option Nat → Cmd → St → (St → Prop) → Prop := evStep P cx (ev4 P cx)
def ev6 : Option Nat → Cmd → St → (St → Prop) → Prop := evStep P cx (ev5 P cx)
def ev7 : Option Nat → Cmd → St → (St → Prop) → Prop := evStep P cx (ev6 P cx)
def ev8 : Option Nat → Cmd → St → (St → Prop) → Prop := evStep P cx (ev7 P cx)
def ev9 : Option Nat → Cmd → St → (St → Prop) → Prop := evStep P cx (ev8 P cx)
def ev10 : Option Nat → Cmd → St → (St → Prop) → Prop := evStep P cx (ev9 P cx)
def ev11 : Option Nat → Cmd → St → (St → Prop) → Prop := evStep P cx (ev10 P cx)
def ev12 : Option Nat → Cmd → St → (St → Prop) → Prop := evStep P cx (ev11 P cx)
def ev13 : Option Nat → Cmd → St → (St → Prop) → Prop := evStep P cx (ev12 P cx)
def ev14 : Option Nat → Cmd → St → (St → Prop) → Prop := evStep P cx (ev13 P cx)
def ev15 : Option Nat → Cmd → St → (St → Prop) → Prop := evStep P cx (ev14 P cx)
def ev16 : Option Nat → Cmd → St → (St → Prop) → Prop := evStep P cx (ev15 P cx)
def wholeFor (o : Oper) (st : St) : List Nat :=
  match o.op with
  | .call c => match c.callee with
    | .builtin .len => []
    | .builtin _ => match st.evs c.args.toList with | some vs => refsL vs | none => []
    | .value f => match st.ev f, st.evs c.args.toList with
      | some v, some vs => reachN (look · st.obj) 50 (v.refs ++ refsL vs) []
      | _, _ => []
    | _ => []
  | .slice _ x _ _ _ => match st.ev x with | some v => v.refs | none => []
  | _ => []
def asksWhole : Op → Bool
  | .call c => match c.callee with | .builtin .len => false | _ => true
  | .slice .. => true
  | _ => false
def evOp (o : Oper) (st : St) (K : St → Prop) : Prop :=
  match asksWhole o.op with
  | false => ev16 P cx o.dst (opCmd cx.T o st) st K
  | true => match anyOpn st.obj with
    | false => ev16 P cx o.dst (opCmd cx.T o st) st K
    | true => (st.shuts (wholeFor o st)).force fun st' => ev16 P cx o.dst (opCmd cx.T o st') st' K
def evOps (all : List Oper) (K : St → Prop) : List Oper → St → Prop
  | [], st => K st
  | o :: rest, st => match o.guard with
    | none => evOp P cx o st (evOps all K rest)
    | some (j, want) => match all[j]? with
      | some oj => match oj.dst with
        | some t => match look t st.env with
          | some (.d (.b x)) => (match want with
            | true => (match x with
              | true => evOp P cx o st (evOps all K rest)
              | false => evOps all K rest (st.put o.dst (.tup [])))
            | false => (match x with
              | true => evOps all K rest (st.put o.dst (.tup []))
              | false => evOp P cx o st (evOps all K rest)))
          | some (.tup []) => evOps all K rest (st.put o.dst (.tup []))
          | _ => False
        | none => False
      | none => False
end
section
variable {P : Program} {cx : Cx}
theorem evStep_to {rc : Option Nat → Cmd → St → (St → Prop) → Prop} (h : ∀ dst c st K, rc dst c st K → evCmd P cx dst c st K) {dst : Option Nat} {c : Cmd} {st : St} {K : St → Prop} (hc : evStep P cx rc dst c st K) : evCmd P cx dst c st K := by
  cases c with
  | need p c => exact ⟨hc.1, h _ _ _ _ hc.2⟩
  | get xs i f => obtain ⟨x, hx, hc⟩ := hc; exact ⟨x, hx, h _ _ _ _ hc⟩
  | alt a b => exact hc.imp (h _ _ _ _) (h _ _ _ _)
  | opens k ob news c =>
    simp only [evStep] at hc
    simp only [evCmd]
    split at hc
    · exact h _ _ _ _ hc
    · exact hc.elim
  | _ => exact hc
theorem ev0_to (dst : Option Nat) (c : Cmd) (st : St) (K : St → Prop) (hc : ev0 P cx dst c st K) : evCmd P cx dst c st K := evStep_to (fun _ _ _ _ h => h.elim) hc
theorem ev1_to (dst : Option Nat) (c : Cmd) (st : St) (K : St → Prop) (hc : ev1 P cx dst c st K) : evCmd P cx dst c st K := evStep_to ev0_to hc
theorem ev2_to (dst : Option Nat) (c : Cmd) (st : St) (K : St → Prop) (hc : ev2 P cx dst c st K) : evCmd P cx dst c st K := evStep_to ev1_to hc
theorem ev3_to (dst : Option Nat) (c : Cmd) (st : St) (K : St → Prop) (hc : ev3 P cx dst c st K) : evCmd P cx dst c st K := evStep_to ev2_to hc
theorem ev4_to (dst : Option Nat) (c : Cmd) (st : St) (K : St → Prop) (hc : ev4 P cx dst c st K) : evCmd P cx dst c st K := evStep_to ev3_to hc
theorem ev5_to (dst : Option Nat) (c : Cmd) (st : St) (K : St → Prop) (hc : ev5 P cx dst c st K) : evCmd P cx dst c st K := evStep_to ev4_to hc
theorem ev6_to (dst : Option Nat) (c : Cmd) (st : St) (K : St → Prop) (hc : ev6 P cx dst c st K) : evCmd P cx dst c st K := evStep_to ev5_to hc
theorem ev7_to (dst : Option Nat) (c : Cmd) (st : St) (K : St → Prop) (hc : ev7 P cx dst c st K) : evCmd P cx dst c st K := evStep_to ev6_to hc
theorem ev8_to (dst : Option Nat) (c : Cmd) (st : St) (K : St → Prop) (hc : ev8 P cx dst c st K) : evCmd P cx dst c st K := evStep_to ev7_to hc
theorem ev9_to (dst : Option Nat) (c : Cmd) (st : St) (K : St → Prop) (hc : ev9 P cx dst c st K) : evCmd P cx dst c st K := evStep_to ev8_to hc
theorem ev10_to (dst : Option Nat) (c : Cmd) (st : St) (K : St → Prop) (hc : ev10 P cx dst c st K) : evCmd P cx dst c st K := evStep_to ev9_to hc
theorem ev11_to (dst : Option Nat) (c : Cmd) (st : St) (K : St → Prop) (hc : ev11 P cx dst c st K) : evCmd P cx dst c st K := evStep_to ev10_to hc
theorem ev12_to (dst : Option Nat) (c : Cmd) (st : St) (K : St → Prop) (hc : ev12 P cx dst c st K) : evCmd P cx dst c st K := evStep_to ev11_to hc
theorem ev13_to (dst : Option Nat) (c : Cmd) (st : St) (K : St → Prop) (hc : ev13 P cx dst c st K) : evCmd P cx dst c st K := evStep_to ev12_to hc
theorem ev14_to (dst : Option Nat) (c : Cmd) (st : St) (K : St → Prop) (hc : ev14 P cx dst c st K) : evCmd P cx dst c st K := evStep_to ev13_to hc
theorem ev15_to (dst : Option Nat) (c : Cmd) (st : St) (K : St → Prop) (hc : ev15 P cx dst c st K) : evCmd P cx dst c st K := evStep_to ev14_to hc
theorem ev16_to (dst : Option Nat) (c : Cmd) (st : St) (K : St → Prop) (hc : ev16 P cx dst c st K) : evCmd P cx dst c st K := evStep_to ev15_to hc
end
def pickEnv (l : List (Nat × AV)) : List Nat → List (Nat × AV)
  | [] => []
  | t :: ts => match look t l with | some v => (t, v) :: pickEnv l ts | none => pickEnv l ts
def pickObj (l : List (Nat × Ob)) : List Nat → List (Nat × Ob)
  | [] => []
  | t :: ts => match look t l with | some v => (t, v) :: pickObj l ts | none => pickObj l ts
def St.only (st : St) (ts ks : List Nat) : St :=
  { env := renEnv (Pm.within ks) (pickEnv st.env ts), obj := renObj (Pm.within ks) (pickObj st.obj ks) }
inductive Ex where
  | normal
  | exit (id : Nat)
  | ret
end Go.Pm
namespace Go.Pm
set_option linter.unusedVariables false
open Go
theorem look_nil {α : Type} (k : Nat) : look k ([] : List (Nat × α)) = none := rfl
theorem look_cons {α : Type} (k j : Nat) (v : α) (r : List (Nat × α)) : look k ((j, v) :: r) = if j = k then some v else look k r := by
  simp only [look]
  by_cases h : j = k
  · have : Nat.beq j k = true := by simpa using h
    rw [this, if_pos h]
  · have : Nat.beq j k = false := Bool.eq_false_iff.2 fun e => h (Nat.eq_of_beq_eq_true e)
    rw [this, if_neg h]
theorem has_iff (k : Nat) (l : List Nat) : has k l = true ↔ k ∈ l := by
  induction l with
  | nil => simp [has]
  | cons j r ih =>
    simp only [has]
    by_cases h : j = k
    · have : Nat.beq j k = true := by simpa using h
      rw [this]; simp [h]
    · have : Nat.beq j k = false := Bool.eq_false_iff.2 fun e => h (Nat.eq_of_beq_eq_true e)
      rw [this]; simp [ih, Ne.symm h]
theorem rangeAt_block {w : World} {b off : Nat} {vs : List Value} (h : w.rangeAt b off vs) (hn : vs ≠ []) : b < w.heap.size := by
  cases vs with
  | nil => exact absurd rfl hn
  | cons v vs =>
    have h0 := h 0 v rfl
    unfold World.cell? at h0
    split at h0
    · rename_i heq
      exact (Array.getElem?_eq_some_iff.1 heq).1
    · cases h0
theorem cell_congr {w w' : World} {b : Nat} (h : w'.heap[b]? = w.heap[b]?) (o : Nat) : w'.cell? ⟨b, o, none⟩ = w.cell? ⟨b, o, none⟩ := by
  simp only [World.cell?, h]
theorem rangeAt_congr {w w' : World} {b off : Nat} {vs : List Value} (h : w.rangeAt b off vs) (hb : b < w.heap.size → w'.heap[b]? = w.heap[b]?) : w'.rangeAt b off vs := by
  by_cases hn : vs = []
  · subst hn; intro j v hv; simp at hv
  · have := hb (rangeAt_block h hn)
    intro j v hv; rw [cell_congr this]; exact h j v hv
theorem plain_congr {w w' : World} {b n : Nat} (h : Plain w b n) (hb : b < w.heap.size → w'.heap[b]? = w.heap[b]?) : Plain w' b n := by
  obtain ⟨cs, t, h1, h2⟩ := h
  have : b < w.heap.size := (Array.getElem?_eq_some_iff.1 h1).1
  exact ⟨cs, t, (hb this).trans h1, h2⟩
theorem plain_lt {w : World} {b n : Nat} (h : Plain w b n) : b < w.heap.size := by
  obtain ⟨cs, t, h1, _⟩ := h
  exact (Array.getElem?_eq_some_iff.1 h1).1
def Agree (w w' : World) (X : Nat → Prop) (bs : List Nat) : Prop := ∀ b, b < w.heap.size → (b ∈ bs ∨ ¬ X b) → w'.heap[b]? = w.heap[b]?
theorem Agree.left {w w' : World} {X : Nat → Prop} {a b : List Nat} (h : Agree w w' X (a ++ b)) : Agree w w' X a :=
  fun c hc hx => h c hc (hx.imp (fun m => List.mem_append_left _ m) id)
theorem Agree.right {w w' : World} {X : Nat → Prop} {a b : List Nat} (h : Agree w w' X (a ++ b)) : Agree w w' X b :=
  fun c hc hx => h c hc (hx.imp (fun m => List.mem_append_right _ m) id)
theorem repRows_block {w : World} {X : Nat → Prop} {b sz : Nat} {xs : List D} {off : Nat} {bs : List Nat} (hsz : 0 < sz) (hne : xs ≠ []) (h : repRows w X b sz xs off bs) : b < w.heap.size := by
  cases xs with
  | nil => exact absurd rfl hne
  | cons x xs =>
    simp only [repRows] at h
    obtain ⟨v, b1, b2, _, _, h2, _, h4, _⟩ := h
    refine rangeAt_block h4 fun e => ?_
    have : v.cells.size = 0 := by rw [← Array.length_toList, e]; rfl
    omega
mutual
theorem D.rep_mono {w w' : World} {X X' : Nat → Prop} (hX : ∀ b, b < w.heap.size → ¬ X b → ¬ X' b) :
    ∀ (x : D) (v : Value) (bs : List Nat), Agree w w' X bs → x.rep w X v bs → x.rep w' X' v bs
  | .b x, v, bs, _, h => by simp only [D.rep] at h ⊢; exact h
  | .i k n, v, bs, _, h => by simp only [D.rep] at h ⊢; exact h
  | .s l, v, bs, _, h => by simp only [D.rep] at h ⊢; exact h
  | .agg cs, v, bs, hA, h => by
    simp only [D.rep] at h ⊢
    obtain ⟨vs, hv, hr⟩ := h
    exact ⟨vs, hv, repL_mono hX cs _ _ hA hr⟩
  | .sl u xs, v, bs, hA, h => by
    simp only [D.rep] at h ⊢
    obtain ⟨hu, hbs, a, cap, hv, hc, hr⟩ := h
    refine ⟨hu, hbs, a, cap, hv, hc, ?_⟩
    rcases hr with hr | ⟨b, off, sz, hne, ha, hsz, hrows, hx⟩
    · exact .inl hr
    · subst hbs
      exact .inr ⟨b, off, sz, hne, ha, hsz, repRows_mono hX b sz xs off [] hA (fun hb => hA b hb (.inr hx)) hrows, hX b (repRows_block hsz hne hrows) hx⟩
  | .os sz deep xs, v, bs, hA, h => by
    simp only [D.rep] at h ⊢
    obtain ⟨hsz, a, cap, hv, hc, hr⟩ := h
    refine ⟨hsz, a, cap, hv, hc, ?_⟩
    rcases hr with hr | ⟨b, bs', ha, hp, hrows, hbs, hd⟩
    · exact .inl hr
    · subst hbs
      have hb : b < w.heap.size → w'.heap[b]? = w.heap[b]? := fun hb => hA b hb (.inl (List.mem_cons_self ..))
      have hA' : Agree w w' X bs' := fun c hc hx => hA c hc (hx.imp (fun m => List.mem_cons_of_mem _ m) id)
      exact .inr ⟨b, bs', ha, plain_congr hp hb, repRows_mono hX b sz xs 0 bs' hA' hb hrows, rfl, hd⟩
  | .junk, v, bs, _, h => by simp only [D.rep] at h ⊢; exact h
theorem repL_mono {w w' : World} {X X' : Nat → Prop} (hX : ∀ b, b < w.heap.size → ¬ X b → ¬ X' b) :
    ∀ (xs : List D) (vs : List Value) (bs : List Nat), Agree w w' X bs → repL w X xs vs bs → repL w' X' xs vs bs
  | [], vs, bs, _, h => by simp only [repL] at h ⊢; exact h
  | x :: xs, vs, bs, hA, h => by
    simp only [repL] at h ⊢
    obtain ⟨v, vs', b1, b2, hv, hb, h1, h2⟩ := h
    subst hb
    exact ⟨v, vs', b1, b2, hv, rfl, D.rep_mono hX x v b1 hA.left h1, repL_mono hX xs vs' b2 hA.right h2⟩
theorem repRows_mono {w w' : World} {X X' : Nat → Prop} (hX : ∀ b, b < w.heap.size → ¬ X b → ¬ X' b) (b sz : Nat) :
    ∀ (xs : List D) (off : Nat) (bs : List Nat), Agree w w' X bs → (b < w.heap.size → w'.heap[b]? = w.heap[b]?) → repRows w X b sz xs off bs → repRows w' X' b sz xs off bs
  | [], off, bs, _, _, h => by simp only [repRows] at h ⊢; exact h
  | x :: xs, off, bs, hA, hb, h => by
    simp only [repRows] at h ⊢
    obtain ⟨v, b1, b2, hbs, h1, h2, h3, h4, h5⟩ := h
    subst hbs
    exact ⟨v, b1, b2, rfl, D.rep_mono hX x v b1 hA.left h1, h2, h3, rangeAt_congr h4 hb, repRows_mono hX b sz xs (off + sz) b2 hA.right hb h5⟩
end
mutual
theorem D.rep_own {w : World} {X : Nat → Prop} : ∀ (x : D) (v : Value) (bs : List Nat), x.rep w X v bs → ∀ b ∈ bs, b < w.heap.size
  | .b x, v, bs, h => by simp only [D.rep] at h; rw [h.2]; simp
  | .i k n, v, bs, h => by simp only [D.rep] at h; rw [h.2]; simp
  | .s l, v, bs, h => by simp only [D.rep] at h; rw [h.2]; simp
  | .agg cs, v, bs, h => by simp only [D.rep] at h; obtain ⟨vs, _, hr⟩ := h; exact repL_own cs _ _ hr
  | .sl u xs, v, bs, h => by simp only [D.rep] at h; rw [h.2.1]; simp
  | .os sz deep xs, v, bs, h => by
    simp only [D.rep] at h
    obtain ⟨hsz, a, cap, hv, hc, hr⟩ := h
    rcases hr with ⟨_, _, hb⟩ | ⟨b, bs', ha, hp, hrows, hbs, hd⟩
    · rw [hb]; simp
    · intro c hc
      rw [hbs] at hc
      rcases List.mem_cons.1 hc with rfl | hc
      · exact plain_lt hp
      · exact repRows_own xs _ _ hrows c hc
  | .junk, v, bs, h => by simp only [D.rep] at h; rw [h.2]; simp
theorem repL_own {w : World} {X : Nat → Prop} : ∀ (xs : List D) (vs : List Value) (bs : List Nat), repL w X xs vs bs → ∀ b ∈ bs, b < w.heap.size
  | [], vs, bs, h => by simp only [repL] at h; rw [h.2]; simp
  | x :: xs, vs, bs, h => by
    simp only [repL] at h
    obtain ⟨v, vs', b1, b2, _, hb, h1, h2⟩ := h
    intro c hc
    rw [hb] at hc
    rcases List.mem_append.1 hc with hc | hc
    · exact D.rep_own x _ _ h1 c hc
    · exact repL_own xs _ _ h2 c hc
theorem repRows_own {w : World} {X : Nat → Prop} {b sz : Nat} : ∀ (xs : List D) (off : Nat) (bs : List Nat), repRows w X b sz xs off bs → ∀ b ∈ bs, b < w.heap.size
  | [], off, bs, h => by simp only [repRows] at h; rw [h]; simp
  | x :: xs, off, bs, h => by
    simp only [repRows] at h
    obtain ⟨v, b1, b2, hb, h1, _, _, _, h5⟩ := h
    intro c hc
    rw [hb] at hc
    rcases List.mem_append.1 hc with hc | hc
    · exact D.rep_own x _ _ h1 c hc
    · exact repRows_own xs _ _ h5 c hc
end
theorem Place.like_refl (p : Place) : p.like p := ⟨rfl, rfl⟩
theorem Place.like_trans {p q r : Place} (a : p.like q) (b : q.like r) : p.like r := ⟨b.1.trans a.1, b.2.trans a.2⟩
mutual
theorem AV.rep_ren {w w' : World} {X X' : Nat → Prop} {J J' : Nat → Option Place} {f : Nat → Option Nat} (hX : ∀ b, b < w.heap.size → ¬ X b → ¬ X' b) (hA : Agree w w' X [])
    (hJ : ∀ k p j, J k = some p → f k = some j → ∃ p', J' j = some p' ∧ p.like p') : ∀ (x : AV) (v : Value), x.rep w X J v → (x.ren f).rep w' X' J' v
  | .d x, v, h => by simp only [AV.ren, AV.rep] at h ⊢; exact D.rep_mono hX x v [] hA h
  | .c u, v, h => by simp only [AV.ren, AV.rep] at h ⊢; exact h
  | .snil, v, h => by simp only [AV.ren, AV.rep] at h ⊢; exact h
  | .agg cs, v, h => by
    simp only [AV.ren, AV.rep] at h ⊢
    obtain ⟨vs, hv, hr⟩ := h
    exact ⟨vs, hv, AV.repL_ren hX hA hJ cs _ hr⟩
  | .tup cs, v, h => by
    simp only [AV.ren, AV.rep] at h ⊢
    obtain ⟨vs, hv, hr⟩ := h
    exact ⟨vs, hv, AV.repL_ren hX hA hJ cs _ hr⟩
  | .ptr k off, v, h => by
    simp only [AV.rep] at h
    obtain ⟨p, hp, hv⟩ := h
    simp only [AV.ren]
    cases hf : f k with
    | none => simp only [AV.rep]; rw [hv]; rfl
    | some j => simp only [AV.rep]; obtain ⟨p', hp', hl⟩ := hJ k p j hp hf; exact ⟨p', hp', by rw [hl.1]; exact hv⟩
  | .eptr k sz i off, v, h => by
    simp only [AV.rep] at h
    obtain ⟨p, hp, hv⟩ := h
    simp only [AV.ren]
    cases hf : f k with
    | none => simp only [AV.rep]; rw [hv]; rfl
    | some j => simp only [AV.rep]; obtain ⟨p', hp', hl⟩ := hJ k p j hp hf; exact ⟨p', hp', by rw [hl.1]; exact hv⟩
  | .own k, v, h => by
    simp only [AV.rep] at h
    obtain ⟨p, hp, hv, h1⟩ := h
    simp only [AV.ren]
    cases hf : f k with
    | none => simp only [AV.rep]; rw [hv]; exact h1
    | some j => simp only [AV.rep]; obtain ⟨p', hp', hl⟩ := hJ k p j hp hf; exact ⟨p', hp', by rw [hl.2]; exact hv, by rw [hl.2]; exact h1⟩
  | .win k sz lo hi, v, h => by
    simp only [AV.rep] at h
    obtain ⟨p, a0, n0, c0, a, c, hp, hpv, h1, h2, h3, hv, h4, h5⟩ := h
    simp only [AV.ren]
    cases hf : f k with
    | none => simp only [AV.rep]; rw [hv]; rfl
    | some j => simp only [AV.rep]; obtain ⟨p', hp', hl⟩ := hJ k p j hp hf; exact ⟨p', a0, n0, c0, a, c, hp', by rw [hl.2]; exact hpv, h1, h2, h3, hv, h4, by rw [hl.1]; exact h5⟩
  | .rd cs, v, h => by
    simp only [AV.ren, AV.rep] at h ⊢
    obtain ⟨b, off, vs, hv, hn, hx, hr, hc⟩ := h
    exact ⟨b, off, vs, hv, hn, hX b (rangeAt_block hc hn) hx, Go.Pm.repL_mono hX cs _ _ hA hr, rangeAt_congr hc fun hb => hA b hb (.inr hx)⟩
  | .fn g caps, v, h => by
    simp only [AV.ren, AV.rep] at h ⊢
    obtain ⟨cs, hv, hr⟩ := h
    exact ⟨cs, hv, AV.repL_ren hX hA hJ caps _ hr⟩
  | .bot, v, h => by simp only [AV.ren, AV.rep] at h ⊢; exact h
theorem AV.repL_ren {w w' : World} {X X' : Nat → Prop} {J J' : Nat → Option Place} {f : Nat → Option Nat} (hX : ∀ b, b < w.heap.size → ¬ X b → ¬ X' b) (hA : Agree w w' X [])
    (hJ : ∀ k p j, J k = some p → f k = some j → ∃ p', J' j = some p' ∧ p.like p') : ∀ (xs : List AV) (vs : List Value), AV.repL w X J xs vs → AV.repL w' X' J' (renL f xs) vs
  | [], vs, h => by simp only [renL, AV.repL] at h ⊢; exact h
  | x :: xs, vs, h => by
    simp only [renL, AV.repL] at h ⊢
    obtain ⟨v, vs', hv, h1, h2⟩ := h
    exact ⟨v, vs', hv, AV.rep_ren hX hA hJ x v h1, AV.repL_ren hX hA hJ xs vs' h2⟩
end
mutual
theorem AV.ren_some : ∀ x : AV, x.ren some = x
  | .d _ | .c _ | .snil | .rd _ | .bot | .ptr .. | .eptr .. | .own _ | .win .. => rfl
  | .agg cs => by simp only [AV.ren, renL_some cs]
  | .tup cs => by simp only [AV.ren, renL_some cs]
  | .fn g cs => by simp only [AV.ren, renL_some cs]
theorem renL_some : ∀ xs : List AV, renL some xs = xs
  | [] => rfl
  | x :: xs => by simp only [renL, AV.ren_some x, renL_some xs]
end
theorem renCells_some : ∀ cs : List OC, renCells some cs = cs
  | [] => rfl
  | .d x :: r => by simp only [renCells, renCells_some r]
  | .k n :: r => by simp only [renCells, renCells_some r]
theorem renEls_some : ∀ es : List OE, renEls some es = es
  | [] => rfl
  | e :: r => by simp only [renEls, renCells_some, renEls_some r]
theorem Ob.ren_some (o : Ob) : o.ren some = o := by cases o <;> simp [Ob.ren, renL_some, renEls_some]
theorem renCells_len (f : Nat → Option Nat) : ∀ cs : List OC, (renCells f cs).length = cs.length
  | [] => rfl
  | .d x :: r => by simp only [renCells, List.length_cons, renCells_len f r]
  | .k n :: r => by
    simp only [renCells]
    split <;> simp only [List.length_cons, renCells_len f r]
theorem ocD_ren (f : Nat → Option Nat) : ∀ cs : List OC, ocD (renCells f cs) = ocD cs
  | [] => rfl
  | .d x :: r => by simp only [renCells, ocD, ocD_ren f r]
  | .k n :: r => by
    simp only [renCells]
    split <;> simp only [ocD, OC.D, ocD_ren f r]
theorem baseXs_ren (f : Nat → Option Nat) (xs : List D) : ∀ es : List OE, baseXs xs (renEls f es) = baseXs xs es
  | [] => rfl
  | e :: r => by simp only [renEls, baseXs, baseXs_ren f xs r, OE.D, ocD_ren]
theorem renEls_idx (f : Nat → Option Nat) : ∀ es : List OE, (renEls f es).map (·.i) = es.map (·.i)
  | [] => rfl
  | e :: r => by simp only [renEls, List.map_cons, renEls_idx f r]
theorem renEls_mem {f : Nat → Option Nat} : ∀ {es : List OE} {e : OE}, e ∈ renEls f es → ∃ e0, e0 ∈ es ∧ e.i = e0.i ∧ e.ag = e0.ag ∧ e.cells = renCells f e0.cells
  | [], e, h => by cases h
  | x :: r, e, h => by
    simp only [renEls] at h
    rcases List.mem_cons.1 h with rfl | h
    · exact ⟨x, List.mem_cons_self .., rfl, rfl, rfl⟩
    · obtain ⟨e0, h1, h2⟩ := renEls_mem h
      exact ⟨e0, List.mem_cons_of_mem _ h1, h2⟩
theorem renCells_get {f : Nat → Option Nat} : ∀ {cs : List OC} {c key : Nat}, (renCells f cs)[c]? = some (.k key) → ∃ k0, cs[c]? = some (.k k0) ∧ f k0 = some key
  | [], c, key, h => by simp [renCells] at h
  | .d x :: r, c, key, h => by
    simp only [renCells] at h
    cases c with
    | zero => simp at h
    | succ c => simpa using renCells_get (cs := r) (by simpa using h)
  | .k n :: r, c, key, h => by
    simp only [renCells] at h
    split at h
    · rename_i j hj
      cases c with
      | zero => simp at h; subst h; exact ⟨n, by simp, hj⟩
      | succ c => simpa using renCells_get (cs := r) (by simpa using h)
    · cases c with
      | zero => simp at h
      | succ c => simpa using renCells_get (cs := r) (by simpa using h)
theorem AV.rep_mono {w w' : World} {X X' : Nat → Prop} {J J' : Nat → Option Place} (hX : ∀ b, b < w.heap.size → ¬ X b → ¬ X' b) (hA : Agree w w' X [])
    (hJ : ∀ k p, J k = some p → ∃ p', J' k = some p' ∧ p.like p') {x : AV} {v : Value} (h : x.rep w X J v) : x.rep w' X' J' v := by
  have := AV.rep_ren (f := some) hX hA (fun k p j hp hj => by cases hj; exact hJ k p hp) x v h
  rwa [AV.ren_some] at this
theorem AV.repL_mono {w w' : World} {X X' : Nat → Prop} {J J' : Nat → Option Place} (hX : ∀ b, b < w.heap.size → ¬ X b → ¬ X' b) (hA : Agree w w' X [])
    (hJ : ∀ k p, J k = some p → ∃ p', J' k = some p' ∧ p.like p') {x : List AV} {v : List Value} (h : AV.repL w X J x v) : AV.repL w' X' J' x v := by
  have := AV.repL_ren (f := some) hX hA (fun k p j hp hj => by cases hj; exact hJ k p hp) x v h
  rwa [renL_some] at this
theorem Place.fp_hd {p : Place} (h : p.hd = true) : p.fp = p.blk :: p.nest := by rw [Place.fp, h]
theorem Place.fp_no {p : Place} (h : p.hd = false) : p.fp = [] := by rw [Place.fp, h]
theorem Place.blk_fp {p : Place} (h : p.hd = true) : p.blk ∈ p.fp := by rw [p.fp_hd h]; exact List.mem_cons_self ..
theorem Place.nest_fp {p : Place} (h : p.hd = true) {b : Nat} (hb : b ∈ p.nest) : b ∈ p.fp := by rw [p.fp_hd h]; exact List.mem_cons_of_mem _ hb
theorem mpRep_mono {w w' : World} {X X' : Nat → Prop} (hX : ∀ b, b < w.heap.size → ¬ X b → ¬ X' b) (hA : Agree w w' X []) : ∀ {es : List (List UInt8 × D)} {l : List MapEntry}, mpRep w X es l → mpRep w' X' es l
  | [], l, h => h
  | (k, x) :: r, l, ⟨e, l', h1, h2, h3, h4⟩ => ⟨e, l', h1, h2, D.rep_mono hX x _ _ hA h3, mpRep_mono hX hA h4⟩
theorem Ob.rep_ren {w w' : World} {X X' : Nat → Prop} {J J' : Nat → Option Place} {f : Nat → Option Nat} {p : Place} (hX : ∀ b, b < w.heap.size → ¬ X b → ¬ X' b) (hA : Agree w w' X p.fp)
    (hJ : ∀ k p j, J k = some p → f k = some j → ∃ p', J' j = some p' ∧ p.like p') {o : Ob} (h : o.rep w X J p) : (o.ren f).rep w' X' J' p := by
  have hA0 : Agree w w' X [] := fun b hb hx => hA b hb (hx.imp (fun m => absurd m (by simp)) id)
  cases o with
  | var cells =>
    obtain ⟨hh, hn, cs, t, hc, hr⟩ := h
    have hb : p.blk < w.heap.size := (Array.getElem?_eq_some_iff.1 hc).1
    exact ⟨hh, hn, cs, t, (hA p.blk hb (.inl (p.blk_fp hh))).trans hc, AV.repL_ren hX hA0 hJ _ _ hr⟩
  | arr sz deep xs =>
    obtain ⟨h0, a, cap, h1, h2, h3⟩ := h
    refine ⟨h0, a, cap, h1, h2, ?_⟩
    rcases h3 with h3 | ⟨hh, ha, h3, h4, h5⟩
    · exact .inl h3
    · have hb : p.blk < w.heap.size → w'.heap[p.blk]? = w.heap[p.blk]? := fun hb => hA p.blk hb (.inl (p.blk_fp hh))
      exact .inr ⟨hh, ha, plain_congr h3 hb, repRows_mono hX _ _ _ _ _ (fun c hc hx => hA c hc (hx.imp (fun m => p.nest_fp hh m) id)) hb h4, h5⟩
  | bld t e l =>
    obtain ⟨hh, q, v, hq, hc, hr, hn⟩ := h
    have hb : p.blk < w.heap.size := (Array.getElem?_eq_some_iff.1 hc).1
    refine ⟨hh, q, v, hq, (hA p.blk hb (.inl (p.blk_fp hh))).trans hc, ⟨hr.1, hr.2.imp id ?_⟩, hn⟩
    rintro ⟨g, cap, cur, fz, hv, hg0, hg, rest⟩
    have hgb : g < w.heap.size := (Array.getElem?_eq_some_iff.1 hg).1
    refine ⟨g, cap, cur, fz, hv, hg0, (hA g hgb (.inl ?_)).trans hg, rest⟩
    rw [p.fp_hd hh, hn, hv]
    simp [Value.ownBlock]
  | opn sz xs els =>
    obtain ⟨h0, cap, h1, h2, hh, h3, h4, h5, h6⟩ := h
    have hb : p.blk < w.heap.size → w'.heap[p.blk]? = w.heap[p.blk]? := fun hb => hA p.blk hb (.inl (p.blk_fp hh))
    have hbs : p.blk < w.heap.size := plain_lt h3
    refine ⟨h0, cap, h1, h2, hh, plain_congr h3 hb, ?_, ?_, ?_⟩
    · rw [baseXs_ren]
      exact repRows_mono hX _ _ _ _ _ (fun c hc hx => hA c hc (hx.imp (fun m => p.nest_fp hh m) id)) hb h4
    · rw [renEls_idx]; exact h5
    · intro e he
      obtain ⟨e0, h01, h02, h03, h04⟩ := renEls_mem he
      obtain ⟨g1, g2⟩ := h6 e0 h01
      refine ⟨⟨by rw [h02]; exact g1.1, by rw [h04, renCells_len]; exact g1.2.1, by rw [h03]; exact g1.2.2.1, by rw [h04, ocD_ren]; exact g1.2.2.2⟩, fun c key hk => ?_⟩
      rw [h04] at hk
      obtain ⟨k0, hk0, hf⟩ := renCells_get hk
      obtain ⟨q, hq, hqc, hq1⟩ := g2 c k0 hk0
      obtain ⟨q', hq', hl⟩ := hJ k0 q key hq hf
      exact ⟨q', hq', by rw [cell_congr (hb hbs), h02, hl.2]; exact hqc, by rw [hl.2]; exact hq1⟩
  | mp es =>
    obtain ⟨hh, hn, hv, ents, clock, hc, hr⟩ := h
    have hb : p.blk < w.heap.size := (Array.getElem?_eq_some_iff.1 hc).1
    exact ⟨hh, hn, hv, ents, clock, (hA p.blk hb (.inl (p.blk_fp hh))).trans hc, mpRep_mono hX hA0 hr⟩
  | gone => exact h
theorem Ob.rep_fp {w : World} {X : Nat → Prop} {J : Nat → Option Place} {p : Place} {o : Ob} (h : o.rep w X J p) : ∀ b ∈ p.fp, b < w.heap.size := by
  intro b hb
  cases o with
  | var cells =>
    obtain ⟨hh, hn, cs, t, hc, _⟩ := h
    rw [p.fp_hd hh, hn] at hb
    rw [List.mem_singleton.1 hb]; exact (Array.getElem?_eq_some_iff.1 hc).1
  | arr sz deep xs =>
    obtain ⟨_, _, _, _, _, h3⟩ := h
    rcases h3 with ⟨hh, _⟩ | ⟨hh, _, h3, h4, _⟩
    · rw [p.fp_no hh] at hb; cases hb
    · rw [p.fp_hd hh] at hb
      rcases List.mem_cons.1 hb with rfl | hb
      · exact plain_lt h3
      · exact repRows_own _ _ _ h4 b hb
  | bld t e l =>
    obtain ⟨hh, q, v, hq, hc, hr, hn⟩ := h
    rw [p.fp_hd hh] at hb
    rcases List.mem_cons.1 hb with rfl | hb
    · exact (Array.getElem?_eq_some_iff.1 hc).1
    · rw [hn] at hb
      rcases hr.2 with ⟨hv, _⟩ | ⟨g, cap, cur, fz, hv, _, hg, _⟩
      · rw [hv] at hb; simp [Value.ownBlock] at hb
      · rw [hv] at hb
        simp [Value.ownBlock] at hb
        rw [hb]; exact (Array.getElem?_eq_some_iff.1 hg).1
  | opn sz xs els =>
    obtain ⟨h0, cap, h1, h2, hh, h3, h4, h5, h6⟩ := h
    rw [p.fp_hd hh] at hb
    rcases List.mem_cons.1 hb with rfl | hb
    · exact plain_lt h3
    · exact repRows_own _ _ _ h4 b hb
  | mp es =>
    obtain ⟨hh, hn, hv, ents, clock, hc, hr⟩ := h
    rw [p.fp_hd hh, hn] at hb
    rw [List.mem_singleton.1 hb]; exact (Array.getElem?_eq_some_iff.1 hc).1
  | gone => rw [p.fp_no h] at hb; cases hb
theorem Mem.lt {X0 : Nat → Prop} {J : Nat → Option Place} {obj : Nat → Option Ob} {w : World} (m : Mem X0 J obj w) : ∀ b, Xof X0 J b → b < w.heap.size := by
  rintro b (hb | ⟨k, p, hp, hb⟩)
  · exact (m.x0 b hb).1
  · obtain ⟨o, ho⟩ := m.dom k p hp
    obtain ⟨p', hp', hr⟩ := m.ob k o ho
    rw [hp] at hp'; cases hp'
    exact Ob.rep_fp hr b hb
structure Step (J : Nat → Option Place) (w : World) (J' : Nat → Option Place) (w' : World) : Prop where
  kept : Kept (Fps J) w w'
  own : ∀ k p b, J' k = some p → b ∈ p.fp → Fps J b ∨ w.heap.size ≤ b
  stay : ∀ k p, k < 10000 → J k = some p → ∃ p', J' k = some p' ∧ p.like p'
theorem bigs_le : ∀ {l : List Nat}, bigs l = true → ∀ k ∈ l, 10000 ≤ k
  | [], _, k, h => by cases h
  | j :: r, hb, k, h => by
    simp only [bigs] at hb
    split at hb
    · rename_i hj
      rcases List.mem_cons.1 h with rfl | h
      · exact Nat.le_of_ble_eq_true hj
      · exact bigs_le hb k h
    · cases hb
theorem without_small {ks : List Nat} (hb : bigs ks = true) {k : Nat} (h : k < 10000) : without ks k = some k := by
  unfold without
  split
  · rename_i hk
    have := bigs_le hb k ((has_iff k ks).1 hk)
    omega
  · rfl
theorem Kept.refl (F : Nat → Prop) (w : World) : Kept F w w := ⟨rfl, rfl, rfl, Nat.le_refl _, fun _ _ _ => rfl⟩
theorem Step.refl (J : Nat → Option Place) (w : World) : Step J w J w := ⟨.refl _ w, fun k p b hp hb => .inl ⟨k, p, hp, hb⟩, fun k p _ hp => ⟨p, hp, p.like_refl⟩⟩
theorem Step.trans {J J' J'' : Nat → Option Place} {w w' w'' : World} (a : Step J w J' w') (b : Step J' w' J'' w'') : Step J w J'' w'' := by
  refine ⟨⟨b.kept.os.trans a.kept.os, b.kept.tape.trans a.kept.tape, b.kept.output.trans a.kept.output, Nat.le_trans a.kept.size b.kept.size, fun c hc hF => ?_⟩, fun k p c hp hc => ?_, fun k p hk hp => ?_⟩
  · rw [b.kept.block c (Nat.lt_of_lt_of_le hc a.kept.size) ?_, a.kept.block c hc hF]
    rintro ⟨k, p, hp, hb⟩
    rcases a.own k p c hp hb with h | h
    · exact hF h
    · omega
  · rcases b.own k p c hp hc with ⟨k', p', hp', hb'⟩ | h
    · exact a.own k' p' c hp' hb'
    · exact .inr (Nat.le_trans a.kept.size h)
  · obtain ⟨p', hp', h1⟩ := a.stay k p hk hp
    obtain ⟨p'', hp'', h2⟩ := b.stay k p' hk hp'
    exact ⟨p'', hp'', Place.like_trans h1 h2⟩
structure Same (w w' : World) : Prop where
  os : w'.os = w.os
  tape : w'.tape = w.tape
  output : w'.output = w.output
  size : w.heap.size ≤ w'.heap.size
  block : ∀ b, b < w.heap.size → w'.heap[b]? = w.heap[b]?
theorem Same.refl (w : World) : Same w w := ⟨rfl, rfl, rfl, Nat.le_refl _, fun _ _ => rfl⟩
theorem Same.kept {w w' : World} (h : Same w w') (F : Nat → Prop) : Kept F w w' := ⟨h.os, h.tape, h.output, h.size, fun b hb _ => h.block b hb⟩
theorem Same.step {w w' : World} (h : Same w w') (J : Nat → Option Place) : Step J w J w' := ⟨h.kept _, fun k p b hp hb => .inl ⟨k, p, hp, hb⟩, fun k p _ hp => ⟨p, hp, p.like_refl⟩⟩
theorem Same.agree {w w' : World} (h : Same w w') (X : Nat → Prop) (bs : List Nat) : Agree w w' X bs := fun b hb _ => h.block b hb
theorem Same.drawn (w : World) (n : Nat) : Same w { w with drawn := n } := ⟨rfl, rfl, rfl, Nat.le_refl _, fun _ _ => rfl⟩
theorem Same.push (w : World) (o : Obj) : Same w { w with heap := w.heap.push o } :=
  ⟨rfl, rfl, rfl, by simp, fun b hb => by show (w.heap.push o)[b]? = _; rw [Array.getElem?_push, if_neg (by omega)]⟩
theorem Same.trans {a b c : World} (h : Same a b) (k : Same b c) : Same a c :=
  ⟨k.os.trans h.os, k.tape.trans h.tape, k.output.trans h.output, Nat.le_trans h.size k.size, fun i hi => (k.block i (Nat.lt_of_lt_of_le hi h.size)).trans (h.block i hi)⟩
theorem Mem.same {X0 : Nat → Prop} {J : Nat → Option Place} {obj : Nat → Option Ob} {w w' : World} (m : Mem X0 J obj w) (h : Same w w') : Mem X0 J obj w' := by
  refine ⟨fun k o ho => ?_, m.dom, m.sep, m.nd, fun b hb => ⟨Nat.lt_of_lt_of_le (m.x0 b hb).1 h.size, (m.x0 b hb).2⟩⟩
  obtain ⟨p, hp, hr⟩ := m.ob k o ho
  have := Ob.rep_ren (f := some) (X' := Xof X0 J) (J' := J) (fun _ _ hx => hx) (h.agree _ p.fp) (fun k p j hp hj => by cases hj; exact ⟨p, hp, p.like_refl⟩) hr
  rw [Ob.ren_some] at this
  exact ⟨p, hp, this⟩
theorem AV.rep_same {X : Nat → Prop} {J : Nat → Option Place} {w w' : World} (h : Same w w') {x : AV} {v : Value} (r : x.rep w X J v) : x.rep w' X J v :=
  AV.rep_mono (fun _ _ hx => hx) (h.agree _ []) (fun _ p hp => ⟨p, hp, p.like_refl⟩) r
theorem AV.repL_same {X : Nat → Prop} {J : Nat → Option Place} {w w' : World} (h : Same w w') {x : List AV} {v : List Value} (r : AV.repL w X J x v) : AV.repL w' X J x v :=
  AV.repL_mono (fun _ _ hx => hx) (h.agree _ []) (fun _ p hp => ⟨p, hp, p.like_refl⟩) r
theorem Mem.gen {X0 : Nat → Prop} {J J' : Nat → Option Place} {obj obj' : Nat → Option Ob} {w w' : World} {f : Nat → Option Nat} {F : Nat → Prop} {C : List Nat}
    (m : Mem X0 J obj w)
    (hf : ∀ k j, f k = some j → j = k) (hsmall : ∀ k, k < 10000 → f k = some k)
    (hC : ∀ k, k ∈ C → ∀ p, J k = some p → f k = none ∧ 10000 ≤ k ∨ ∃ p', J' k = some p' ∧ p.like p')
    (hJ : ∀ k, k ∉ C → J' k = match f k with | some _ => J k | none => none)
    (ho : ∀ k, k ∉ C → obj' k = match f k with | some _ => (obj k).map (Ob.ren f) | none => none)
    (hdC : ∀ k, k ∈ C → ∀ p, J' k = some p → ∃ o, obj' k = some o)
    (hoC : ∀ k, k ∈ C → ∀ o, obj' k = some o → ∃ p, J' k = some p ∧ o.rep w' (Xof X0 J') J' p)
    (hkept : Kept F w w') (hF : ∀ b, F b → ∃ k p, J k = some p ∧ (f k = none ∨ k ∈ C) ∧ b ∈ p.fp)
    (hnd : ∀ k, k ∈ C → ∀ p, J' k = some p → p.fp.Nodup)
    (hfp : ∀ k, k ∈ C → ∀ p, J' k = some p → ∀ b, b ∈ p.fp → (∃ k p, J k = some p ∧ (f k = none ∨ k ∈ C) ∧ b ∈ p.fp) ∨ w.heap.size ≤ b)
    (hsep : ∀ k k' p p', k ∈ C → k' ∈ C → J' k = some p → J' k' = some p' → k ≠ k' → ∀ b, b ∈ p.fp → b ∈ p'.fp → False) :
    Mem X0 J' obj' w' ∧ (∀ x v, AV.rep w (Xof X0 J) J x v → (x.ren f).rep w' (Xof X0 J') J' v) ∧ Step J w J' w' := by
  have hJf : ∀ k p, J' k = some p → k ∈ C ∨ k ∉ C ∧ f k = some k ∧ J k = some p := by
    intro k p hp
    by_cases e : k ∈ C
    · exact .inl e
    · rw [hJ k e] at hp
      cases hfk : f k with
      | none => rw [hfk] at hp; cases hp
      | some j => rw [hfk] at hp; exact .inr ⟨e, by rw [hf k j hfk], hp⟩
  have hX : ∀ b, b < w.heap.size → ¬ Xof X0 J b → ¬ Xof X0 J' b := by
    rintro b hb hx (h0 | ⟨k, p, hp, hbp⟩)
    · exact hx (.inl h0)
    · rcases hJf k p hp with hk | ⟨_, _, hp'⟩
      · rcases hfp k hk p hp b hbp with ⟨k', p', h1, _, h2⟩ | h
        · exact hx (.inr ⟨k', p', h1, h2⟩)
        · omega
      · exact hx (.inr ⟨k, p, hp', hbp⟩)
  have hA : ∀ bs : List Nat, (∀ b ∈ bs, ¬ F b) → Agree w w' (Xof X0 J) bs := by
    intro bs hbs b hb hx
    refine hkept.block b hb fun hFb => ?_
    rcases hx with h | h
    · exact hbs b h hFb
    · obtain ⟨k, p, hp, _, hbp⟩ := hF b hFb
      exact h (.inr ⟨k, p, hp, hbp⟩)
  have hJJ : ∀ k p j, J k = some p → f k = some j → ∃ p', J' j = some p' ∧ p.like p' := by
    intro k p j hp hj
    have := hf k j hj; subst this
    by_cases e : j ∈ C
    · rcases hC j e p hp with ⟨h, _⟩ | h
      · rw [hj] at h; cases h
      · exact h
    · exact ⟨p, by rw [hJ j e, hj]; exact hp, p.like_refl⟩
  refine ⟨⟨?_, ?_, ?_, ?_, ?_⟩, fun x v h => AV.rep_ren hX (hA [] (by simp)) hJJ x v h, ?_⟩
  · intro k o hko
    by_cases e : k ∈ C
    · exact hoC k e o hko
    · rw [ho k e] at hko
      cases hfk : f k with
      | none => rw [hfk] at hko; cases hko
      | some j =>
        rw [hfk] at hko
        cases hob : obj k with
        | none => rw [hob] at hko; cases hko
        | some o1 =>
          rw [hob] at hko; cases hko
          obtain ⟨p, hp, hr1⟩ := m.ob k o1 hob
          refine ⟨p, by rw [hJ k e, hfk]; exact hp, Ob.rep_ren hX (hA p.fp ?_) hJJ hr1⟩
          intro b hb hFb
          obtain ⟨k', p', hp', hf', hb'⟩ := hF b hFb
          refine m.sep k k' p p' hp hp' ?_ b hb hb'
          rintro rfl
          rcases hf' with hf' | hf'
          · rw [hfk] at hf'; cases hf'
          · exact e hf'
  · intro k p hp
    rcases hJf k p hp with hk | ⟨e, hfk, hp'⟩
    · exact hdC k hk p hp
    · rw [ho k e, hfk]
      obtain ⟨o, hob⟩ := m.dom k p hp'
      exact ⟨_, by rw [hob]; rfl⟩
  · intro k k' p p' hp hp' hne b hb hb'
    have key : ∀ k k' p p', J' k = some p → k ∉ C → J' k' = some p' → k' ∈ C → b ∈ p.fp → b ∈ p'.fp → False := by
      intro k k' p p' hp hk hp' hk' hb hb'
      rcases hJf k p hp with h | ⟨_, hfk, hp1⟩
      · exact hk h
      · rcases hfp k' hk' p' hp' b hb' with ⟨k2, p2, h1, h2, h3⟩ | h
        · refine m.sep k k2 p p2 hp1 h1 ?_ b hb h3
          rintro rfl
          rcases h2 with h2 | h2
          · rw [hfk] at h2; cases h2
          · exact hk h2
        · exact absurd (m.lt b (.inr ⟨k, p, hp1, hb⟩)) (by omega)
    by_cases e : k ∈ C
    · by_cases e' : k' ∈ C
      · exact hsep k k' p p' e e' hp hp' hne b hb hb'
      · exact key k' k p' p hp' e' hp e hb' hb
    · by_cases e' : k' ∈ C
      · exact key k k' p p' hp e hp' e' hb hb'
      · rcases hJf k p hp with h | ⟨_, _, hp1⟩
        · exact e h
        · rcases hJf k' p' hp' with h | ⟨_, _, hp1'⟩
          · exact e' h
          · exact m.sep k k' p p' hp1 hp1' hne b hb hb'
  · intro k p hp
    rcases hJf k p hp with hk | ⟨_, _, hp'⟩
    · exact hnd k hk p hp
    · exact m.nd k p hp'
  · intro b hb
    refine ⟨Nat.lt_of_lt_of_le (m.x0 b hb).1 hkept.size, fun k p hp hbp => ?_⟩
    rcases hJf k p hp with hk | ⟨_, _, hp'⟩
    · rcases hfp k hk p hp b hbp with ⟨k2, p2, h1, _, h3⟩ | h
      · exact (m.x0 b hb).2 k2 p2 h1 h3
      · exact absurd (m.x0 b hb).1 (by omega)
    · exact (m.x0 b hb).2 k p hp' hbp
  · refine ⟨⟨hkept.os, hkept.tape, hkept.output, hkept.size, fun b hb hn => hkept.block b hb fun hFb => ?_⟩, fun k p b hp hb => ?_, fun k p hk' hp => ?_⟩
    · obtain ⟨k, p, hp, _, hbp⟩ := hF b hFb
      exact hn ⟨k, p, hp, hbp⟩
    · rcases hJf k p hp with hk | ⟨_, _, hp'⟩
      · exact (hfp k hk p hp b hb).imp (fun ⟨k, p, h1, _, h3⟩ => ⟨k, p, h1, h3⟩) id
      · exact .inl ⟨k, p, hp', hb⟩
    · exact hJJ k p k hp (hsmall k hk')
theorem Mem.step {X0 : Nat → Prop} {J J' : Nat → Option Place} {obj obj' : Nat → Option Ob} {w w' : World} {f : Nat → Option Nat} {F : Nat → Prop} {k0 : Nat} {p0 : Place} {o0 : Ob}
    (m : Mem X0 J obj w)
    (hf : ∀ k j, f k = some j → j = k) (hk : f k0 = none) (hbig : 10000 ≤ k0) (hsmall : ∀ k, k < 10000 → f k = some k)
    (hJ : ∀ k, J' k = if k = k0 then some p0 else match f k with | some _ => J k | none => none)
    (ho : ∀ k, obj' k = if k = k0 then some o0 else match f k with | some _ => (obj k).map (Ob.ren f) | none => none)
    (hkept : Kept F w w') (hF : ∀ b, F b → ∃ k p, J k = some p ∧ f k = none ∧ b ∈ p.fp)
    (hnd : p0.fp.Nodup) (hfp : ∀ b ∈ p0.fp, (∃ k p, J k = some p ∧ f k = none ∧ b ∈ p.fp) ∨ w.heap.size ≤ b)
    (hr : o0.rep w' (Xof X0 J') J' p0) :
    Mem X0 J' obj' w' ∧ (∀ x v, AV.rep w (Xof X0 J) J x v → (x.ren f).rep w' (Xof X0 J') J' v) ∧ Step J w J' w' := by
  have h0 : J' k0 = some p0 := by rw [hJ, if_pos rfl]
  have one : ∀ {k p}, k ∈ [k0] → J' k = some p → k = k0 ∧ p = p0 := by
    intro k p hk hp
    have e := List.mem_singleton.1 hk
    subst e
    rw [h0] at hp; cases hp; exact ⟨rfl, rfl⟩
  refine m.gen (C := [k0]) hf hsmall (fun k hk' p hp => by rw [List.mem_singleton.1 hk']; exact .inl ⟨hk, hbig⟩)
    (fun k hk' => by rw [hJ, if_neg (fun e => hk' (List.mem_singleton.2 e))]) (fun k hk' => by rw [ho, if_neg (fun e => hk' (List.mem_singleton.2 e))])
    (fun k hk' p hp => by rw [List.mem_singleton.1 hk', ho, if_pos rfl]; exact ⟨_, rfl⟩) (fun k hk' o hko => ?_) hkept
    (fun b hb => by obtain ⟨k, p, h1, h2, h3⟩ := hF b hb; exact ⟨k, p, h1, .inl h2, h3⟩) (fun k hk' p hp => by rw [(one hk' hp).2]; exact hnd) (fun k hk' p hp b hb => ?_) (fun k k' p p' hk1 hk2 _ _ hne => ?_)
  · rw [List.mem_singleton.1 hk', ho, if_pos rfl] at hko
    cases hko
    exact ⟨p0, by rw [List.mem_singleton.1 hk']; exact h0, hr⟩
  · rw [(one hk' hp).2] at hb
    exact (hfp b hb).imp (fun ⟨k, p, h1, h2, h3⟩ => ⟨k, p, h1, .inl h2, h3⟩) id
  · exact absurd ((List.mem_singleton.1 hk1).trans (List.mem_singleton.1 hk2).symm) hne
theorem Mem.upd {X0 : Nat → Prop} {J : Nat → Option Place} {obj obj' : Nat → Option Ob} {w w' : World} {k0 : Nat} {p0 : Place} {o0 : Ob}
    (m : Mem X0 J obj w) (hp0 : J k0 = some p0) (hh : p0.hd = true) (ho : ∀ k, obj' k = if k = k0 then some o0 else obj k)
    (hkept : Kept (· = p0.blk) w w') (hr : o0.rep w' (Xof X0 J) J p0) :
    Mem X0 J obj' w' ∧ (∀ x v, AV.rep w (Xof X0 J) J x v → x.rep w' (Xof X0 J) J v) ∧ Step J w J w' := by
  have hA : ∀ bs : List Nat, p0.blk ∉ bs → Agree w w' (Xof X0 J) bs := by
    intro bs hbs b hb hx
    refine hkept.block b hb fun e => ?_
    rcases hx with h | h
    · exact hbs (e ▸ h)
    · exact h (.inr ⟨k0, p0, hp0, e ▸ p0.blk_fp hh⟩)
  refine ⟨⟨?_, ?_, m.sep, m.nd, fun b hb => ⟨Nat.lt_of_lt_of_le (m.x0 b hb).1 hkept.size, (m.x0 b hb).2⟩⟩, fun x v h => AV.rep_mono (fun _ _ hx => hx) (hA [] (by simp)) (fun _ p hp => ⟨p, hp, p.like_refl⟩) h, ?_⟩
  · intro k o hko
    rw [ho] at hko
    by_cases e : k = k0
    · rw [if_pos e] at hko; cases hko; subst e; exact ⟨p0, hp0, hr⟩
    · rw [if_neg e] at hko
      obtain ⟨p, hp, hr1⟩ := m.ob k o hko
      have := Ob.rep_ren (f := some) (X' := Xof X0 J) (J' := J) (fun _ _ hx => hx) (hA p.fp fun hb => m.sep k k0 p p0 hp hp0 e _ hb (p0.blk_fp hh)) (fun k p j hp hj => by cases hj; exact ⟨p, hp, p.like_refl⟩) hr1
      rw [Ob.ren_some] at this
      exact ⟨p, hp, this⟩
  · intro k p hp
    rw [ho]
    by_cases e : k = k0
    · rw [if_pos e]; exact ⟨_, rfl⟩
    · rw [if_neg e]; exact m.dom k p hp
  · exact ⟨⟨hkept.os, hkept.tape, hkept.output, hkept.size, fun b hb hn => hkept.block b hb fun e => hn ⟨k0, p0, hp0, e ▸ p0.blk_fp hh⟩⟩, fun k p b hp hb => .inl ⟨k, p, hp, hb⟩, fun k p _ hp => ⟨p, hp, p.like_refl⟩⟩
end Go.Pm
