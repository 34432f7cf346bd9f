/- The engine, part A: an interpreter of the translated code over values without memory addresses; what it computes is a plain Lean term. -/
import Derived.Calls
import Derived.Orders
import Derived.LoopN
import Derived.Below
set_option linter.unusedVariables false
namespace Go.Eng
open Go
universe u


/-! ### what is computed with unknown numbers: each by a name, so that a print may show it -/
namespace W
def wrap (k : IntKind) (n : Int) : Int := k.wrap n
def add (a b : Int) : Int := a + b
def sub (a b : Int) : Int := a - b
def mul (a b : Int) : Int := a * b
def quo (a b : Int) : Int := a.tdiv b
def rem (a b : Int) : Int := a.tmod b
def and (k : IntKind) (a b : Int) : Int := ((BitVec.ofInt k.bits a &&& BitVec.ofInt k.bits b).toNat : Nat)
def or (k : IntKind) (a b : Int) : Int := ((BitVec.ofInt k.bits a ||| BitVec.ofInt k.bits b).toNat : Nat)
def xor (k : IntKind) (a b : Int) : Int := ((BitVec.ofInt k.bits a ^^^ BitVec.ofInt k.bits b).toNat : Nat)
def andNot (k : IntKind) (a b : Int) : Int := ((BitVec.ofInt k.bits a &&& ~~~(BitVec.ofInt k.bits b)).toNat : Nat)
def shl (k : IntKind) (a b : Int) : Int := a * 2 ^ (min b.toNat k.bits)
def shr (k : IntKind) (a b : Int) : Int := a.fdiv (2 ^ (min b.toNat k.bits))
def eq (a b : Int) : Bool := a == b
def ne (a b : Int) : Bool := a != b
def lt (a b : Int) : Bool := a < b
def le (a b : Int) : Bool := a ≤ b
def gt (a b : Int) : Bool := a > b
def ge (a b : Int) : Bool := a ≥ b
def not (a : Bool) : Bool := !a
def and2 (a b : Bool) : Bool := a && b
def or2 (a b : Bool) : Bool := a || b
def eqB (a b : Bool) : Bool := a == b
def pick (c x y : Bool) : Bool := bif c then x else y
def max (x y : Int) : Int := if y > x then y else x
def min (x y : Int) : Int := if y < x then y else x
def toNat (n : Int) : Nat := n.toNat
def len {α : Type} (l : List α) : Nat := l.length
def ofNat (n : Nat) : Int := n
def get {α : Type} (l : List α) (i : Nat) (d : α) : α := l.getD i d
def addN (a b : Nat) : Nat := a + b
def mulN (a b : Nat) : Nat := a * b
def ltN (a b : Nat) : Bool := a < b
def subN (a b : Nat) : Nat := a - b
def leN (a b : Nat) : Bool := a ≤ b
def eqN (a b : Nat) : Bool := a == b
def minN (a b : Nat) : Nat := if a ≤ b then a else b
def rep {α : Type} (n : Nat) (x : α) : List α := List.replicate n x
def set {α : Type} (l : List α) (i : Nat) (x : α) : List α := l.set i x
def app {α : Type} (a b : List α) : List α := a ++ b
def slice {α : Type} (l : List α) (i n : Nat) : List α := (l.drop i).take n
/-- What stands in l, from i on overwritten. -/
def over {α : Type} (l : List α) (i : Nat) (s : List α) : List α := l.take i ++ (s ++ l.drop (i + s.length))
def bytes (l : List Int) : ByteArray := ⟨(l.map fun n => UInt8.ofNat n.toNat).toArray⟩
def codes (s : ByteArray) : List Int := s.data.toList.map fun b => (b.toNat : Int)
def cat (a b : ByteArray) : ByteArray := a ++ b
def cut (s : ByteArray) (i n : Nat) : ByteArray := s.extract i (i + n)
def eqS (a b : ByteArray) : Bool := a.toList == b.toList
def byte (s : ByteArray) (i : Nat) : Int := if h : i < s.size then (s[i].toNat : Int) else 0
def size (s : ByteArray) : Nat := s.size
end W
/-- A way that parts by an unknown bool. -/
def br {α : Type u} (c : Bool) (x y : α) : α := bif c then x else y

inductive Ty where
  | int (k : IntKind) | bool | str | unit | prod (a b : Ty) | slice (t : Ty)
  deriving DecidableEq

@[reducible] def Ty.D : Ty → Type
  | .int _ => Int
  | .bool => Bool
  | .str => ByteArray
  | .unit => Unit
  | .prod a b => a.D × b.D
  | .slice t => List t.D

def Ty.size : Ty → Nat
  | .int _ | .bool | .str | .slice _ => 1
  | .unit => 0
  | .prod a b => a.size + b.size

def Ty.dflt : (t : Ty) → t.D
  | .int _ => (0 : Int)
  | .bool => false
  | .str => ByteArray.empty
  | .unit => ()
  | .prod a b => (a.dflt, b.dflt)
  | .slice _ => []

inductive V : Type where
  | any
  | bool (b : Bool)
  | int (k : IntKind) (n : Int)
  | str (s : ByteArray)
  /-- a block of single cells: which, and where in it -/
  | ptr (b : Nat) (off : Nat)
  /-- a block that is an array: how many, of how many cells each -/
  | parr (b : Nat) (n sz : Nat)
  /-- a struct that lies in several blocks: from, how many cells, and the part's own address -/
  | cptr (ss : List (Nat × Nat)) (ps : List V) (off : Nat)
  /-- an element of an array block -/
  | elp (b : Nat) (i : Nat) (off : Nat)
  /-- an element that is itself an array of the call's own -/
  | elr (b : Nat) (i : Nat)
  /-- an element of an inner array of a block of arrays -/
  | el2 (b : Nat) (i j : Nat) (off : Nat)
  | nilp
  /-- what nobody writes any more (false: for good; true: while the call lasts) -/
  | ro (w : Bool) (t : Ty) (l : List t.D)
  | rop (w : Bool) (t : Ty) (x : t.D) (off : Nat)
  /-- the whole of an array block as a slice; a part of it -/
  | sl (b : Nat) (sz n : Nat)
  | sv (b : Nat) (sz i n : Nat)
  /-- of an inner array -/
  | sl2 (b : Nat) (sz i o n : Nat)
  /-- single cells as a slice -/
  | csl (b : Nat) (off sz n : Nat)
  /-- no element and no room; a nil slice -/
  | esl
  | nsl
  | fn (f : FuncId) (cap : List V)
  | mexp (t : TypeId) (name : String)
  | nilf
  | iface (t : TypeId) (v : V)
  | nili
  | agg (l : List V)
  | tup (l : List V)
  | map (b : Nat)
  | hdl (g : Nat) (t : TypeId)

/-- An element's cells. -/
def toVs (w : Bool) : (t : Ty) → t.D → List V
  | .int k, n => [.int k n]
  | .bool, b => [.bool b]
  | .str, s => [.str s]
  | .unit, _ => []
  | .prod a b, x => toVs w a x.1 ++ toVs w b x.2
  | .slice t, l => [.ro w t l]

inductive Blk : Type where
  | free
  | dead
  | cells (c : List V)
  | row (t : Ty) (xs : List t.D)
  | rows (t : Ty) (xs : List (List t.D))
  | map (es : List (V × V))
  | fwd (b : Nat)

structure Spec where
  nNew : Nat
  run : {R : Type} → List V → (V → List Blk → Option R) → Option R

structure S where
  t : List V
  o : List (Option (Nat × Bool × V))
  h : List Blk

inductive Eff : Type 1 where
  | fail
  | val (v : V)
  | store (b off : Nat) (vs : List V)
  /-- an array block told anew -/
  | put (b : Nat) (T : Ty) (xs : List T.D)
  | new (blks : List Blk) (mk : Nat → V)
  | mod (f : Nat → Option (List Blk)) (mk : Nat → V)
  | ite (c : Bool) (x y : Eff)
  | call (g : FuncId) (sp : Spec) (args : List V)
  | enter (g : FuncId) (args : List V)

def V.cells : V → List V
  | .agg l => l
  | v => [v]

def V.scalar : V → Bool
  | .any | .agg _ | .tup _ => false
  | _ => true

def V.known : V → Bool
  | .any => false
  | _ => true

/-- A constant's value; of nested ones the first two layers. -/
def ofConst0 : Value → V
  | .bool b => .bool b
  | .int k n => if (Lit.int k n).wf then .int k n else .any
  | .string s => if s.size ≤ 1000000000 then .str s else .any
  | .pointer none => .nilp
  | .slice none 0 0 => .nsl
  | .nilFunc => .nilf
  | .nilIface => .nili
  | _ => .any
def ofConst : Value → V
  | .agg cs => .agg (cs.toList.map ofConst0)
  | .tuple cs => .tup (cs.toList.map ofConst0)
  | v => ofConst0 v

def List.splice {α : Type} : List α → Nat → List α → List α
  | l, _, [] => l
  | l, off, v :: vs => List.splice (l.set off v) (off + 1) vs

/-! ### types -/
def isAggB (P : Program) (t : TypeId) : Option Bool :=
  match P.underlying t with
  | some (.struct _) | some (.array _ _) => some true
  | some _ => some false
  | none => none
def sizeB (P : Program) (t : TypeId) : Option Nat := (P.info? t).map (·.size)
def zeroB (P : Program) (t : TypeId) : Option V := (P.info? t).bind fun i => i.zero.map ofConst
def fieldB (P : Program) (t : TypeId) (f : Nat) : Option Field :=
  match P.underlying t with
  | some (.struct fs) => fs[f]?
  | _ => none

def tyFs (f : TypeId → Option Ty) : List Field → Option Ty
  | [] => some .unit
  | [fd] => f fd.type
  | fd :: g :: r => match f fd.type, tyFs f (g :: r) with
    | some a, some b => some (.prod a b)
    | _, _ => none
def tyOf (P : Program) : Nat → TypeId → Option Ty
  | 0, _ => none
  | n + 1, t => match P.underlying t with
    | some (.int k) => some (.int k)
    | some .bool => some .bool
    | some .string => some .str
    | some (.slice e) => (tyOf P n e).map .slice
    | some (.struct fs) => tyFs (tyOf P n) fs.toList
    | _ => none
/-- An element's kind, if it is told by its type and takes cells. -/
def elemT (P : Program) (e : TypeId) : Option Ty :=
  match tyOf P 10 e with
  | some t => if decide (0 < t.size) && sizeB P e == some t.size then some t else none
  | none => none
def Ty.flat : Ty → Bool
  | .prod a b => a.flat && b.flat
  | .slice _ => false
  | _ => true

/-! ### cells read as what their type says -/
def decO (w : Bool) : (t : Ty) → List V → Option (t.D × List V)
  | .int k, v :: r => match v with
    | .int k' n => if k' = k then some (n, r) else none
    | _ => none
  | .bool, v :: r => match v with
    | .bool b => some (b, r)
    | _ => none
  | .str, v :: r => match v with
    | .str s => some (s, r)
    | _ => none
  | .unit, l => some ((), l)
  | .prod a b, l => match decO w a l with
    | some (x, l') => match decO w b l' with
      | some (y, l'') => some ((x, y), l'')
      | none => none
    | none => none
  | .slice t, v :: r => match v with
    | .ro w' t' l => if h : t' = t then (if w' && !w then none else some (h ▸ l, r)) else none
    | .nsl | .esl => some ([], r)
    | _ => none
  | _, [] => none
def decOne (w : Bool) (t : Ty) (l : List V) : Option t.D :=
  match decO w t l with
  | some (x, []) => some x
  | _ => none
def decMany (w : Bool) (t : Ty) : Nat → List V → Option (List t.D)
  | 0, [] => some []
  | 0, _ :: _ => none
  | n + 1, l => match decO w t l with
    | some (x, r) => (decMany w t n r).map (x :: ·)
    | none => none

/-! ### variables that hold arrays lie in several blocks -/
abbrev Lay := List (Nat × Nat × Option Ty)
def layF (f : TypeId → Nat → Lay) : List Field → Nat → Lay
  | [], _ => []
  | fd :: r, st => f fd.type (st + fd.offset) ++ layF f r st
def layT (P : Program) : Nat → TypeId → Nat → Lay
  | 0, t, st => [(st, (sizeB P t).getD 0, none)]
  | n + 1, t, st => match P.underlying t with
    | some (.array m e) => match elemT P e with
      | some T => [(st, m * T.size, some T)]
      | none => [(st, (sizeB P t).getD 0, none)]
    | some (.struct fs) => layF (layT P n) fs.toList st
    | _ => [(st, (sizeB P t).getD 0, none)]
/-- Where the parts of a variable lie, if it holds an array. -/
def layout (P : Program) (t : TypeId) : Option Lay :=
  let l := layT P 10 t 0
  if l.any (·.2.2.isSome) then some l else none
def layOk : Lay → Nat → Bool
  | [], _ => true
  | (st, len, _) :: r, lo => decide (lo ≤ st) && layOk r (st + len)
def splitV : Lay → List V → Option (List Blk)
  | [], _ => some []
  | (st, len, none) :: r, c => (splitV r c).map (.cells ((c.drop st).take len) :: ·)
  | (st, len, some T) :: r, c => if 0 < T.size then
      match decMany false T (len / T.size) ((c.drop st).take len) with
      | some xs => (splitV r c).map (.row T xs :: ·)
      | none => none
    else none
def partsV : Lay → Nat → List V
  | [], _ => []
  | (_, _, none) :: r, s => .ptr s 0 :: partsV r (s + 1)
  | (_, len, some T) :: r, s => .parr s (len / T.size) T.size :: partsV r (s + 1)
/-- A new variable of a type, with these cells. -/
def newVarE (P : Program) (t : TypeId) (c : List V) : Eff :=
  match layout P t with
  | none => .new [.cells c] (.ptr · 0)
  | some l => if !(layOk l 0 && l.all fun x => decide (x.2.1 ≤ 1000000000)) then .fail else
    match splitV l c with
    | some bs => .new bs fun s => match l with
      | [(0, len, some T)] => .parr s (len / T.size) T.size
      | _ => .cptr (l.map fun x => (x.1, x.2.1)) (partsV l s) 0
    | none => .fail
def nBlk (P : Program) (t : TypeId) : Nat :=
  match layout P t with
  | none => 1
  | some l => l.length

/-! ### operands -/
def S.rd (s : S) (gs : List (Nat × Bool)) : Operand → V
  | .tmp u => match s.o.getD u none with
    | some (g, w, v) => if gs.any (fun x => x.1 == g && x.2 == w) then v else s.t.getD u .any
    | none => s.t.getD u .any
  | .const v => ofConst v
  | .func f => .fn f []
  | .global _ => .any

/-! ### operations on whole values -/
def binInt (op : BinOp) (k : IntKind) (a b : Int) : Eff :=
  match op with
  | .add => .val (.int k (W.wrap k (W.add a b)))
  | .sub => .val (.int k (W.wrap k (W.sub a b)))
  | .mul => .val (.int k (W.wrap k (W.mul a b)))
  | .quo => .ite (W.eq b 0) .fail (.val (.int k (W.wrap k (W.quo a b))))
  | .rem => .ite (W.eq b 0) .fail (.val (.int k (W.rem a b)))
  | .and => .val (.int k (W.wrap k (W.and k a b)))
  | .or => .val (.int k (W.wrap k (W.or k a b)))
  | .xor => .val (.int k (W.wrap k (W.xor k a b)))
  | .andNot => .val (.int k (W.wrap k (W.andNot k a b)))
  | .eql => .val (.bool (W.eq a b))
  | .neq => .val (.bool (W.ne a b))
  | .lss => .val (.bool (W.lt a b))
  | .leq => .val (.bool (W.le a b))
  | .gtr => .val (.bool (W.gt a b))
  | .geq => .val (.bool (W.ge a b))
  | _ => .fail
def shiftInt (op : BinOp) (k : IntKind) (a b : Int) : Eff :=
  match op with
  | .shl => .val (.int k (W.wrap k (W.shl k a b)))
  | .shr => .val (.int k (W.shr k a b))
  | _ => .fail

/-- '==' of two structs: all their cells are whole numbers (true) and bools (false). -/
def eqCells : List Bool → List V → List V → Option Bool
  | [], [], [] => some true
  | true :: ks, .int k a :: x, .int k' b :: y => if k = k' then (eqCells ks x y).map (W.and2 (W.eq a b) ·) else none
  | false :: ks, .bool a :: x, .bool b :: y => (eqCells ks x y).map (W.and2 (W.eqB a b) ·)
  | _, _, _ => none
/-- The cells of a type whose parts are whole numbers and bools, each named and one behind the other. -/
def plainFs (f : TypeId → Option (List Bool)) : List Field → Nat → Option (List Bool)
  | [], off => some []
  | fd :: r, off => if fd.name != "_" && fd.offset == off then (f fd.type).bind fun l => if l.isEmpty then none else (plainFs f r (off + l.length)).map (l ++ ·) else none
def plainKs (P : Program) : Nat → TypeId → Option (List Bool)
  | 0, _ => none
  | d + 1, t => match P.underlying t with
    | some (.int _) => some [true]
    | some .bool => some [false]
    | some (.struct fs) => if P.stoodInHeld t then none else plainFs (fun u => (plainKs P d u).bind fun l => if sizeB P u == some l.length then some l else none) fs.toList 0
    | _ => none
def eqAgg (P : Program) (t : TypeId) (a b : List V) : Option Bool :=
  match plainKs P 20 t with
  | some ks => if P.eqGuardType P.depth t then none else eqCells ks a b
  | none => none

def roomA : Nat := 140737488355328
/-- A slice held against nil. -/
def nilEq (P : Program) (t : TypeId) (x : V) (neg : Bool) : Eff :=
  match P.underlying t with
  | some (.slice _) => match x with
    | .ro _ _ l => .ite (W.ltN 0 (W.len l)) (.val (.bool neg)) .fail
    | .csl _ _ _ _ => .val (.bool neg)
    | .nsl => .val (.bool (!neg))
    | _ => .fail
  | _ => .fail
def binAct (P : Program) (op : BinOp) (t : TypeId) (x y : V) : Eff :=
  match op, x, y with
  | .shl, .int k a, .int yk b | .shr, .int k a, .int yk b => if yk.signed then .ite (W.lt b 0) .fail (shiftInt op k a b) else shiftInt op k a b
  | _, .int k a, .int k' b => if k = k' then binInt op k a b else .fail
  | .eql, .str a, .str b => .val (.bool (W.eqS a b))
  | .neq, .str a, .str b => .val (.bool (W.not (W.eqS a b)))
  | .add, .str a, .str b => .ite (W.leN (W.addN (W.size a) (W.size b)) roomA) (.val (.str (W.cat a b))) .fail
  | .eql, .bool a, .bool b => match P.underlying t with | some .bool => .val (.bool (W.eqB a b)) | _ => .fail
  | .neq, .bool a, .bool b => match P.underlying t with | some .bool => .val (.bool (W.not (W.eqB a b))) | _ => .fail
  | .eql, .agg a, .agg b => match isAggB P t, eqAgg P t a b with | some true, some c => .val (.bool c) | _, _ => .fail
  | .neq, .agg a, .agg b => match isAggB P t, eqAgg P t a b with | some true, some c => .val (.bool (W.not c)) | _, _ => .fail
  | .eql, x, .nsl => nilEq P t x false
  | .neq, x, .nsl => nilEq P t x true
  | _, _, _ => .fail

def unAct (op : UnOp) (x : V) : Eff :=
  match op, x with
  | .neg, .int k n => .val (.int k (W.wrap k (W.sub 0 n)))
  | .xor, .int k n => .val (.int k (W.wrap k (W.xor k (if k.signed then -1 else k.max) n)))
  | .not, .bool b => .val (.bool (W.not b))
  | _, _ => .fail


/-- Parts laid into cells. -/
def fillV (place : Nat → Option (Nat × Nat)) : List V → List (Nat × V) → Option (List V)
  | cells, [] => some cells
  | cells, (i, v) :: rest =>
    match place i with
    | none => none
    | some (off, size) => if v.cells.length == size && off + size ≤ cells.length then fillV place (List.splice cells off v.cells) rest else none

def buildAct (P : Program) (t : TypeId) (parts : List (Nat × V)) : Eff :=
  if !(parts.all fun p => p.2.known) then .fail else
  match zeroB P t, P.underlying t with
  | some (.agg z), some (.struct fs) =>
    if !(fs.toList.all fun f => (sizeB P f.type).isSome) then .fail else
    match fillV (fun i => (fs[i]?).bind fun f => (sizeB P f.type).map fun n => (f.offset, n)) z parts with
    | some c => .val (.agg c)
    | none => .fail
  | some (.agg z), some (.array _ e) =>
    match sizeB P e with
    | some n => match fillV (fun i => some (i * n, n)) z parts with
      | some c => .val (.agg c)
      | none => .fail
    | none => .fail
  | _, _ => .fail

/-- A part of cells: one, or a struct's or an array's. -/
def partV (P : Program) (t : TypeId) (c : List V) (off : Nat) : Eff :=
  match isAggB P t, sizeB P t with
  | some true, some n => if off + n ≤ c.length then .val (.agg ((c.drop off).take n)) else .fail
  | some false, some (_ + 1) => match c[off]? with
    | some v => .val v
    | none => .fail
  | _, _ => .fail

def isFree' (h : List Blk) (i : Nat) : Bool :=
  match h[i]? with
  | some .free => true
  | _ => false
/-- Where a block's contents are now. -/
def resB (h : List Blk) : Nat → Nat → Nat
  | 0, b => b
  | n + 1, b => match h[b]? with
    | some (.fwd b') => resB h n b'
    | _ => b
def loadAct (P : Program) (t : TypeId) (x : V) (h : List Blk) : Eff :=
  match x with
  | .ptr b off => match h[b]? with
    | some (.cells c) => partV P t c off
    | _ => .fail
  | .parr b n sz => match h[b]?, isAggB P t with
    | some (.row T xs), some true => if sizeB P t == some (n * sz) && T.size == sz then .val (.agg (xs.flatMap (toVs false T))) else .fail
    | _, _ => .fail
  | .elp b i off => match h[b]? with
    | some (.row T xs) => partV P t (toVs false T (W.get xs i T.dflt)) off
    | _ => .fail
  | .elr b i => match h[resB h 1000 b]?, isAggB P t with
    | some (.rows T xs), some false => .val (.sl2 (resB h 1000 b) T.size i 0 (W.len (W.get xs i [])))
    | _, _ => .fail
  | .el2 b i j off => match h[b]? with
    | some (.rows T xs) => partV P t (toVs false T (W.get (W.get xs i []) j T.dflt)) off
    | _ => .fail
  | .rop w tt x off => partV P t (toVs w tt x) off
  | _ => .fail

def storeAct (P : Program) (t : TypeId) (a x : V) (h : List Blk) : Eff :=
  match a with
  | .ptr b off => match h[b]?, sizeB P t with
    | some (.cells c), some n => if x.cells.length == n && off + n ≤ c.length && x.cells.all V.scalar then .store b off x.cells else .fail
    | _, _ => .fail
  | .elp b i off => match h[b]? with
    | some (.row T xs) => match sizeB P t with
      | some n => if x.cells.length == n && decide (off + n ≤ T.size) then
          match decOne false T (List.splice (toVs false T (W.get xs i T.dflt)) off x.cells) with
          | some y => .put b T (W.set xs i y)
          | none => .fail
        else .fail
      | none => .fail
    | _ => .fail
  | .parr b n sz => match h[b]?, sizeB P t with
    | some (.row T _), some m => if x.cells.length == m && (m == n * sz && T.size == sz) then
        match decMany false T n x.cells with
        | some ys => .put b T ys
        | none => .fail
      else .fail
    | _, _ => .fail
  | .elr b i => match h[resB h 1000 b]?, sizeB P t, x with
    | some (.rows T xs), some 1, .sl b2 _ _ => match h[b2]? with
      | some (.row T' ys) => if hT : T' = T then
          .mod (fun slot => if isFree' h slot && slot != b2 && slot != resB h 1000 b && b2 != resB h 1000 b then
            some (((h.set b2 .dead).set slot (.rows T (W.set xs i (hT ▸ ys)))).set (resB h 1000 b) (.fwd slot)) else none) (fun _ => .tup [])
        else .fail
      | _ => .fail
    | _, _, _ => .fail
  | .el2 b i j off => match h[b]? with
    | some (.rows T xs) => match sizeB P t with
      | some n => if x.cells.length == n && decide (off + n ≤ T.size) then
          match decOne false T (List.splice (toVs false T (W.get (W.get xs i []) j T.dflt)) off x.cells) with
          | some y => .mod (fun _ => some (h.set b (.rows T (W.set xs i (W.set (W.get xs i []) j y))))) (fun _ => .tup [])
          | none => .fail
        else .fail
      | none => .fail
    | _ => .fail
  | _ => .fail

def nilAct : V → Eff
  | .ptr b off => .val (.ptr b off)
  | .parr b n sz => .val (.parr b n sz)
  | .cptr ss ps off => .val (.cptr ss ps off)
  | .elp b i off => .val (.elp b i off)
  | .elr b i => .val (.elr b i)
  | .el2 b i j off => .val (.el2 b i j off)
  | .rop w t x off => .val (.rop w t x off)
  | .fn f c => .val (.fn f c)
  | .mexp t n => .val (.mexp t n)
  | .iface t v => .val (.iface t v)
  | _ => .fail

/-- The part in which an address of a struct lies. -/
def partAt : List (Nat × Nat) → List V → Nat → Nat → Option V
  | (st, len) :: ss, p :: ps, off, n =>
    match p with
    | .ptr b o => if decide (st ≤ off) && decide (off + n ≤ st + len) && decide (0 < n) then some (.ptr b (o + (off - st))) else partAt ss ps off n
    | .parr b m sz => if st == off && len == n && decide (0 < n) then some (.parr b m sz) else partAt ss ps off n
    | _ => partAt ss ps off n
  | _, _, _, _ => none
def fieldAct (P : Program) (t : TypeId) (x : V) (f : Nat) : Eff :=
  match fieldB P t f with
  | some fd => match sizeB P fd.type with
    | some (n + 1) => match x with
      | .ptr b off => .val (.ptr b (off + fd.offset))
      | .cptr ss ps off => match partAt ss ps (off + fd.offset) (n + 1) with
        | some v => .val v
        | none => .val (.cptr ss ps (off + fd.offset))
      | .rop w tt x off => .val (.rop w tt x (off + fd.offset))
      | .elp b i off => .val (.elp b i (off + fd.offset))
      | .el2 b i j off => .val (.el2 b i j (off + fd.offset))
      | _ => .fail
    | _ => .fail
  | none => .fail
def fieldOfAct (P : Program) (t : TypeId) (x : V) (f : Nat) : Eff :=
  match fieldB P t f, x with
  | some fd, .agg c => partV P fd.type c fd.offset
  | _, _ => .fail

/-- An element that is itself a slice that is owned: of what. -/
def ownT (P : Program) (e : TypeId) : Option Ty :=
  match P.underlying e with
  | some (.slice f) => elemT P f
  | _ => none
/-- An index within bounds. -/
def inB (n : Int) (len : Nat) : Bool := W.and2 (W.le 0 n) (W.lt n (W.ofNat len))
def indexAct (P : Program) (t : TypeId) (x i : V) : Eff :=
  match P.underlying t, x, i with
  | some (.slice e), .ro w tt l, .int _ n => if sizeB P e != some tt.size then .fail else .ite (inB n (W.len l)) (.val (.rop w tt (W.get l (W.toNat n) tt.dflt) 0)) .fail
  | some (.slice e), .sl b sz len, .int _ n => if sizeB P e != some sz then .fail else .ite (inB n len) (.val (if (ownT P e).isSome then .elr b (W.toNat n) else .elp b (W.toNat n) 0)) .fail
  | some (.slice e), .sv b sz o len, .int _ n => if sizeB P e != some sz || (ownT P e).isSome then .fail else .ite (inB n len) (.val (.elp b (W.addN o (W.toNat n)) 0)) .fail
  | some (.slice e), .sl2 b sz i o len, .int _ n => if sizeB P e != some sz then .fail else .ite (inB n len) (.val (.el2 b i (W.addN o (W.toNat n)) 0)) .fail
  | some (.slice e), .csl b off sz len, .int _ n => if sizeB P e != some sz then .fail else .ite (inB n len) (.val (.ptr b (off + n.toNat * sz))) .fail
  | some (.array m e), .ptr b off, .int _ n => match sizeB P e with
    | some s => .ite (inB n m) (.val (.ptr b (off + n.toNat * s))) .fail
    | none => .fail
  | some (.array m e), .parr b len sz, .int _ n => if sizeB P e != some sz || m != len then .fail else .ite (inB n m) (.val (.elp b (W.toNat n) 0)) .fail
  | _, _, _ => .fail

def V.num? : V → Option Int
  | .int _ n => some n
  | _ => none
/-- A slice expression's bounds, the greatest one not above n: what must hold, from where, how many. -/
def cutB (n : Nat) (lo hi mx : Option V) : Option (Bool × Nat × Nat) :=
  match mx with
  | none => match lo, hi with
    | none, none => some (true, 0, n)
    | some l, none => match l.num? with
      | some l => some (W.and2 (W.le 0 l) (W.le l (W.ofNat n)), W.toNat l, W.subN n (W.toNat l))
      | none => none
    | none, some h => match h.num? with
      | some h => some (W.and2 (W.le 0 h) (W.le h (W.ofNat n)), 0, W.toNat h)
      | none => none
    | some l, some h => match l.num?, h.num? with
      | some l, some h => some (W.and2 (W.le 0 l) (W.and2 (W.le l h) (W.le h (W.ofNat n))), W.toNat l, W.subN (W.toNat h) (W.toNat l))
      | _, _ => none
  | some m => match lo, hi with
    | none, some h => match h.num?, m.num? with
      | some h, some m => some (W.and2 (W.le 0 h) (W.and2 (W.le h m) (W.le m (W.ofNat n))), 0, W.toNat h)
      | _, _ => none
    | some l, some h => match l.num?, h.num?, m.num? with
      | some l, some h, some m => some (W.and2 (W.le 0 l) (W.and2 (W.le l h) (W.and2 (W.le h m) (W.le m (W.ofNat n)))), W.toNat l, W.subN (W.toNat h) (W.toNat l))
      | _, _, _ => none
    | _, _ => none
def zeroV : Option V → Bool
  | some (.int _ n) => match n with
    | .ofNat 0 => true
    | _ => false
  | _ => false
def sliceLen : V → Option Nat
  | .ro _ _ l => some (W.len l)
  | .sl _ _ n | .sv _ _ _ n | .sl2 _ _ _ _ n | .csl _ _ _ n => some n
  | .nsl | .esl => some 0
  | _ => none
def sliceAct (P : Program) (t : TypeId) (x : V) (lo hi mx : Option V) : Eff :=
  match P.underlying t with
  | some (.slice e) =>
    if (sizeB P e).isNone then .fail else
    match sliceLen x with
    | none => .fail
    | some n =>
      if lo.isNone && zeroV mx && zeroV hi then .val .esl else
      match cutB n lo hi mx with
      | none => .fail
      | some (c, i, k) => match x with
        | .ro w tt l => if sizeB P e != some tt.size then .fail else .ite c (.val (.ro w tt (W.slice l i k))) .fail
        | .sl b sz n => if sizeB P e != some sz then .fail else if lo.isNone && hi.isNone then .val (.sl b sz n) else .ite c (.val (.sv b sz i k)) .fail
        | .sv b sz o _ => if sizeB P e != some sz then .fail else .ite c (.val (.sv b sz (W.addN o i) k)) .fail
        | .sl2 b sz j o _ => if sizeB P e != some sz then .fail else .ite c (.val (.sl2 b sz j (W.addN o i) k)) .fail
        | .nsl => .ite c (.val .nsl) .fail
        | .esl => .ite c (.val .esl) .fail
        | _ => .fail
  | some .string => match x, mx with
    | .str s, none => match cutB (W.size s) lo hi none with
      | some (c, i, k) => .ite c (.val (.str (W.cut s i k))) .fail
      | none => .fail
    | _, _ => .fail
  | some (.array m e) => match x with
    | .parr b n sz => if sizeB P e != some sz || m != n then .fail else
      match cutB n lo hi mx with
      | some (c, i, k) => if lo.isNone && hi.isNone && mx.isNone then .val (.sl b sz n) else .ite c (.val (.sv b sz i k)) .fail
      | none => .fail
    | _ => .fail
  | _ => .fail

def lenAct (P : Program) (t : TypeId) (x : V) : Eff :=
  match P.underlying t with
  | some (.slice _) => match sliceLen x with
    | some n => .val (.int .i64 (W.ofNat n))
    | none => .fail
  | some .string => match x with
    | .str s => .val (.int .i64 (W.ofNat (W.size s)))
    | _ => .fail
  | some (.array n _) => if n ≤ 1000000000 then .val (.int .i64 (W.ofNat n)) else .fail
  | _ => .fail

/-! ### slices that are made, grown, copied -/
/-- The elements of a slice. -/
def elems (T : Ty) (x : V) (h : List Blk) : Option (List T.D) :=
  match x with
  | .ro w t l => if hT : t = T then (if w && !T.flat then none else some (hT ▸ l)) else none
  | .sl b _ _ => match h[resB h 1000 b]? with
    | some (.row t xs) => if hT : t = T then some (hT ▸ xs) else none
    | _ => none
  | .sv b _ i n => match h[b]? with
    | some (.row t xs) => if hT : t = T then some (W.slice (hT ▸ xs) i n) else none
    | _ => none
  | .sl2 b _ i o n => match h[b]? with
    | some (.rows t xs) => if hT : t = T then some (W.slice (W.get (hT ▸ xs) i []) o n) else none
    | _ => none
  | .nsl | .esl => some []
  | .csl _ _ _ 0 => some []
  | _ => none
def convAct (P : Program) (src dst : TypeId) (x : V) (h : List Blk) : Eff :=
  match P.underlying src, P.underlying dst with
  | some (.int _), some (.int k) => match x with
    | .int _ n => .val (.int k (W.wrap k n))
    | _ => .fail
  | some (.slice e), some .string => match P.underlying e, elems (.int .u8) x h with
    | some (.int .u8), some l => .ite (W.leN (W.len l) roomA) (.val (.str (W.bytes l))) .fail
    | _, _ => .fail
  | some .string, some .string => match x with
    | .str s => .val (.str s)
    | _ => .fail
  | _, _ => .fail
def bytesB (P : Program) (t : TypeId) : Nat := ((P.info? t).map (·.bytes)).getD 0
def zeroT (P : Program) (e : TypeId) (T : Ty) : Option T.D := (zeroB P e).bind fun z => if z.known then decOne false T z.cells else none
def room : Int := 281474976710656
def makeAct (P : Program) (t : TypeId) (same : Bool) (n c : V) : Eff :=
  match P.underlying t, n, c with
  | some (.slice e), .int _ n, .int _ c =>
    if bytesB P e == 0 then .fail else
    let ok := if same then W.and2 (W.le 0 n) (W.le (W.mul (W.ofNat (bytesB P e)) n) room) else W.and2 (W.le 0 n) (W.and2 (W.le n c) (W.le (W.mul (W.ofNat (bytesB P e)) c) room))
    match ownT P e with
    | some T => match sizeB P e, zeroB P e with
      | some 1, some .nsl => .ite ok (.new [.rows T (W.rep (W.toNat n) [])] fun s => .sl s 1 (W.toNat n)) .fail
      | _, _ => .fail
    | none => match elemT P e with
      | some T => match zeroT P e T with
        | some x0 => .ite ok (.new [.row T (W.rep (W.toNat n) x0)] fun s => .sl s T.size (W.toNat n)) .fail
        | none => .fail
      | none => .fail
  | _, _, _ => .fail
def fillT (T : Ty) : List T.D → List (Nat × V) → Option (List T.D)
  | xs, [] => some xs
  | xs, (i, v) :: r => match decOne false T v.cells with
    | some y => if i < xs.length then fillT T (xs.set i y) r else none
    | none => none
def repV (z : List V) : Nat → List V
  | 0 => []
  | n + 1 => z ++ repV z n
/-- A slice of nothing. -/
def emptyB (P : Program) (t : TypeId) (len : Nat) (none : Bool) : Bool :=
  match P.underlying t with
  | some (.slice e) => len == 0 && none && (sizeB P e).isSome && ((P.info? e).bind (·.zero)).isSome
  | _ => false
def buildSliceAct (P : Program) (t : TypeId) (len : Nat) (parts : List (Nat × V)) (h : List Blk) : Eff :=
  if emptyB P t len parts.isEmpty then .val .esl else
  if !(parts.all fun p => p.2.known) then .fail else
  match P.underlying t with
  | some (.slice e) => match ownT P e with
    | some T => match len, parts with
      | 1, [(0, .sl b _ _)] => match h[b]? with
        | some (.row T' ys) => if hT : T' = T then
            match sizeB P e, zeroB P e with
            | some 1, some .nsl => .mod (fun slot => if isFree' h slot && slot != b then some ((h.set b .dead).set slot (.rows T [hT ▸ ys])) else none) (fun slot => .sl slot 1 1)
            | _, _ => .fail
          else .fail
        | _ => .fail
      | _, _ => .fail
    | none =>
      match elemT P e, sizeB P e, zeroB P e with
      | some T, some n, some z => if !(decide (len * n ≤ 1000000) && T.size == n && z.known) then .fail else
        match decOne false T z.cells with
        | some x0 => match fillT T (List.replicate len x0) parts with
          | some xs => .new [.row T xs] fun s => .sl s n len
          | none => .fail
        | none => .fail
      | none, some n, some z => if !(decide (len * n ≤ 1000000) && z.cells.length == n && z.known && decide (0 < n)) then .fail else
        match fillV (fun i => some (i * n, n)) (repV z.cells len) parts with
        | some c => .new [.cells c] fun s => .csl s 0 n len
        | none => .fail
      | _, _, _ => .fail
  | _ => .fail
def appendAct (P : Program) (t t2 : TypeId) (s x : V) (h : List Blk) : Eff :=
  match P.underlying t, P.underlying t2 with
  | some (.slice e), some (.slice _) =>
    if bytesB P e == 0 then .fail else
    match ownT P e with
    | some T => match x, sizeB P e, zeroB P e with
      | .sl b2 _ m, some 1, some .nsl => match h[b2]? with
        | some (.rows T2 ys) => if hT : T2 = T then
            match s with
            | .nsl | .esl => .ite (W.leN (W.mulN m (bytesB P e)) roomA) (.mod (fun slot => if isFree' h slot && slot != b2 then some ((h.set b2 .dead).set slot (.rows T (hT ▸ ys))) else none) (fun slot => .sl slot 1 m)) .fail
            | .sl b _ n => match h[resB h 1000 b]? with
              | some (.rows T1 xs) => if hT1 : T1 = T then
                  .ite (W.leN (W.mulN (W.addN n m) (bytesB P e)) roomA) (.mod (fun slot => if isFree' h slot && slot != b2 && slot != resB h 1000 b && b2 != resB h 1000 b then
                    some (((h.set b2 .dead).set (resB h 1000 b) .dead).set slot (.rows T (W.app (hT1 ▸ xs) (hT ▸ ys)))) else none) (fun slot => .sl slot 1 (W.addN n m))) .fail
                else .fail
              | _ => .fail
            | _ => .fail
          else .fail
        | _ => .fail
      | _, _, _ => .fail
    | none => match elemT P e with
      | some T => if (zeroT P e T).isNone then .fail else match elems T x h, sliceLen x with
        | some ys, some m => match s with
          | .nsl | .esl => .ite (W.leN (W.mulN m (bytesB P e)) roomA) (.new [.row T ys] (fun slot => .sl slot T.size m)) .fail
          | .sl b _ n => match h[b]? with
            | some (.row T1 xs) => if hT1 : T1 = T then
                .ite (W.leN (W.mulN (W.addN n m) (bytesB P e)) roomA) (.mod (fun slot => if isFree' h slot && slot != b then some ((h.set b .dead).set slot (.row T (W.app (hT1 ▸ xs) ys))) else none) (fun slot => .sl slot T.size (W.addN n m))) .fail
              else .fail
            | _ => .fail
          | _ => .fail
        | _, _ => .fail
      | none => .fail
  | _, _ => .fail
def copyAct (P : Program) (t : TypeId) (d x : V) (h : List Blk) : Eff :=
  match P.underlying t, sliceLen d, sliceLen x with
  | some (.slice e), some n, some m =>
    match elemT P e with
    | none => .fail
    | some T => match elems T x h with
      | none => .fail
      | some ys =>
        let k := W.minN m n
        match d with
        | .nsl | .esl => .val (.int .i64 (W.ofNat 0))
        | .sl b _ _ => match h[b]? with
          | some (.row T1 xs) => if hT1 : T1 = T then .mod (fun _ => some (h.set b (.row T (W.over (hT1 ▸ xs) 0 (W.slice ys 0 k))))) (fun _ => .int .i64 (W.ofNat k)) else .fail
          | _ => .fail
        | .sv b _ i _ => match h[b]? with
          | some (.row T1 xs) => if hT1 : T1 = T then .mod (fun _ => some (h.set b (.row T (W.over (hT1 ▸ xs) i (W.slice ys 0 k))))) (fun _ => .int .i64 (W.ofNat k)) else .fail
          | _ => .fail
        | .sl2 b _ i o _ => match h[b]? with
          | some (.rows T1 xs) => if hT1 : T1 = T then .mod (fun _ => some (h.set b (.rows T (W.set (hT1 ▸ xs) i (W.over (W.get (hT1 ▸ xs) i []) o (W.slice ys 0 k)))))) (fun _ => .int .i64 (W.ofNat k)) else .fail
          | _ => .fail
        | _ => .fail
  | _, _, _ => .fail

def max2V : V → V → Option V
  | .int k x, .int k' y => if k = k' then some (.int k (W.max x y)) else none
  | _, _ => none
def min2V : V → V → Option V
  | .int k x, .int k' y => if k = k' then some (.int k (W.min x y)) else none
  | _, _ => none
def foldV (f : V → V → Option V) : V → List V → Option V
  | x, [] => some x
  | x, y :: r => (f x y).bind fun z => foldV f z r

def builtinAct (P : Program) (b : Builtin) (ts : List TypeId) (args : List V) (h : List Blk) : Eff :=
  match b, ts, args with
  | .len, t :: _, [x] => lenAct P t x
  | .max, _, x :: r => match foldV max2V x r with | some v => .val v | none => .fail
  | .min, _, x :: r => match foldV min2V x r with | some v => .val v | none => .fail
  | .append, t :: t2 :: _, [s, x] => appendAct P t t2 s x h
  | .copy, t :: _, [d, x] => copyAct P t d x h
  | _, _, _ => .fail

mutual
def V.refs : V → List Nat
  | .ptr b _ | .parr b _ _ | .elp b _ _ | .elr b _ | .el2 b _ _ _ | .sl b _ _ | .sv b _ _ _ | .sl2 b _ _ _ _ | .csl b _ _ _ | .map b => [b]
  | .cptr _ ps _ => V.refsL ps
  | .fn _ c => V.refsL c
  | .iface _ v => V.refs v
  | .agg l | .tup l => V.refsL l
  | _ => []
def V.refsL : List V → List Nat
  | [] => []
  | v :: l => V.refs v ++ V.refsL l
end

mutual
/-- Slices of blocks as what lies in them (false: for good; true: while a call lasts). -/
def V.view (w : Bool) (h : List Blk) : V → V
  | .sl b sz n => match h[resB h 1000 b]? with
    | some (.row T xs) => .ro w T xs
    | some (.rows T xs) => .ro w (.slice T) xs
    | _ => .sl b sz n
  | .sv b sz i n => match h[b]? with
    | some (.row T xs) => .ro w T (W.slice xs i n)
    | _ => .sv b sz i n
  | .sl2 b sz i o n => match h[b]? with
    | some (.rows T xs) => .ro w T (W.slice (W.get xs i []) o n)
    | _ => .sl2 b sz i o n
  | .agg l => .agg (V.views w h l)
  | .tup l => .tup (V.views w h l)
  | v => v
def V.views (w : Bool) (h : List Blk) : List V → List V
  | [] => []
  | v :: l => V.view w h v :: V.views w h l
end

/-- What a loop's head makes of nil slices: arrays of the call's own. -/
inductive Hint where
  | tmp (u : Nat) (T : Ty) (two : Bool)
  | cell (u : Nat) (off : Nat) (T : Ty) (two : Bool)

mutual
/-- What a value refers to, it refers to by slices. -/
def V.onlySl : V → Bool
  | .sl .. | .sv .. | .sl2 .. => true
  | .agg l => V.onlySls l
  | v => (V.refs v).isEmpty
def V.onlySls : List V → Bool
  | [] => true
  | v :: l => V.onlySl v && V.onlySls l
end
structure Cfg where
  P : Program
  spec : FuncId → Option Spec
  hints : FuncId → Nat → List Hint
  /-- no type is a stand-in pack's -/
  np : Bool

/-- A method's function, where nothing stands between it and its receiver. -/
def methodB (P : Program) (t : TypeId) (name : String) : Option FuncId :=
  match P.info? t with
  | none => none
  | some i => match i.methods.find? (·.name == name) with
    | none => none
    | some m => if m.path.isEmpty then
        match m.func, P.underlying t with
        | some (f, true), some (.pointer _) => some f
        | some (_, false), some (.pointer _) => none
        | some (f, false), some _ => some f
        | _, _ => none
      else none
def bodyB (P : Program) (g : FuncId) : Bool := ((P.funcs[g]?).bind (·.body)).isSome
/-- Functions without a body that the model answers for: what a type is. -/
def plainDesc : Option TypeDesc → Bool
  | some (.int _) | some .bool | some .string | some (.pointer _) => true
  | _ => false
def extAct (np : Bool) (P : Program) (fn : Func) (args : List V) : Eff :=
  if fn.name == "internal/reflectlite.TypeOf" && fn.origin == "" then
    match args, P.cutTypes.find? (·.1 == "internal/reflectlite.rtype") with
    | [.iface t _], some (_, rt) => .val (.iface rt (.agg [.hdl P.globals.size t]))
    | _, _ => .fail
  else if fn.name == "(internal/reflectlite.rtype).Comparable" && fn.origin == "" then
    match args with
    | [.agg [.hdl b t]] => if np && (b == P.globals.size && (plainDesc (P.underlying t) && decide (0 < P.depth))) then
        match P.info? t with
        | some i => .val (.bool i.comparable)
        | none => .fail
      else .fail
    | _ => .fail
  else .fail
def enterAct (C : Cfg) (g : FuncId) (args : List V) (h : List Blk) : Eff :=
  if !bodyB C.P g then (if (C.spec g).isSome then .fail else match C.P.funcs[g]? with | some fn => extAct C.np C.P fn args | none => .fail) else
  match C.spec g with
  | some sp => if (V.refsL args).isEmpty then .call g sp args else
    if (V.refsL (V.views true h args)).isEmpty then .call g sp (V.views true h args) else if V.onlySls args then .fail else .enter g args
  | none => .enter g args
def nameB (P : Program) (g : FuncId) : String := ((P.funcs[g]?).map (·.name)).getD ""
def callAct (C : Cfg) (f : V) (args : List V) (h : List Blk) : Eff :=
  match f with
  | .fn g cap => enterAct C g (args ++ cap) h
  | .mexp t name => match args, C.P.underlying t with
    | _, some (.interface _) => .fail
    | r :: rest, some _ => match methodB C.P t name with
      | some g => enterAct C g (r :: rest) h
      | none => .fail
    | _, _ => .fail
  | _ => .fail
def invokeAct (C : Cfg) (recv : V) (name : String) (args : List V) (h : List Blk) : Eff :=
  match recv with
  | .iface t v => match methodB C.P t name with
    | some g => enterAct C g (v :: args) h
    | none => .fail
  | _ => .fail

/-! ### maps asked for by whole numbers; values behind interfaces -/
/-- The values of a literal map's entries. -/
def lookV (k : IntKind) (n : Int) (dflt : Eff) (hit : V → Eff) : List (V × V) → Eff
  | [] => dflt
  | (.int k' m, v) :: r => if k = k' then .ite (W.eq n m) (hit v) (lookV k n dflt hit r) else .fail
  | _ :: _ => .fail
def lookupAct (P : Program) (t : TypeId) (x i : V) (ok : Bool) (h : List Blk) : Eff :=
  match P.underlying t, x, i with
  | some (.map kt e), .map b, .int k n => match P.underlying kt, h[b]?, zeroB P e with
    | some (.int _), some (.map es), some z => if !z.known then .fail else
      lookV k n (.val (if ok then .tup [z, .bool false] else z)) (fun v => .val (if ok then .tup [v, .bool true] else v)) es
    | _, _, _ => .fail
  | _, _, _ => .fail
def newKey (k : IntKind) (n : Int) : List (V × V) → Bool
  | [] => true
  | (.int k' m, _) :: r => decide (k = k') && (W.ne n m && newKey k n r)
  | _ :: _ => false
def insertAct (P : Program) (t : TypeId) (x i v : V) (h : List Blk) : Eff :=
  match P.underlying t, x, i with
  | some (.map kt _), .map b, .int k n => match P.underlying kt, h[b]? with
    | some (.int _), some (.map es) => if !v.known then .fail else
      .ite (newKey k n es) (.mod (fun _ => some (h.set b (.map (es ++ [(.int k n, v)])))) fun _ => .tup []) .fail
    | _, _ => .fail
  | _, _, _ => .fail
/-- All methods that are wanted are there. -/
def lacksNone (want : Array (String × TypeId)) (got : Array Method) : Bool :=
  (want.toList.filter fun (name, sig) => !got.any fun m => m.name == name && m.sig == sig).isEmpty
def assertAct (P : Program) (x : V) (t : TypeId) (ok : Bool) : Eff :=
  let holds (v : V) : Eff := .val (if ok then .tup [v, .bool true] else v)
  let fails : Eff := if ok then (match zeroB P t with | some z => if z.known then .val (.tup [z, .bool false]) else .fail | none => .fail) else .fail
  match P.underlying t, x with
  | some (.interface _), .nili => fails
  | some (.interface want), .iface d v => match P.info? d with
    | some i => if lacksNone want i.methods then holds (.iface d v) else fails
    | none => .fail
  | some _, .nili => fails
  | some _, .iface d v => if d = t then holds v else fails
  | _, _ => .fail
/-- '==' of two values behind interfaces, of pointers and nil. -/
def sameAct (P : Program) (lit : Bool) (t : TypeId) (x y : V) : Option Bool :=
  match P.underlying t, x, y with
  | some (.interface _), .nili, .nili => if lit then some true else none
  | some (.interface _), .nili, .iface _ _ | some (.interface _), .iface _ _, .nili => some false
  | some (.interface _), .iface a v, .iface b u => if a ≠ b then some false else
    match P.info? a, P.underlying a, v, u with
    | some i, some (.int _), .int k n, .int k' m => if i.comparable && decide (k = k') then some (W.eq n m) else none
    | _, _, _, _ => none
  | some (.pointer _), .nilp, .nilp => some true
  | some (.pointer _), .nilp, .ptr _ _ | some (.pointer _), .ptr _ _, .nilp | some (.pointer _), .nilp, .cptr _ _ _ | some (.pointer _), .cptr _ _ _, .nilp => some false
  | _, _, _ => none

/-- An element of a string, of an array that is a value. -/
def idxAct (P : Program) (t : TypeId) (x i : V) : Eff :=
  match i with
  | .int _ n => match x with
    | .str s => match P.underlying t with
      | some .string => .ite (inB n (W.size s)) (.val (.int .u8 (W.byte s (W.toNat n)))) .fail
      | _ => .fail
    | .agg c => match P.underlying t with
      | some (.array m e) => match P.underlying e, sizeB P e with
        | some (.int k), some 1 => match decMany false (.int k) m c with
          | some xs => .ite (inB n m) (.val (.int k (W.get xs (W.toNat n) (0 : Int)))) .fail
          | none => .fail
        | _, _ => .fail
      | _ => .fail
    | _ => .fail
  | _ => .fail
def isConstO : Operand → Bool
  | .const _ => true
  | _ => false
def sameO : Operand → Operand → Bool
  | .tmp a, .tmp b => a == b
  | .const (.int k a), .const (.int k' b) => decide (k = k') && decide (a = b)
  | _, _ => false
def opAct (C : Cfg) (op : Op) (ρ : Operand → V) (h : List Blk) : Eff :=
  match op with
  | .move x | .assign x => .val (ρ x)
  | .alloc e => match zeroB C.P e with
    | some z => if z.known then newVarE C.P e z.cells else .fail
    | none => .fail
  | .box e x => if (ρ x).known then newVarE C.P e (ρ x).cells else .fail
  | .build t ps => buildAct C.P t (ps.toList.map fun p => (p.1, ρ p.2))
  | .buildSlice t len ps => buildSliceAct C.P t len (ps.toList.map fun p => (p.1, ρ p.2)) h
  | .load t a => loadAct C.P t (ρ a) h
  | .store t a x => storeAct C.P t (ρ a) (ρ x) h
  | .nilCheck x => nilAct (ρ x)
  | .binOp op t x y _ => match op, ρ x, ρ y with
    | .eql, a, b => match sameAct C.P (isConstO x || isConstO y) t a b with
      | some c => .val (.bool c)
      | none => binAct C.P op t a b
    | .neq, a, b => match sameAct C.P (isConstO x || isConstO y) t a b with
      | some c => .val (.bool (W.not c))
      | none => binAct C.P op t a b
    | _, a, b => binAct C.P op t a b
  | .unOp op _ x => unAct op (ρ x)
  | .convert a b x => convAct C.P a b (ρ x) h
  | .makeFunc (.func f) first cap => if first.isEmpty then .val (.fn f (cap.toList.map ρ)) else .fail
  | .makeFunc (.methodOf t name) first cap => if first.isEmpty && cap.isEmpty then .val (.mexp t name) else .fail
  | .makeSlice t n c => makeAct C.P t (sameO n c) (ρ n) (ρ c)
  | .slice t x lo hi mx => sliceAct C.P t (ρ x) (lo.map ρ) (hi.map ρ) (mx.map ρ)
  | .fieldAddr t x f => fieldAct C.P t (ρ x) f
  | .field t x f => fieldOfAct C.P t (ρ x) f
  | .indexAddr t x i => indexAct C.P t (ρ x) (ρ i)
  | .index t x i => idxAct C.P t (ρ x) (ρ i)
  | .makeInterface t x => match C.P.underlying t with
    | some (.interface _) | none => .fail
    | _ => .val (.iface t (ρ x))
  | .typeAssert x _ t ok => assertAct C.P (ρ x) t ok
  | .makeMap _ none => .new [.map []] (.map ·)
  | .insert t m k v | .mapUpdate t m k v => insertAct C.P t (ρ m) (ρ k) (ρ v) h
  | .lookup t x i ok => lookupAct C.P t (ρ x) (ρ i) ok h
  | .extract x i => match ρ x with
    | .tup l => match l[i]? with
      | some v => .val v
      | none => .fail
    | _ => .fail
  | .call c => match c.callee with
    | .value f => callAct C (ρ f) (c.args.toList.map ρ) h
    | .builtin b => builtinAct C.P b c.argTypes.toList (c.args.toList.map ρ) h
    | .invoke r name => invokeAct C (ρ r) name (c.args.toList.map ρ) h
  | _ => .fail

/-! ### the state -/
def killO (d : Nat) : Option (Nat × Bool × V) → Option (Nat × Bool × V)
  | some (g, w, v) => if g == d then none else some (g, w, v)
  | none => none
def S.put (s : S) (d : Option Nat) (v : V) : S :=
  match d with
  | none => s
  | some d => { s with t := s.t.set d v, o := (s.o.map (killO d)).set d none }
/-- A value that holds only where a guard does. -/
def S.putO (s : S) (d : Option Nat) (g : Nat × Bool) (v : V) : S :=
  match d with
  | none => s
  | some d => { s with t := s.t.set d .any, o := (s.o.map (killO d)).set d (some (g.1, g.2, v)) }

mutual
def V.shift (n : Nat) : V → V
  | .ptr b off => .ptr (n + b) off
  | .parr b m sz => .parr (n + b) m sz
  | .cptr ss ps off => .cptr ss (V.shifts n ps) off
  | .elp b i off => .elp (n + b) i off
  | .elr b i => .elr (n + b) i
  | .el2 b i j off => .el2 (n + b) i j off
  | .sl b sz m => .sl (n + b) sz m
  | .sv b sz i m => .sv (n + b) sz i m
  | .sl2 b sz i o m => .sl2 (n + b) sz i o m
  | .csl b off sz m => .csl (n + b) off sz m
  | .map b => .map (n + b)
  | .fn f c => .fn f (V.shifts n c)
  | .iface t v => .iface t (V.shift n v)
  | .agg l => .agg (V.shifts n l)
  | .tup l => .tup (V.shifts n l)
  | v => v
def V.shifts (n : Nat) : List V → List V
  | [] => []
  | v :: l => V.shift n v :: V.shifts n l
end

def storeH (h : List Blk) (b off : Nat) (vs : List V) : List Blk :=
  match h[b]? with
  | some (.cells c) => h.set b (.cells (List.splice c off vs))
  | _ => h

def putH (h : List Blk) (b : Nat) (x : Blk) : List Blk :=
  match h[b]? with
  | some (.row _ _) => h.set b x
  | _ => h

def setN : List Blk → Nat → List Blk → List Blk
  | h, _, [] => h
  | h, i, b :: r => setN (h.set i b) (i + 1) r

abbrev Rec (R : Type) := FuncId → List V → List Blk → (V → List Blk → Option R) → Option R

def isFree (h : List Blk) (i : Nat) : Bool :=
  match h[i]? with
  | some .free => true
  | _ => false
def allFree (h : List Blk) : Nat → Nat → Bool
  | _, 0 => true
  | i, n + 1 => isFree h i && allFree h (i + 1) n

/-- A list's spine is made first. -/
def forceL {α : Type} {R : Type} : List α → (List α → Option R) → Option R
  | [], k => k []
  | x :: l, k => forceL l fun l' => k (x :: l')
/-- A value is made first. -/
def forceV0 {R : Type} (v : V) (q : V → Option R) : Option R :=
  match v with
  | .any => q (.any)
  | .bool b => q (.bool b)
  | .int k n => q (.int k n)
  | .str s => q (.str s)
  | .ptr b off => q (.ptr b off)
  | .parr b n sz => q (.parr b n sz)
  | .cptr ss ps off => q (.cptr ss ps off)
  | .elp b i off => q (.elp b i off)
  | .elr b i => q (.elr b i)
  | .el2 b i j off => q (.el2 b i j off)
  | .nilp => q (.nilp)
  | .ro w t l => q (.ro w t l)
  | .rop w t x off => q (.rop w t x off)
  | .sl b sz n => q (.sl b sz n)
  | .sv b sz i n => q (.sv b sz i n)
  | .sl2 b sz i o n => q (.sl2 b sz i o n)
  | .csl b off sz n => q (.csl b off sz n)
  | .esl => q (.esl)
  | .nsl => q (.nsl)
  | .mexp t name => q (.mexp t name)
  | .nilf => q (.nilf)
  | .nili => q (.nili)
  | .map b => q (.map b)
  | .hdl g t => q (.hdl g t)
  | .fn f c => forceL c fun c => q (.fn f c)
  | .agg l => forceL l fun l => q (.agg l)
  | .tup l => forceL l fun l => q (.tup l)
  | .iface t x => q (.iface t x)
def forceV {R : Type} (v : V) (q : V → Option R) : Option R :=
  match v with
  | .any => q (.any)
  | .bool b => q (.bool b)
  | .int k n => q (.int k n)
  | .str s => q (.str s)
  | .ptr b off => q (.ptr b off)
  | .parr b n sz => q (.parr b n sz)
  | .cptr ss ps off => q (.cptr ss ps off)
  | .elp b i off => q (.elp b i off)
  | .elr b i => q (.elr b i)
  | .el2 b i j off => q (.el2 b i j off)
  | .nilp => q (.nilp)
  | .ro w t l => q (.ro w t l)
  | .rop w t x off => q (.rop w t x off)
  | .sl b sz n => q (.sl b sz n)
  | .sv b sz i n => q (.sv b sz i n)
  | .sl2 b sz i o n => q (.sl2 b sz i o n)
  | .csl b off sz n => q (.csl b off sz n)
  | .esl => q (.esl)
  | .nsl => q (.nsl)
  | .mexp t name => q (.mexp t name)
  | .nilf => q (.nilf)
  | .nili => q (.nili)
  | .map b => q (.map b)
  | .hdl g t => q (.hdl g t)
  | .fn f c => forceL c fun c => q (.fn f c)
  | .agg l => forceL l fun l => q (.agg l)
  | .tup l => forceL l fun l => q (.tup l)
  | .iface t x => forceV0 x fun x => q (.iface t x)
def forceVL {R : Type} : List V → (List V → Option R) → Option R
  | [], q => q []
  | v :: l, q => forceV v fun v => forceVL l fun l => q (v :: l)
def forceB {R : Type} (b : Blk) (q : Blk → Option R) : Option R :=
  match b with
  | .cells c => forceVL c fun c => q (.cells c)
  | .free => q .free
  | .dead => q .dead
  | .row t xs => q (.row t xs)
  | .rows t xs => q (.rows t xs)
  | .map es => q (.map es)
  | .fwd b => q (.fwd b)
def forceBL {R : Type} : List Blk → (List Blk → Option R) → Option R
  | [], q => q []
  | b :: l, q => forceB b fun b => forceBL l fun l => q (b :: l)

/-- What an operation does; 'slot': its own place for new blocks. -/
def Eff.run {R : Type} (rec : Rec R) (dst : Option Nat) (slot : Nat) (s : S) (k : S → Option R) : Eff → Option R
  | .fail => none
  | .val v => forceV v fun v => k (s.put dst v)
  | .store b off vs => forceVL vs fun vs => k ({ s with h := storeH s.h b off vs }.put dst (.tup []))
  | .put b T xs => k ({ s with h := putH s.h b (.row T xs) }.put dst (.tup []))
  | .new blks mk => if allFree s.h slot blks.length then forceBL blks fun blks => k ({ s with h := setN s.h slot blks }.put dst (mk slot)) else none
  | .mod f mk => match f slot with
    | some h' => k ({ s with h := h' }.put dst (mk slot))
    | none => none
  | .ite c x y => br c (x.run rec dst slot s k) (y.run rec dst slot s k)
  | .call g sp args => sp.run args fun v nb => if nb.length == sp.nNew && allFree s.h slot sp.nNew then forceV (v.shift slot) fun v => k ({ s with h := setN s.h slot nb }.put dst v) else none
  | .enter g args => rec g args s.h fun v h' => forceV v fun v => k ({ s with h := h' }.put dst v)

/-- The places that an operation may need for new blocks. -/
def resv (C : Cfg) (o : Oper) : Nat :=
  match o.op with
  | .alloc e | .box e _ => nBlk C.P e
  | .buildSlice .. | .makeSlice .. | .makeMap .. => 1
  | .store t _ _ => match C.P.underlying t with
    | some (.slice _) => 1
    | _ => 0
  | .call c => match c.callee with
    | .builtin .append => 1
    | .value (.func g) => ((C.spec g).map (·.nNew)).getD 0
    | _ => 0
  | _ => 0

/-- A guard's own truth: the guarding slot's bool, and of what it hangs on itself. -/
def guardB (s : S) : Nat → Nat → Bool → Option (Bool × List (Nat × Bool))
  | 0, _, _ => none
  | n + 1, g, w => match s.t.getD g .any with
    | .bool b => some (if w then b else W.not b, [(g, w)])
    | _ => match s.o.getD g none with
      | some (g', w', .bool b) => (guardB s n g' w').map fun (c, l) => (W.and2 c (if w then b else W.not b), (g, w) :: l)
      | some (g', w', .tup []) => (guardB s n g' w').map fun (_, l) => (false, (g, w) :: l)
      | _ => none

/-- What an operation touches of boxes: block, from, to. -/
abbrev Foot := List (Nat × Nat × Nat)
def footMeets (a b : Foot) : Bool := a.any fun x => b.any fun y => x.1 == y.1 && (decide (x.2.1 < y.2.2) && decide (y.2.1 < x.2.2))
def addrFoot (P : Program) (t : TypeId) (a : V) : Foot :=
  match a with
  | .ptr b off => [(b, off, off + (sizeB P t).getD 0)]
  | .elp b _ _ | .parr b _ _ => [(b, 0, 0 + 1)]
  | _ => []
/-- How an operation stands to memory: not at all; a load; a store; new blocks of its own alone (from, how many); anything. -/
inductive Kin where
  | pure | rd (f : Foot) | wr (f : Foot) | new (lo n : Nat) (c : Bool) | newr (lo n : Nat) | put (b : Nat) | rda | top
def V.ownSl : V → Bool
  | .sl .. | .sv .. | .sl2 .. => true
  | _ => false
def nilS : V → Bool
  | .nsl | .esl => true
  | _ => false
def plainE (P : Program) (t : TypeId) : Bool :=
  match P.underlying t with
  | some (.slice e) => (ownT P e).isNone
  | _ => false
def kinOf (C : Cfg) (slot : Nat) (op : Op) (ρ : Operand → V) : Kin :=
  match op with
  | .load t a => match ρ a with
    | .elr .. | .el2 .. => .rda
    | _ => .rd (addrFoot C.P t (ρ a))
  | .store t a _ => match ρ a with
    | .ptr .. => .wr (addrFoot C.P t (ρ a))
    | .elp b _ _ => .put b
    | _ => .top
  | .alloc e | .box e _ => .new slot (nBlk C.P e) (layout C.P e).isNone
  | .buildSlice t len ps => if emptyB C.P t len ps.toList.isEmpty then .pure else if (ps.toList.any fun p => (ρ p.2).ownSl) then .top else .new slot 1 false
  | .makeSlice .. | .makeMap .. => .new slot 1 false
  | .convert _ _ x => if (ρ x).ownSl then .top else .pure
  | .call c => match c.callee with
    | .value f => match ρ f with
      | .fn g cap => match C.spec g with
        | some sp => if (V.refsL (c.args.toList.map ρ ++ cap)).isEmpty then .new slot sp.nNew false else if V.onlySls (c.args.toList.map ρ ++ cap) then .newr slot sp.nNew else .top
        | none => .top
      | _ => .top
    | .builtin .len | .builtin .max | .builtin .min => .pure
    | .builtin .append => match c.argTypes.toList, c.args.toList.map ρ with
      | t :: _, [s, x] => if nilS s && !x.ownSl && plainE C.P t then .new slot 1 false else .top
      | _, _ => .top
    | _ => .top
  | .move _ | .assign _ | .pick .. | .build .. | .nilCheck _ | .binOp .. | .unOp .. | .makeFunc .. | .slice .. | .fieldAddr .. | .field .. | .indexAddr .. | .index .. | .extract .. | .makeInterface .. | .typeAssert .. => .pure
  | _ => .top
def outOf (f : Foot) (lo n : Nat) : Bool := f.all fun x => decide (x.1 < lo) || decide (lo + n ≤ x.1)
/-- Whether two may change places. -/
def Kin.apart : Kin → Kin → Bool
  | .pure, _ | _, .pure => true
  | .top, _ | _, .top => false
  | .rda, .rd _ | .rd _, .rda | .rda, .rda => true
  | .rda, _ | _, .rda => false
  | .newr a n, .rd f | .rd f, .newr a n => outOf f a n
  | .newr a n, .new b m c | .new b m c, .newr a n => c && (decide (a + n ≤ b) || decide (b + m ≤ a))
  | .newr .., _ | _, .newr .. => false
  | .wr f, .wr g | .wr f, .rd g | .rd f, .wr g => !footMeets f g
  | .rd _, .rd _ => true
  | .new a n _, .new b m _ => decide (a + n ≤ b) || decide (b + m ≤ a)
  | .new a n _, .rd f | .new a n _, .wr f | .rd f, .new a n _ | .wr f, .new a n _ => outOf f a n
  | .put b, .rd f | .put b, .wr f | .rd f, .put b | .wr f, .put b => outOf f b 1
  | .put b, .put c => decide (b ≠ c)
  | .put b, .new a n _ | .new a n _, .put b => decide (b < a) || decide (a + n ≤ b)

/-- The same literal value. -/
def V.same : V → V → Bool
  | .int k n, .int k' m => decide (k = k') && decide (n = m)
  | .str s, .str s' => decide (s = s')
  | .bool b, .bool b' => decide (b = b')
  | .fn f [], .fn g [] => decide (f = g)
  | .mexp t n, .mexp t' n' => decide (t = t') && decide (n = n')
  | .nsl, .nsl => true
  | .esl, .esl => true
  | .nilp, .nilp => true
  | _, _ => false
theorem V.same_eq : ∀ {a b : V}, V.same a b = true → a = b := by
  intro a b h
  unfold V.same at h
  split at h
  · simp only [Bool.and_eq_true, decide_eq_true_eq] at h; rw [h.1, h.2]
  · rw [of_decide_eq_true h]
  · rw [of_decide_eq_true h]
  · rw [of_decide_eq_true h]
  · simp only [Bool.and_eq_true, decide_eq_true_eq] at h; rw [h.1, h.2]
  · rfl
  · rfl
  · rfl
  · cases h
structure Log where
  i : Nat
  dst : Option Nat
  rs : List Nat
  kin : Kin
  /-- of a call: cells that hold the same literal ahead of it and behind it -/
  keep : Nat → Nat → Bool := fun _ _ => false
def keepOf (h h' : List Blk) (b off : Nat) : Bool :=
  match h[b]?, h'[b]? with
  | some (.cells c), some (.cells c') => c.length == c'.length && match c[off]?, c'[off]? with
    | some v, some v' => V.same v v'
    | _, _ => false
  | _, _ => false
def keepAll (k : Nat → Nat → Bool) (b : Nat) : Nat → Nat → Bool
  | _, 0 => true
  | lo, n + 1 => k b lo && keepAll k b (lo + 1) n
def keepLd (k : Nat → Nat → Bool) : Kin → Bool
  | .rd f => f.all fun x => decide (x.2.1 < x.2.2) && keepAll k x.1 x.2.1 (x.2.2 - x.2.1)
  | _ => false
/-- A call that makes no block. -/
def Kin.nought : Kin → Bool
  | .new _ n _ => n == 0
  | _ => false
def Kin.isTop : Kin → Bool
  | .top => true
  | _ => false
/-- The slots that an operation looks at. -/
def slotsOf (o : Oper) (gs : List (Nat × Bool)) : List Nat :=
  (o.op.operands.toList.filterMap fun | .tmp t => some t | _ => none) ++ gs.map (·.1)
def Log.apart (x y : Log) : Bool :=
  (match x.dst with | some d => !y.rs.contains d && y.dst != some d | none => true) &&
  (match y.dst with | some d => !x.rs.contains d | none => true) && (Kin.apart x.kin y.kin || ((x.kin.isTop && keepLd x.keep y.kin) || (x.kin.nought || y.kin.nought)))
/-- Which cells an operation that may do anything to memory surely leaves. -/
def keepFn (o : Oper) (slot : Nat) (s : S) (h' : List Blk) : Nat → Nat → Bool :=
  match o.guard, o.op with
  | none, .call c => match c.callee with
    | .value (.func _) => fun _ _ => false
    | .value _ => keepOf s.h h'
    | .builtin .append => fun b _ => !(slot :: (V.refsL (c.args.toList.map (s.rd [])) ++ (V.refsL (c.args.toList.map (s.rd []))).map (resB s.h 1000))).contains b
    | _ => fun _ _ => false
  | _, _ => fun _ _ => false
def logOk (bef : Nat) (y : Log) (log : List Log) : Bool :=
  log.all fun x => bef.testBit x.i || x.apart y

/-- Of each operation: which stand ahead of it, by its edges. -/
def befOf (acc : List Nat) (o : Oper) : Nat :=
  o.after.toList.foldl (fun m e => if Region.binds .any e then m ||| (2 ^ e.on ||| acc.getD e.on 0) else m) 0
def befsOf : List Oper → List Nat → List Nat
  | [], acc => acc
  | o :: r, acc => befsOf r (acc ++ [befOf acc o])

def edgesOk : List Oper → Nat → Bool
  | [], _ => true
  | o :: r, i => (o.after.toList.all fun e => !Region.binds .any e || decide (e.on < i)) && edgesOk r (i + 1)

def pickEff (c x y : V) : Eff :=
  match c, x, y with
  | .bool c, .bool x, .bool y => .val (.bool (W.pick c x y))
  | .bool c, x, y => .ite c (.val x) (.val y)
  | _, _, _ => .fail
/-- What an operation does, its operands read under guards that hold. -/
def effOf (C : Cfg) (o : Oper) (s : S) (gs : List (Nat × Bool)) : Eff :=
  match o.op with
  | .pick (.tmp c) a b => pickEff (s.rd gs (.tmp c)) (s.rd ((c, true) :: gs) a) (s.rd ((c, false) :: gs) b)
  | op => opAct C op (s.rd gs) s.h
/-- A guard, if there is one: its slot, whether it is wanted true, whether it holds, and all guards it stands on. -/
def guardOf (ops : Array Oper) (o : Oper) (s : S) : Option (Option (Nat × Bool × Bool) × List (Nat × Bool)) :=
  match o.guard with
  | none => some (none, [])
  | some (j, w) => match (ops[j]?).bind (·.dst) with
    | none => none
    | some g => (guardB s 4 g w).map fun x => (some (g, w, x.1), x.2)
/-- The guard's slot told as what the way has shown. -/
def S.lit (s : S) (gs : List (Nat × Bool)) (b : Bool) : S :=
  match gs with
  | [(g, w)] => { s with t := s.t.set g (.bool (if b then w else !w)) }
  | _ => s

def S.optOk (s : S) (d : Option Nat) (g : Nat) : Bool :=
  match d with
  | some d => decide (d < s.t.length) && (decide (d < s.o.length) && d != g)
  | none => false
/-- One operation. -/
def stepK {R : Type} (C : Cfg) (rec : Rec R) (ops : Array Oper) (o : Oper) (slot : Nat) (s : S) (k : S → Option R) : Option R :=
  match guardOf ops o s with
  | none => none
  | some (none, gs) => (effOf C o s gs).run rec o.dst slot s k
  | some (some (g, w, G), gs) =>
    match s.optOk o.dst g, effOf C o s gs with
    | true, .val v => forceV v fun v => k (s.putO o.dst (g, w) v)
    | true, .ite c (.val v) .fail => br (W.or2 (W.not G) c) (k (s.putO o.dst (g, w) v)) none
    | true, .ite c .fail (.val v) => br (W.or2 (W.not G) (W.not c)) (k (s.putO o.dst (g, w) v)) none
    | _, e => br G (e.run rec o.dst slot (s.lit gs true) k) (k ((s.lit gs false).put o.dst (.tup [])))

/-- No guarded value hangs on the slot, or stands there. -/
def freshO (s : S) (d : Nat) : Bool := (s.o.getD d none).isNone && s.o.all fun e => match e with | some (g, _, _) => g != d | none => true
def freshD (s : S) : Option Nat → Bool
  | some d => freshO s d
  | none => true
/-- The guards under which a log's operands are read. -/
def logGs (o : Oper) (gs : List (Nat × Bool)) : List (Nat × Bool) :=
  match o.op with
  | .pick (.tmp c) _ _ => (c, true) :: gs
  | _ => gs
def logOf (C : Cfg) (ops : Array Oper) (i slot : Nat) (o : Oper) (s : S) : Option Log :=
  if freshD s o.dst then
    (guardOf ops o s).map fun x => { i, dst := o.dst, rs := slotsOf o (logGs o x.2), kin := kinOf C slot o.op (s.rd (logGs o x.2)) }
  else none

def forceT {R : Type} (s : S) (k : S → Option R) : Option R := forceL s.o fun o => forceL s.t fun t => k { t := t, o := o, h := s.h }
def forceC {R : Type} (b : Blk) (q : Blk → Option R) : Option R :=
  match b with
  | .cells c => forceL c fun c => q (.cells c)
  | .free => q .free
  | .dead => q .dead
  | .row t xs => q (.row t xs)
  | .rows t xs => q (.rows t xs)
  | .map es => q (.map es)
  | .fwd b => q (.fwd b)
def forceH {R : Type} : List Blk → (List Blk → Option R) → Option R
  | [], q => q []
  | b :: l, q => forceC b fun b => forceH l fun l => q (b :: l)
def forceE {R : Type} (s : S) (k : S → Option R) : Option R := forceL s.t fun t => forceH s.h fun h => k { t := t, o := [], h := h }
def opsK {R : Type} (C : Cfg) (rec : Rec R) (ops : Array Oper) (draw : Bool) (bef : List Nat) : List Oper → Nat → Nat → List Log → S → (S → Option R) → Option R
  | [], _, _, _, s, k => forceE s k
  | o :: rest, i, slot, log, s, k =>
    if draw then
      match logOf C ops i slot o s with
      | none => none
      | some y => if logOk (bef.getD i 0) y log then stepK C rec ops o slot s fun s' => forceT s' fun s' => opsK C rec ops draw bef rest (i + 1) (slot + resv C o) ({ y with keep := keepFn o slot s s'.h } :: log) s' k else none
    else stepK C rec ops o slot s fun s' => forceT s' fun s' => opsK C rec ops draw bef rest (i + 1) (slot + resv C o) [] s' k

inductive Ex where
  | normal | exit (id : Nat) | ret

/-! ### which slots are needed: masks -/
def useM (m : Nat) : Operand → Nat
  | .tmp t => m ||| 2 ^ t
  | _ => m
def dropM (m : Nat) : Option Nat → Nat
  | some d => if m.testBit d then m ^^^ 2 ^ d else m
  | none => m
def liveOps : List Oper → Nat → Nat
  | [], m => m
  | o :: r, m => o.op.operands.toList.foldl useM (dropM (liveOps r m) o.dst)
def liveIn (ex : List (Nat × Nat)) (rl : Nat) : Code → Nat → Nat
  | .region _ ops _, m => liveOps ops.toList m
  | .seq a b, m => liveIn ex rl a (liveIn ex rl b m)
  | .cond c x y, m => useM (liveIn ex rl x m ||| liveIn ex rl y m) c
  | .block id b, m => liveIn ((id, m) :: ex) rl b m
  | .loop b, _ => liveIn ex rl b 0
  | .exit id, _ => (ex.lookup id).getD 0
  | .ret, _ => rl
  | _, m => m

mutual
def V.ren (r : Nat → Option Nat) : V → V
  | .ptr b off => match r b with | some b' => .ptr b' off | none => .any
  | .parr b m sz => match r b with | some b' => .parr b' m sz | none => .any
  | .cptr ss ps off => .cptr ss (V.rens r ps) off
  | .elp b i off => match r b with | some b' => .elp b' i off | none => .any
  | .elr b i => match r b with | some b' => .elr b' i | none => .any
  | .el2 .. | .sl2 .. => .any
  | .sl b sz m => match r b with | some b' => .sl b' sz m | none => .any
  | .sv b sz i m => match r b with | some b' => .sv b' sz i m | none => .any
  | .csl b off sz m => match r b with | some b' => .csl b' off sz m | none => .any
  | .map b => match r b with | some b' => .map b' | none => .any
  | .fn f c => .fn f (V.rens r c)
  | .iface t v => .iface t (V.ren r v)
  | .agg l => .agg (V.rens r l)
  | .tup l => .tup (V.rens r l)
  | v => v
def V.rens (r : Nat → Option Nat) : List V → List V
  | [] => []
  | v :: l => V.ren r v :: V.rens r l
end
def renE (r : Nat → Option Nat) : List (V × V) → List (V × V)
  | [] => []
  | (k, v) :: l => (V.ren r k, V.ren r v) :: renE r l
def Blk.ren (r : Nat → Option Nat) : Blk → Blk
  | .cells c => .cells (V.rens r c)
  | .map es => .map (renE r es)
  | .fwd b => match r b with | some b' => .fwd b' | none => .dead
  | b => b
def refsE : List (V × V) → List Nat
  | [] => []
  | (_, v) :: l => V.refs v ++ refsE l
def Blk.refs : Blk → List Nat
  | .cells c => V.refsL c
  | .map es => refsE es
  | .fwd b => [b]
  | _ => []
/-- The blocks from n0 on that can be reached, in the order in which they are met. -/
def reach (h : List Blk) (n0 : Nat) : Nat → List Nat → List Nat → List Nat
  | 0, _, acc => acc
  | _ + 1, [], acc => acc
  | n + 1, b :: todo, acc => if resB h 1000 b < n0 || acc.contains (resB h 1000 b) then reach h n0 n todo acc else reach h n0 n ((h.getD (resB h 1000 b) .dead).refs ++ todo) (acc ++ [resB h 1000 b])
def liveBlk (h : List Blk) (b : Nat) : Bool :=
  match h[b]? with
  | some .free | none => false
  | _ => true
def nodupB : List Nat → Bool
  | [] => true
  | x :: l => !l.contains x && nodupB l
def maskT (m : Nat) : Nat → List V → List V
  | _, [] => []
  | i, v :: l => (if m.testBit i then v else .any) :: maskT m (i + 1) l
def renI (h : List Blk) (n0 : Nat) (ids : List Nat) (b : Nat) : Option Nat := if resB h 1000 b < n0 then some (resB h 1000 b) else (ids.idxOf? (resB h 1000 b)).map (n0 + ·)
/-- The state at a loop's head: what is needed no more is forgotten, blocks are numbered anew. -/
def headF (m n0 : Nat) (s : S) : Option S :=
  let t := maskT m 0 s.t
  let ids := reach s.h n0 1000 (V.refsL t ++ (s.h.take n0).flatMap Blk.refs) []
  if nodupB ids && ids.all (fun b => liveBlk s.h b && decide (n0 ≤ b)) && decide (n0 ≤ s.h.length) then
    some { t := V.rens (renI s.h n0 ids) t, o := [], h := (s.h.take n0).map (Blk.ren (renI s.h n0 ids)) ++ ids.map fun b => (s.h.getD b .dead).ren (renI s.h n0 ids) }
  else none
def newBlk (T : Ty) (two : Bool) : Blk := if two then .rows T [] else .row T []
def newSl (T : Ty) (two : Bool) (b : Nat) : V := .sl b (if two then 1 else T.size) 0
def isNil : V → Bool
  | .nsl | .esl => true
  | _ => false
def hintF : List Hint → S → S
  | [], s => s
  | .tmp u T two :: r, s => hintF r (if isNil (s.t.getD u .any) && decide (0 < T.size) then { s with t := s.t.set u (newSl T two s.h.length), h := s.h ++ [newBlk T two] } else s)
  | .cell u off T two :: r, s =>
    let p := match s.t.getD u .any with
      | .ptr b o => some (b, o + off)
      | .cptr ss ps o => match partAt ss ps (o + off) 1 with
        | some (.ptr b o') => some (b, o')
        | _ => none
      | _ => none
    match p with
    | some (b, o) => match s.h[b]? with
      | some (.cells c) => if isNil (c.getD o .any) && decide (0 < T.size) then hintF r { s with h := s.h.set b (.cells (c.set o (newSl T two s.h.length))) ++ [newBlk T two] } else hintF r s
      | _ => hintF r s
    | none => hintF r s

def loopH {R : Type} (body : S → (Ex → S → Option R) → Option R) (head : S → Option S) : Nat → Option S → (Ex → S → Option R) → Option R
  | 0, _, _ => none
  | _ + 1, none, _ => none
  | n + 1, some s1, k => body s1 fun e s' => match e with
    | .normal => loopH body head n (head s') k
    | e => k e s'
def firstId : Code → Nat
  | .region id _ _ => id
  | .seq a b => match firstId a with
    | 0 => firstId b
    | n => n
  | .cond _ a b => match firstId a with
    | 0 => firstId b
    | n => n
  | .block _ b => firstId b
  | .loop b => firstId b
  | _ => 0

def exec {R : Type} (C : Cfg) (fl n0 : Nat) (g : FuncId) (rec : Rec R) (rl : Nat) : Code → List (Nat × Nat) → Nat → S → (Ex → S → Option R) → Option R
  | .skip, _, _, s, k => k .normal s
  | .region _ ops draw, _, _, s, k =>
    let n := (ops.toList.map (resv C)).foldl (· + ·) 0
    let bef := if draw then befsOf ops.toList [] else []
    if draw && !edgesOk ops.toList 0 then none else
    opsK C rec ops draw bef ops.toList 0 s.h.length [] { s with h := s.h ++ List.replicate n .free, o := if ops.any (·.guard.isSome) then List.replicate s.t.length none else [] } fun s' => k .normal s'
  | .seq a b, ex, m, s, k => exec C fl n0 g rec rl a ex (liveIn ex rl b m) s fun e s' => match e with
    | .normal => exec C fl n0 g rec rl b ex m s' k
    | e => k e s'
  | .cond c x y, ex, m, s, k => match s.rd [] c with
    | .bool b => br b (exec C fl n0 g rec rl x ex m s k) (exec C fl n0 g rec rl y ex m s k)
    | _ => none
  | .block id body, ex, m, s, k => exec C fl n0 g rec rl body ((id, m) :: ex) m s fun e s' => match e with
    | .exit id' => if id' == id then k .normal s' else k (.exit id') s'
    | e => k e s'
  | .loop body, ex, m, s, k => loopH (fun s k => exec C fl n0 g rec rl body ex (liveIn ex rl body 0) s k) (fun s => headF (liveIn ex rl body 0) n0 (hintF (C.hints g (firstId body)) s)) fl (headF (liveIn ex rl body 0) n0 (hintF (C.hints g (firstId body)) s)) k
  | .exit id, _, _, s, k => k (.exit id) s
  | .ret, _, _, s, k => k .ret s
  | _, _, _, _, _ => none

/-- A function's results. -/
def resOne (P : Program) (s : S) : ResultVar → Option V
  | .tmp t => some (s.t.getD t .any)
  | .cell a t => match loadAct P t (s.t.getD a .any) s.h with
    | .val v => some v
    | _ => none
def resAll (P : Program) (s : S) : List ResultVar → Option (List V)
  | [] => some []
  | r :: rs => (resOne P s r).bind fun v => (resAll P s rs).map (v :: ·)
def results (P : Program) (fn : Func) (s : S) : Option V :=
  (resAll P s fn.results.toList).map fun
    | [v] => v
    | vs => .tup vs

def execFn {R : Type} (C : Cfg) (fl : Nat) (rec : Rec R) (g : FuncId) (args : List V) (h : List Blk) (k : V → List Blk → Option R) : Option R :=
  match C.P.funcs[g]? with
  | none => none
  | some fn => match fn.body with
    | none => none
    | some c => exec C fl h.length g rec (fn.results.toList.foldl (fun m r => match r with | .tmp t => m ||| 2 ^ t | .cell t _ => m ||| 2 ^ t) 0) c [] 0 { t := args ++ List.replicate (fn.ntmps - args.length) (.tup []), o := [], h := h } fun e s => match e with
      | .exit _ => none
      | _ => match results C.P fn s with
        | some v => k v s.h
        | none => none

def call {R : Type} (C : Cfg) (fl : Nat) : Nat → Rec R
  | 0 => fun _ _ _ _ => none
  | d + 1 => execFn C fl (call C fl d)

/-! ### functions of plain data, by their types -/
/-- A parameter: one cell, or a struct's cells; a result that is the caller's own. -/
inductive PT where
  | one (t : Ty) | agg (t : Ty) | own (t : Ty) | owns (t : Ty)
@[reducible] def PT.D : PT → Type
  | .one t => t.D
  | .agg t => t.D
  | .own t => List t.D
  | .owns t => List (List t.D)
@[reducible] def PTs.D : List PT → Type
  | [] => Unit
  | [p] => p.D
  | p :: q :: r => p.D × PTs.D (q :: r)

def decP (w : Bool) : (p : PT) → V → Option p.D
  | .one t, v => decOne w t [v]
  | .agg t, v => match v with
    | .agg l => decOne w t l
    | _ => none
  | .own _, _ => none
  | .owns _, _ => none
def decL (w : Bool) : (ps : List PT) → List V → Option (PTs.D ps)
  | [], [] => some ()
  | [p], [v] => decP w p v
  | p :: q :: r, v :: l => match decP w p v with
    | some x => match decL w (q :: r) l with
      | some y => some (x, y)
      | none => none
    | none => none
  | _, _ => none
def encP (w : Bool) : (p : PT) → p.D → V
  | .one t, x => match toVs w t x with
    | [v] => v
    | _ => .any
  | .agg t, x => .agg (toVs w t x)
  | .own _, _ => .any
  | .owns _, _ => .any
def encL (w : Bool) : (ps : List PT) → PTs.D ps → List V
  | [], _ => []
  | [p], x => [encP w p x]
  | p :: q :: r, x => encP w p x.1 :: encL w (q :: r) x.2
/-- Results, where arrays that are the call's own are handed over (own), or are never written again. -/
def decRP (h : List Blk) : (p : PT) → V → Option p.D
  | .one t, v => decOne false t [V.view false h v]
  | .agg t, v => match v with
    | .agg l => decOne false t (V.views false h l)
    | _ => none
  | .own t, v => match v with
    | .sl b _ _ => match h[b]? with
      | some (.row t' xs) => if hT : t' = t then some (hT ▸ xs) else none
      | _ => none
    | _ => none
  | .owns t, v => match v with
    | .sl b _ _ => match h[resB h 1000 b]? with
      | some (.rows t' xs) => if hT : t' = t then some (hT ▸ xs) else none
      | _ => none
    | _ => none
def decRL (h : List Blk) : (ps : List PT) → List V → Option (PTs.D ps)
  | [], [] => some ()
  | [p], [v] => decRP h p v
  | p :: q :: r, v :: l => match decRP h p v with
    | some x => match decRL h (q :: r) l with
      | some y => some (x, y)
      | none => none
    | none => none
  | _, _ => none
def isOwn : PT → Bool
  | .own _ | .owns _ => true
  | _ => false
/-- The blocks that are handed over, and those that what is handed back else refers to. -/
def ownIds (h : List Blk) : List PT → List V → List Nat
  | p :: ps, v :: vs => (if isOwn p then (V.refs v).map (resB h 1000) else []) ++ ownIds h ps vs
  | _, _ => []
def frzIds (h : List Blk) : List PT → List V → List Nat
  | p :: ps, v :: vs => (if isOwn p then [] else (V.refs v).map (resB h 1000)) ++ frzIds h ps vs
  | _, _ => []
def ownOk (h : List Blk) (ps : List PT) (vs : List V) : Bool :=
  nodupB (ownIds h ps vs) && (ownIds h ps vs).all fun b => !(frzIds h ps vs).contains b
def V.spread : List PT → V → Option (List V)
  | [_], v => some [v]
  | _, .tup l => some l
  | _, _ => none
/-- Nil where an array of the call's own is handed over: an empty one. -/
def ownN : List PT → List V → List Blk → List V × List Blk
  | p :: ps, v :: vs, h =>
    match p with
    | .own t => if isNil v && decide (0 < t.size) then (newSl t false h.length :: (ownN ps vs (h ++ [newBlk t false])).1, (ownN ps vs (h ++ [newBlk t false])).2) else (v :: (ownN ps vs h).1, (ownN ps vs h).2)
    | .owns t => if isNil v && decide (0 < t.size) then (newSl t true h.length :: (ownN ps vs (h ++ [newBlk t true])).1, (ownN ps vs (h ++ [newBlk t true])).2) else (v :: (ownN ps vs h).1, (ownN ps vs h).2)
    | _ => (v :: (ownN ps vs h).1, (ownN ps vs h).2)
  | _, vs, h => (vs, h)
def decR (qs : List PT) (v : V) (h : List Blk) : Option (PTs.D qs) :=
  match v.spread qs with
  | some vs => match ownN qs vs h with
    | (vs, h) => if ownOk h qs vs then decRL h qs vs else none
  | none => none
def encRP (i : Nat) : (p : PT) → p.D → V × List Blk
  | .one t, x => (encP false (.one t) x, [])
  | .agg t, x => (encP false (.agg t) x, [])
  | .own t, x => (.sl i t.size (W.len x), [.row t x])
  | .owns t, x => (.sl i 1 (W.len x), [.rows t x])
def nOwn : List PT → Nat
  | [] => 0
  | p :: ps => (if isOwn p then 1 else 0) + nOwn ps
def encRL : (i : Nat) → (ps : List PT) → PTs.D ps → List V × List Blk
  | _, [], _ => ([], [])
  | i, [p], x => ([(encRP i p x).1], (encRP i p x).2)
  | i, p :: q :: r, x => ((encRP i p x.1).1 :: (encRL (i + if isOwn p then 1 else 0) (q :: r) x.2).1, (encRP i p x.1).2 ++ (encRL (i + if isOwn p then 1 else 0) (q :: r) x.2).2)
def encR (qs : List PT) (x : PTs.D qs) : V × List Blk :=
  match qs, encRL 0 qs x with
  | [_], ([v], bs) => (v, bs)
  | _, (vs, bs) => (.tup vs, bs)

abbrev FT (ps qs : List PT) := (R : Type) → PTs.D ps → (PTs.D qs → Option R) → Option R
def mkS (ps qs : List PT) (F : FT ps qs) : Spec := ⟨nOwn qs, fun {R} args k => match decL true ps args with
  | some x => F R x fun y => k (encR qs y).1 (encR qs y).2
  | none => none⟩
/-- What a call hands back, read as its results. -/
def getR {R : Type} (qs : List PT) (k : PTs.D qs → Option R) (v : V) (h : List Blk) : Option R :=
  match decR qs v h with
  | some y => k y
  | none => none
/-- What a law's body hands on. -/
def getL (v : V) (h : List Blk) : Option Unit :=
  match v with
  | .bool b => br b (some ()) none
  | _ => none
def noH : FuncId → Nat → List Hint := fun _ _ => []
/-- Fuel. -/
def W.big : Nat := 18446744073709551616
def Cw (P : Program) (l : List (FuncId × Spec)) (hints : FuncId → Nat → List Hint) : Cfg := { P := P, spec := fun g => l.lookup g, hints := hints, np := true }

end Go.Eng
