/- The engine, part A: an interpreter of the translated code over values without memory addresses; what it computes is a plain Lean term. -/
import Derived.Calls
import Derived.Orders
import Derived.LoopN
import Derived.Below
set_option linter.unusedVariables false
namespace Go.Eng
open Go
universe u


/-! ### what is computed with unknown numbers: each by a name, so that a print may show it -/
namespace W
def wrap (k : IntKind) (n : Int) : Int := k.wrap n
def add (a b : Int) : Int := a + b
def sub (a b : Int) : Int := a - b
def mul (a b : Int) : Int := a * b
def quo (a b : Int) : Int := a.tdiv b
def rem (a b : Int) : Int := a.tmod b
def and (k : IntKind) (a b : Int) : Int := ((BitVec.ofInt k.bits a &&& BitVec.ofInt k.bits b).toNat : Nat)
def or (k : IntKind) (a b : Int) : Int := ((BitVec.ofInt k.bits a ||| BitVec.ofInt k.bits b).toNat : Nat)
def xor (k : IntKind) (a b : Int) : Int := ((BitVec.ofInt k.bits a ^^^ BitVec.ofInt k.bits b).toNat : Nat)
def andNot (k : IntKind) (a b : Int) : Int := ((BitVec.ofInt k.bits a &&& ~~~(BitVec.ofInt k.bits b)).toNat : Nat)
def shl (k : IntKind) (a b : Int) : Int := a * 2 ^ (min b.toNat k.bits)
def shr (k : IntKind) (a b : Int) : Int := a.fdiv (2 ^ (min b.toNat k.bits))
def eq (a b : Int) : Bool := a == b
def ne (a b : Int) : Bool := a != b
def lt (a b : Int) : Bool := a < b
def le (a b : Int) : Bool := a ≤ b
def gt (a b : Int) : Bool := a > b
def ge (a b : Int) : Bool := a ≥ b
def not (a : Bool) : Bool := !a
def and2 (a b : Bool) : Bool := a && b
def or2 (a b : Bool) : Bool := a || b
def eqB (a b : Bool) : Bool := a == b
def pick (c x y : Bool) : Bool := bif c then x else y
def max (x y : Int) : Int := if y > x then y else x
def min (x y : Int) : Int := if y < x then y else x
def toNat (n : Int) : Nat := n.toNat
def len {α : Type} (l : List α) : Nat := l.length
def ofNat (n : Nat) : Int := n
def get {α : Type} (l : List α) (i : Nat) (d : α) : α := l.getD i d
def addN (a b : Nat) : Nat := a + b
def mulN (a b : Nat) : Nat := a * b
def ltN (a b : Nat) : Bool := a < b
def byte (s : ByteArray) (i : Nat) : Int := if h : i < s.size then (s[i].toNat : Int) else 0
def size (s : ByteArray) : Nat := s.size
end W
/-- A way that parts by an unknown bool. -/
def br {α : Type u} (c : Bool) (x y : α) : α := bif c then x else y

inductive Ty where
  | int (k : IntKind) | bool | str | unit | prod (a b : Ty) | slice (t : Ty)
  deriving DecidableEq

@[reducible] def Ty.D : Ty → Type
  | .int _ => Int
  | .bool => Bool
  | .str => ByteArray
  | .unit => Unit
  | .prod a b => a.D × b.D
  | .slice t => List t.D

def Ty.size : Ty → Nat
  | .int _ | .bool | .str | .slice _ => 1
  | .unit => 0
  | .prod a b => a.size + b.size

def Ty.dflt : (t : Ty) → t.D
  | .int _ => (0 : Int)
  | .bool => false
  | .str => ByteArray.empty
  | .unit => ()
  | .prod a b => (a.dflt, b.dflt)
  | .slice _ => []

inductive V : Type where
  | any
  | bool (b : Bool)
  | int (k : IntKind) (n : Int)
  | str (s : ByteArray)
  | ptr (b : Nat) (off : Nat)
  | nilp
  | ro (t : Ty) (l : List t.D)
  | rop (t : Ty) (x : t.D) (off : Nat)
  | sl (b : Nat) (off len : Nat)
  | slp (b : Nat) (i : Nat) (off : Nat)
  | nsl
  | fn (f : FuncId) (cap : List V)
  | nilf
  | iface (t : TypeId) (v : V)
  | nili
  | agg (l : List V)
  | tup (l : List V)
  | map (b : Nat)

/-- An element's cells. -/
def toVs : (t : Ty) → t.D → List V
  | .int k, n => [.int k n]
  | .bool, b => [.bool b]
  | .str, s => [.str s]
  | .unit, _ => []
  | .prod a b, x => toVs a x.1 ++ toVs b x.2
  | .slice t, l => [.ro t l]

inductive Blk : Type where
  | free
  | dead
  | cells (t : TypeId) (c : List V)
  | row (e : TypeId) (t : Ty) (xs : List t.D)
  | map (es : List (V × V))

structure Spec where
  nNew : Nat
  run : {R : Type} → List V → (V → List Blk → Option R) → Option R

structure S where
  t : List V
  o : List (Option (Nat × Bool × V))
  h : List Blk

inductive Eff : Type 1 where
  | fail
  | val (v : V)
  | store (b off : Nat) (vs : List V)
  | new (blk : Blk) (mk : Nat → V)
  | setb (b : Nat) (blk : Blk) (v : V)
  | ite (c : Bool) (x y : Eff)
  | call (g : FuncId) (sp : Spec) (args : List V)
  | enter (g : FuncId) (args : List V)

def V.cells : V → List V
  | .agg l => l
  | v => [v]

def V.scalar : V → Bool
  | .any | .agg _ | .tup _ => false
  | _ => true

def V.known : V → Bool
  | .any => false
  | _ => true

/-- A constant's value; of nested ones the first two layers. -/
def ofConst0 : Value → V
  | .bool b => .bool b
  | .int k n => if (Lit.int k n).wf then .int k n else .any
  | .string s => if s.size ≤ 1000000000 then .str s else .any
  | .pointer none => .nilp
  | .slice none 0 0 => .nsl
  | .nilFunc => .nilf
  | .nilIface => .nili
  | _ => .any
def ofConst : Value → V
  | .agg cs => .agg (cs.toList.map ofConst0)
  | .tuple cs => .tup (cs.toList.map ofConst0)
  | v => ofConst0 v

def List.splice {α : Type} : List α → Nat → List α → List α
  | l, _, [] => l
  | l, off, v :: vs => List.splice (l.set off v) (off + 1) vs

/-! ### types -/
def isAggB (P : Program) (t : TypeId) : Option Bool :=
  match P.underlying t with
  | some (.struct _) | some (.array _ _) => some true
  | some _ => some false
  | none => none
def sizeB (P : Program) (t : TypeId) : Option Nat := (P.info? t).map (·.size)
def zeroB (P : Program) (t : TypeId) : Option V := (P.info? t).bind fun i => i.zero.map ofConst
def fieldB (P : Program) (t : TypeId) (f : Nat) : Option Field :=
  match P.underlying t with
  | some (.struct fs) => fs[f]?
  | _ => none

/-! ### operands -/
def S.rd (s : S) (gs : List (Nat × Bool)) : Operand → V
  | .tmp u => match s.o.getD u none with
    | some (g, w, v) => if gs.any (fun x => x.1 == g && x.2 == w) then v else s.t.getD u .any
    | none => s.t.getD u .any
  | .const v => ofConst v
  | .func f => .fn f []
  | .global _ => .any

/-! ### operations on whole values -/
def binInt (op : BinOp) (k : IntKind) (a b : Int) : Eff :=
  match op with
  | .add => .val (.int k (W.wrap k (W.add a b)))
  | .sub => .val (.int k (W.wrap k (W.sub a b)))
  | .mul => .val (.int k (W.wrap k (W.mul a b)))
  | .quo => .ite (W.eq b 0) .fail (.val (.int k (W.wrap k (W.quo a b))))
  | .rem => .ite (W.eq b 0) .fail (.val (.int k (W.rem a b)))
  | .and => .val (.int k (W.wrap k (W.and k a b)))
  | .or => .val (.int k (W.wrap k (W.or k a b)))
  | .xor => .val (.int k (W.wrap k (W.xor k a b)))
  | .andNot => .val (.int k (W.wrap k (W.andNot k a b)))
  | .eql => .val (.bool (W.eq a b))
  | .neq => .val (.bool (W.ne a b))
  | .lss => .val (.bool (W.lt a b))
  | .leq => .val (.bool (W.le a b))
  | .gtr => .val (.bool (W.gt a b))
  | .geq => .val (.bool (W.ge a b))
  | _ => .fail
def shiftInt (op : BinOp) (k : IntKind) (a b : Int) : Eff :=
  match op with
  | .shl => .val (.int k (W.wrap k (W.shl k a b)))
  | .shr => .val (.int k (W.shr k a b))
  | _ => .fail

/-- '==' of two structs: all their cells are whole numbers (true) and bools (false). -/
def eqCells : List Bool → List V → List V → Option Bool
  | [], [], [] => some true
  | true :: ks, .int k a :: x, .int k' b :: y => if k = k' then (eqCells ks x y).map (W.and2 (W.eq a b) ·) else none
  | false :: ks, .bool a :: x, .bool b :: y => (eqCells ks x y).map (W.and2 (W.eqB a b) ·)
  | _, _, _ => none
/-- The cells of a type whose parts are whole numbers and bools, each named and one behind the other. -/
def plainFs (f : TypeId → Option (List Bool)) : List Field → Nat → Option (List Bool)
  | [], off => some []
  | fd :: r, off => if fd.name != "_" && fd.offset == off then (f fd.type).bind fun l => if l.isEmpty then none else (plainFs f r (off + l.length)).map (l ++ ·) else none
def plainKs (P : Program) : Nat → TypeId → Option (List Bool)
  | 0, _ => none
  | d + 1, t => match P.underlying t with
    | some (.int _) => some [true]
    | some .bool => some [false]
    | some (.struct fs) => if P.stoodInHeld t then none else plainFs (fun u => (plainKs P d u).bind fun l => if sizeB P u == some l.length then some l else none) fs.toList 0
    | _ => none
def eqAgg (P : Program) (t : TypeId) (a b : List V) : Option Bool :=
  match plainKs P 20 t with
  | some ks => if P.eqGuardType P.depth t then none else eqCells ks a b
  | none => none

def binAct (P : Program) (op : BinOp) (t : TypeId) (x y : V) : Eff :=
  match op, x, y with
  | .shl, .int k a, .int yk b | .shr, .int k a, .int yk b => if yk.signed then .ite (W.lt b 0) .fail (shiftInt op k a b) else shiftInt op k a b
  | _, .int k a, .int k' b => if k = k' then binInt op k a b else .fail
  | .eql, .bool a, .bool b => match P.underlying t with | some .bool => .val (.bool (W.eqB a b)) | _ => .fail
  | .neq, .bool a, .bool b => match P.underlying t with | some .bool => .val (.bool (W.not (W.eqB a b))) | _ => .fail
  | .eql, .agg a, .agg b => match isAggB P t, eqAgg P t a b with | some true, some c => .val (.bool c) | _, _ => .fail
  | .neq, .agg a, .agg b => match isAggB P t, eqAgg P t a b with | some true, some c => .val (.bool (W.not c)) | _, _ => .fail
  | _, _, _ => .fail

def unAct (op : UnOp) (x : V) : Eff :=
  match op, x with
  | .neg, .int k n => .val (.int k (W.wrap k (W.sub 0 n)))
  | .xor, .int k n => .val (.int k (W.wrap k (W.xor k (if k.signed then -1 else k.max) n)))
  | .not, .bool b => .val (.bool (W.not b))
  | _, _ => .fail

def convAct (P : Program) (src dst : TypeId) (x : V) : Eff :=
  match P.underlying src, P.underlying dst, x with
  | some (.int _), some (.int k), .int _ n => .val (.int k (W.wrap k n))
  | _, _, _ => .fail

/-- Parts laid into cells. -/
def fillV (place : Nat → Option (Nat × Nat)) : List V → List (Nat × V) → Option (List V)
  | cells, [] => some cells
  | cells, (i, v) :: rest =>
    match place i with
    | none => none
    | some (off, size) => if v.cells.length == size && off + size ≤ cells.length then fillV place (List.splice cells off v.cells) rest else none

def buildAct (P : Program) (t : TypeId) (parts : List (Nat × V)) : Eff :=
  if !(parts.all fun p => p.2.known) then .fail else
  match zeroB P t, P.underlying t with
  | some (.agg z), some (.struct fs) =>
    if !(fs.toList.all fun f => (sizeB P f.type).isSome) then .fail else
    match fillV (fun i => (fs[i]?).bind fun f => (sizeB P f.type).map fun n => (f.offset, n)) z parts with
    | some c => .val (.agg c)
    | none => .fail
  | some (.agg z), some (.array _ e) =>
    match sizeB P e with
    | some n => match fillV (fun i => some (i * n, n)) z parts with
      | some c => .val (.agg c)
      | none => .fail
    | none => .fail
  | _, _ => .fail

/-- A part of cells: one, or a struct's or an array's. -/
def partV (P : Program) (t : TypeId) (c : List V) (off : Nat) : Eff :=
  match isAggB P t, sizeB P t with
  | some true, some n => if off + n ≤ c.length then .val (.agg ((c.drop off).take n)) else .fail
  | some false, some (_ + 1) => match c[off]? with
    | some v => .val v
    | none => .fail
  | _, _ => .fail

def loadAct (P : Program) (t : TypeId) (x : V) (h : List Blk) : Eff :=
  match x with
  | .ptr b off => match h[b]? with
    | some (.cells _ c) => partV P t c off
    | _ => .fail
  | .rop tt x off => partV P t (toVs tt x) off
  | _ => .fail

def storeAct (P : Program) (t : TypeId) (a x : V) (h : List Blk) : Eff :=
  match a with
  | .ptr b off => match h[b]?, sizeB P t with
    | some (.cells _ c), some n => if x.cells.length == n && off + n ≤ c.length && x.cells.all V.scalar then .store b off x.cells else .fail
    | _, _ => .fail
  | _ => .fail

def nilAct : V → Eff
  | .ptr b off => .val (.ptr b off)
  | .rop t x off => .val (.rop t x off)
  | .slp b i off => .val (.slp b i off)
  | .fn f c => .val (.fn f c)
  | .iface t v => .val (.iface t v)
  | _ => .fail

def fieldAct (P : Program) (t : TypeId) (x : V) (f : Nat) : Eff :=
  match fieldB P t f with
  | some fd => match sizeB P fd.type with
    | some (_ + 1) => match x with
      | .ptr b off => .val (.ptr b (off + fd.offset))
      | .rop tt x off => .val (.rop tt x (off + fd.offset))
      | .slp b i off => .val (.slp b i (off + fd.offset))
      | _ => .fail
    | _ => .fail
  | none => .fail
def fieldOfAct (P : Program) (t : TypeId) (x : V) (f : Nat) : Eff :=
  match fieldB P t f, x with
  | some fd, .agg c => partV P fd.type c fd.offset
  | _, _ => .fail

def indexAct (P : Program) (t : TypeId) (x i : V) : Eff :=
  match P.underlying t, x, i with
  | some (.slice e), .ro tt l, .int _ n => if sizeB P e != some tt.size then .fail else .ite (W.and2 (W.le 0 n) (W.lt n (W.ofNat (W.len l)))) (.val (.rop tt (W.get l (W.toNat n) tt.dflt) 0)) .fail
  | some (.slice _), .sl b off len, .int _ n => .ite (W.and2 (W.le 0 n) (W.lt n (W.ofNat len))) (.val (.slp b (W.addN off (W.toNat n)) 0)) .fail
  | some (.array m e), .ptr b off, .int _ n => match sizeB P e with
    | some s => .ite (W.and2 (W.le 0 n) (W.lt n (W.ofNat m))) (.val (.ptr b (off + n.toNat * s))) .fail
    | none => .fail
  | _, _, _ => .fail

def lenAct (P : Program) (t : TypeId) (x : V) : Eff :=
  match P.underlying t, x with
  | some (.slice _), .ro _ l => .val (.int .i64 (W.ofNat (W.len l)))
  | some (.slice _), .sl _ _ n => .val (.int .i64 (W.ofNat n))
  | some (.slice _), .nsl => .val (.int .i64 0)
  | some .string, .str s => .val (.int .i64 (W.ofNat (W.size s)))
  | some (.array n _), _ => if n ≤ 1000000000 then .val (.int .i64 (W.ofNat n)) else .fail
  | _, _ => .fail

def max2V : V → V → Option V
  | .int k x, .int k' y => if k = k' then some (.int k (W.max x y)) else none
  | _, _ => none
def min2V : V → V → Option V
  | .int k x, .int k' y => if k = k' then some (.int k (W.min x y)) else none
  | _, _ => none
def foldV (f : V → V → Option V) : V → List V → Option V
  | x, [] => some x
  | x, y :: r => (f x y).bind fun z => foldV f z r

def builtinAct (P : Program) (b : Builtin) (ts : List TypeId) (args : List V) : Eff :=
  match b, ts, args with
  | .len, t :: _, [x] => lenAct P t x
  | .max, _, x :: r => match foldV max2V x r with | some v => .val v | none => .fail
  | .min, _, x :: r => match foldV min2V x r with | some v => .val v | none => .fail
  | _, _, _ => .fail

mutual
def V.refs : V → List Nat
  | .ptr b _ | .sl b _ _ | .slp b _ _ | .map b => [b]
  | .fn _ c => V.refsL c
  | .iface _ v => V.refs v
  | .agg l | .tup l => V.refsL l
  | _ => []
def V.refsL : List V → List Nat
  | [] => []
  | v :: l => V.refs v ++ V.refsL l
end

structure Cfg where
  P : Program
  spec : FuncId → Option Spec

def callAct (C : Cfg) (f : V) (args : List V) : Eff :=
  match f with
  | .fn g cap => if !(((C.P.funcs[g]?).bind (·.body)).isSome) then .fail else
    match C.spec g with
    | some sp => if (V.refsL (args ++ cap)).isEmpty then .call g sp (args ++ cap) else .enter g (args ++ cap)
    | none => .enter g (args ++ cap)
  | _ => .fail

/-- The values of a literal map's entries, asked for by a whole number. -/
def lookV (k : IntKind) (n : Int) (dflt : Eff) (hit : V → Eff) : List (V × V) → Eff
  | [] => dflt
  | (.int k' m, v) :: r => if k = k' then .ite (W.eq n m) (hit v) (lookV k n dflt hit r) else .fail
  | _ :: _ => .fail

def opAct (C : Cfg) (op : Op) (ρ : Operand → V) (h : List Blk) : Eff :=
  match op with
  | .move x | .assign x => .val (ρ x)
  | .alloc e => match zeroB C.P e with
    | some z => if z.known then .new (.cells e z.cells) (.ptr · 0) else .fail
    | none => .fail
  | .box e x => if (ρ x).known then .new (.cells e (ρ x).cells) (.ptr · 0) else .fail
  | .build t ps => buildAct C.P t (ps.toList.map fun p => (p.1, ρ p.2))
  | .load t a => loadAct C.P t (ρ a) h
  | .store t a x => storeAct C.P t (ρ a) (ρ x) h
  | .nilCheck x => nilAct (ρ x)
  | .binOp op t x y _ => binAct C.P op t (ρ x) (ρ y)
  | .unOp op _ x => unAct op (ρ x)
  | .convert a b x => convAct C.P a b (ρ x)
  | .makeFunc (.func f) first cap => if first.isEmpty then .val (.fn f (cap.toList.map ρ)) else .fail
  | .fieldAddr t x f => fieldAct C.P t (ρ x) f
  | .field t x f => fieldOfAct C.P t (ρ x) f
  | .indexAddr t x i => indexAct C.P t (ρ x) (ρ i)
  | .index t x i => match C.P.underlying t, ρ x, ρ i with
    | some .string, .str s, .int _ n => .ite (W.and2 (W.le 0 n) (W.lt n (W.ofNat (W.size s)))) (.val (.int .u8 (W.byte s (W.toNat n)))) .fail
    | _, _, _ => .fail
  | .makeInterface t x => match C.P.underlying t with
    | some (.interface _) | none => .fail
    | _ => .val (.iface t (ρ x))
  | .extract x i => match ρ x with
    | .tup l => match l[i]? with
      | some v => .val v
      | none => .fail
    | _ => .fail
  | .call c => match c.callee with
    | .value f => callAct C (ρ f) (c.args.toList.map ρ)
    | .builtin b => builtinAct C.P b c.argTypes.toList (c.args.toList.map ρ)
    | .invoke _ _ => .fail
  | _ => .fail

/-! ### the state -/
def killO (d : Nat) : Option (Nat × Bool × V) → Option (Nat × Bool × V)
  | some (g, w, v) => if g == d then none else some (g, w, v)
  | none => none
def S.put (s : S) (d : Option Nat) (v : V) : S :=
  match d with
  | none => s
  | some d => { s with t := s.t.set d v, o := (s.o.map (killO d)).set d none }
/-- A value that holds only where a guard does. -/
def S.putO (s : S) (d : Option Nat) (g : Nat × Bool) (v : V) : S :=
  match d with
  | none => s
  | some d => { s with t := s.t.set d .any, o := (s.o.map (killO d)).set d (some (g.1, g.2, v)) }

mutual
def V.shift (n : Nat) : V → V
  | .ptr b off => .ptr (n + b) off
  | .sl b off len => .sl (n + b) off len
  | .slp b i off => .slp (n + b) i off
  | .map b => .map (n + b)
  | .fn f c => .fn f (V.shifts n c)
  | .iface t v => .iface t (V.shift n v)
  | .agg l => .agg (V.shifts n l)
  | .tup l => .tup (V.shifts n l)
  | v => v
def V.shifts (n : Nat) : List V → List V
  | [] => []
  | v :: l => V.shift n v :: V.shifts n l
end

def Blk.shift (n : Nat) : Blk → Blk
  | .cells t c => .cells t (V.shifts n c)
  | b => b

def storeH (h : List Blk) (b off : Nat) (vs : List V) : List Blk :=
  match h[b]? with
  | some (.cells t c) => h.set b (.cells t (List.splice c off vs))
  | _ => h

def setN : List Blk → Nat → List Blk → List Blk
  | h, _, [] => h
  | h, i, b :: r => setN (h.set i b) (i + 1) r

abbrev Rec (R : Type) := FuncId → List V → List Blk → (V → List Blk → Option R) → Option R

def isFree (h : List Blk) (i : Nat) : Bool :=
  match h[i]? with
  | some .free => true
  | _ => false
def allFree (h : List Blk) : Nat → Nat → Bool
  | _, 0 => true
  | i, n + 1 => isFree h i && allFree h (i + 1) n

/-- What an operation does; 'slot': its own place for new blocks. -/
def Eff.run {R : Type} (rec : Rec R) (dst : Option Nat) (slot : Nat) (s : S) (k : S → Option R) : Eff → Option R
  | .fail => none
  | .val v => k (s.put dst v)
  | .store b off vs => k ({ s with h := storeH s.h b off vs }.put dst (.tup []))
  | .new blk mk => if isFree s.h slot then k ({ s with h := s.h.set slot blk }.put dst (mk slot)) else none
  | .setb b blk v => k ({ s with h := s.h.set b blk }.put dst v)
  | .ite c x y => br c (x.run rec dst slot s k) (y.run rec dst slot s k)
  | .call g sp args => sp.run args fun v nb => if nb.length == sp.nNew && allFree s.h slot sp.nNew then k ({ s with h := setN s.h slot (nb.map (Blk.shift slot)) }.put dst (v.shift slot)) else none
  | .enter g args => rec g args s.h fun v h' => k ({ s with h := h' }.put dst v)

/-- The places that an operation may need for new blocks. -/
def resv (C : Cfg) (o : Oper) : Nat :=
  match o.op with
  | .alloc _ | .box _ _ | .buildSlice .. | .makeSlice .. | .makeMap .. => 1
  | .call c => match c.callee with
    | .builtin .append => 1
    | .value (.func g) => ((C.spec g).map (·.nNew)).getD 0
    | _ => 0
  | _ => 0

/-- A guard's own truth: the guarding slot's bool, and of what it hangs on itself. -/
def guardB (s : S) : Nat → Nat → Bool → Option (Bool × List (Nat × Bool))
  | 0, _, _ => none
  | n + 1, g, w => match s.t.getD g .any with
    | .bool b => some (if w then b else W.not b, [(g, w)])
    | _ => match s.o.getD g none with
      | some (g', w', .bool b) => (guardB s n g' w').map fun (c, l) => (W.and2 c (if w then b else W.not b), (g, w) :: l)
      | _ => none

/-- What an operation touches of boxes: block, from, to. -/
abbrev Foot := List (Nat × Nat × Nat)
def footMeets (a b : Foot) : Bool := a.any fun x => b.any fun y => x.1 == y.1 && (decide (x.2.1 < y.2.2) && decide (y.2.1 < x.2.2))
def addrFoot (P : Program) (t : TypeId) (a : V) : Foot :=
  match a with
  | .ptr b off => [(b, off, off + (sizeB P t).getD 0)]
  | _ => []
/-- How an operation stands to memory: not at all; a load; a store; new blocks of its own alone (from, how many); anything. -/
inductive Kin where
  | pure | rd (f : Foot) | wr (f : Foot) | new (lo n : Nat) | top
def kinOf (C : Cfg) (slot : Nat) (op : Op) (ρ : Operand → V) : Kin :=
  match op with
  | .load t a => .rd (addrFoot C.P t (ρ a))
  | .store t a _ => .wr (addrFoot C.P t (ρ a))
  | .alloc _ | .box _ _ => .new slot 1
  | .call c => match c.callee with
    | .value f => match ρ f with
      | .fn g cap => match C.spec g with
        | some sp => if (V.refsL (c.args.toList.map ρ ++ cap)).isEmpty then .new slot sp.nNew else .top
        | none => .top
      | _ => .top
    | .builtin .len | .builtin .max | .builtin .min => .pure
    | _ => .top
  | .move _ | .assign _ | .pick .. | .build .. | .nilCheck _ | .binOp .. | .unOp .. | .convert .. | .makeFunc .. | .fieldAddr .. | .field .. | .indexAddr .. | .index .. | .extract .. | .makeInterface .. => .pure
  | _ => .top
def outOf (f : Foot) (lo n : Nat) : Bool := f.all fun x => decide (x.1 < lo) || decide (lo + n ≤ x.1)
/-- Whether two may change places. -/
def Kin.apart : Kin → Kin → Bool
  | .pure, _ | _, .pure => true
  | .top, _ | _, .top => false
  | .wr f, .wr g | .wr f, .rd g | .rd f, .wr g => !footMeets f g
  | .rd _, .rd _ => true
  | .new a n, .new b m => decide (a + n ≤ b) || decide (b + m ≤ a)
  | .new a n, .rd f | .new a n, .wr f | .rd f, .new a n | .wr f, .new a n => outOf f a n

structure Log where
  i : Nat
  dst : Option Nat
  rs : List Nat
  kin : Kin
/-- The slots that an operation looks at. -/
def slotsOf (o : Oper) (gs : List (Nat × Bool)) : List Nat :=
  (o.op.operands.toList.filterMap fun | .tmp t => some t | _ => none) ++ gs.map (·.1)
def Log.apart (x y : Log) : Bool :=
  (match x.dst with | some d => !y.rs.contains d && y.dst != some d | none => true) &&
  (match y.dst with | some d => !x.rs.contains d | none => true) && Kin.apart x.kin y.kin
def logOk (bef : Nat) (y : Log) (log : List Log) : Bool :=
  log.all fun x => bef.testBit x.i || x.apart y

/-- Of each operation: which stand ahead of it, by its edges. -/
def befOf (acc : List Nat) (o : Oper) : Nat :=
  o.after.toList.foldl (fun m e => if Region.binds .any e then m ||| (2 ^ e.on ||| acc.getD e.on 0) else m) 0
def befsOf : List Oper → List Nat → List Nat
  | [], acc => acc
  | o :: r, acc => befsOf r (acc ++ [befOf acc o])

def edgesOk : List Oper → Nat → Bool
  | [], _ => true
  | o :: r, i => (o.after.toList.all fun e => !Region.binds .any e || decide (e.on < i)) && edgesOk r (i + 1)

def pickEff (c x y : V) : Eff :=
  match c, x, y with
  | .bool c, .bool x, .bool y => .val (.bool (W.pick c x y))
  | .bool c, x, y => .ite c (.val x) (.val y)
  | _, _, _ => .fail
/-- What an operation does, its operands read under guards that hold. -/
def effOf (C : Cfg) (o : Oper) (s : S) (gs : List (Nat × Bool)) : Eff :=
  match o.op with
  | .pick (.tmp c) a b => pickEff (s.rd gs (.tmp c)) (s.rd ((c, true) :: gs) a) (s.rd ((c, false) :: gs) b)
  | op => opAct C op (s.rd gs) s.h
/-- A guard, if there is one: its slot, whether it is wanted true, whether it holds, and all guards it stands on. -/
def guardOf (ops : Array Oper) (o : Oper) (s : S) : Option (Option (Nat × Bool × Bool) × List (Nat × Bool)) :=
  match o.guard with
  | none => some (none, [])
  | some (j, w) => match (ops[j]?).bind (·.dst) with
    | none => none
    | some g => (guardB s 4 g w).map fun x => (some (g, w, x.1), x.2)
/-- The guard's slot told as what the way has shown. -/
def S.lit (s : S) (gs : List (Nat × Bool)) (b : Bool) : S :=
  match gs with
  | [(g, w)] => { s with t := s.t.set g (.bool (if b then w else !w)) }
  | _ => s

def S.optOk (s : S) (d : Option Nat) (g : Nat) : Bool :=
  match d with
  | some d => decide (d < s.t.length) && (decide (d < s.o.length) && d != g)
  | none => false
/-- One operation. -/
def stepK {R : Type} (C : Cfg) (rec : Rec R) (ops : Array Oper) (o : Oper) (slot : Nat) (s : S) (k : S → Option R) : Option R :=
  match guardOf ops o s with
  | none => none
  | some (none, gs) => (effOf C o s gs).run rec o.dst slot s k
  | some (some (g, w, G), gs) =>
    match s.optOk o.dst g, effOf C o s gs with
    | true, .val v => k (s.putO o.dst (g, w) v)
    | true, .ite c (.val v) .fail => br (W.or2 (W.not G) c) (k (s.putO o.dst (g, w) v)) none
    | true, .ite c .fail (.val v) => br (W.or2 (W.not G) (W.not c)) (k (s.putO o.dst (g, w) v)) none
    | _, e => br G (e.run rec o.dst slot (s.lit gs true) k) (k ((s.lit gs false).put o.dst (.tup [])))

/-- No guarded value hangs on the slot, or stands there. -/
def freshO (s : S) (d : Nat) : Bool := (s.o.getD d none).isNone && s.o.all fun e => match e with | some (g, _, _) => g != d | none => true
def freshD (s : S) : Option Nat → Bool
  | some d => freshO s d
  | none => true
/-- The guards under which a log's operands are read. -/
def logGs (o : Oper) (gs : List (Nat × Bool)) : List (Nat × Bool) :=
  match o.op with
  | .pick (.tmp c) _ _ => (c, true) :: gs
  | _ => gs
def logOf (C : Cfg) (ops : Array Oper) (i slot : Nat) (o : Oper) (s : S) : Option Log :=
  if freshD s o.dst then
    (guardOf ops o s).map fun x => { i, dst := o.dst, rs := slotsOf o (logGs o x.2), kin := kinOf C slot o.op (s.rd (logGs o x.2)) }
  else none

def opsK {R : Type} (C : Cfg) (rec : Rec R) (ops : Array Oper) (draw : Bool) (bef : List Nat) : List Oper → Nat → Nat → List Log → S → (S → Option R) → Option R
  | [], _, _, _, s, k => k { s with o := [] }
  | o :: rest, i, slot, log, s, k =>
    if draw then
      match logOf C ops i slot o s with
      | none => none
      | some y => if logOk (bef.getD i 0) y log then stepK C rec ops o slot s fun s' => opsK C rec ops draw bef rest (i + 1) (slot + resv C o) (y :: log) s' k else none
    else stepK C rec ops o slot s fun s' => opsK C rec ops draw bef rest (i + 1) (slot + resv C o) [] s' k

inductive Ex where
  | normal | exit (id : Nat) | ret

/-! ### which slots are needed: masks -/
def useM (m : Nat) : Operand → Nat
  | .tmp t => m ||| 2 ^ t
  | _ => m
def dropM (m : Nat) : Option Nat → Nat
  | some d => if m.testBit d then m ^^^ 2 ^ d else m
  | none => m
def liveOps : List Oper → Nat → Nat
  | [], m => m
  | o :: r, m => o.op.operands.toList.foldl useM (dropM (liveOps r m) o.dst)
def liveIn (ex : List (Nat × Nat)) (rl : Nat) : Code → Nat → Nat
  | .region _ ops _, m => liveOps ops.toList m
  | .seq a b, m => liveIn ex rl a (liveIn ex rl b m)
  | .cond c x y, m => useM (liveIn ex rl x m ||| liveIn ex rl y m) c
  | .block id b, m => liveIn ((id, m) :: ex) rl b m
  | .loop b, _ => liveIn ex rl b 0
  | .exit id, _ => (ex.lookup id).getD 0
  | .ret, _ => rl
  | _, m => m

mutual
def V.ren (r : Nat → Option Nat) : V → V
  | .ptr b off => match r b with | some b' => .ptr b' off | none => .any
  | .sl b off len => match r b with | some b' => .sl b' off len | none => .any
  | .slp b i off => match r b with | some b' => .slp b' i off | none => .any
  | .map b => match r b with | some b' => .map b' | none => .any
  | .fn f c => .fn f (V.rens r c)
  | .iface t v => .iface t (V.ren r v)
  | .agg l => .agg (V.rens r l)
  | .tup l => .tup (V.rens r l)
  | v => v
def V.rens (r : Nat → Option Nat) : List V → List V
  | [] => []
  | v :: l => V.ren r v :: V.rens r l
end
def Blk.ren (r : Nat → Option Nat) : Blk → Blk
  | .cells t c => .cells t (V.rens r c)
  | b => b
def Blk.refs : Blk → List Nat
  | .cells _ c => V.refsL c
  | _ => []
/-- The blocks from n0 on that can be reached, in the order in which they are met. -/
def reach (h : List Blk) (n0 : Nat) : Nat → List Nat → List Nat → List Nat
  | 0, _, acc => acc
  | _ + 1, [], acc => acc
  | n + 1, b :: todo, acc => if b < n0 || acc.contains b then reach h n0 n todo acc else reach h n0 n ((h.getD b .dead).refs ++ todo) (acc ++ [b])
def liveBlk (h : List Blk) (b : Nat) : Bool :=
  match h[b]? with
  | some .free | none => false
  | _ => true
def nodupB : List Nat → Bool
  | [] => true
  | x :: l => !l.contains x && nodupB l
def maskT (m : Nat) : Nat → List V → List V
  | _, [] => []
  | i, v :: l => (if m.testBit i then v else .any) :: maskT m (i + 1) l
def renI (n0 : Nat) (ids : List Nat) (b : Nat) : Option Nat := if b < n0 then some b else (ids.idxOf? b).map (n0 + ·)
/-- The state at a loop's head: what is needed no more is forgotten, blocks are numbered anew. -/
def headF (m n0 : Nat) (s : S) : Option S :=
  let t := maskT m 0 s.t
  let ids := reach s.h n0 1000 (V.refsL t ++ (s.h.take n0).flatMap Blk.refs) []
  if nodupB ids && ids.all (fun b => liveBlk s.h b && decide (n0 ≤ b)) && decide (n0 ≤ s.h.length) then
    some { t := V.rens (renI n0 ids) t, o := [], h := (s.h.take n0).map (Blk.ren (renI n0 ids)) ++ ids.map fun b => (s.h.getD b .dead).ren (renI n0 ids) }
  else none

def loopK {R : Type} (body : S → (Ex → S → Option R) → Option R) (head : S → Option S) : Nat → S → (Ex → S → Option R) → Option R
  | 0, _, _ => none
  | n + 1, s, k => match head s with
    | none => none
    | some s1 => body s1 fun e s' => match e with
      | .normal => loopK body head n s' k
      | e => k e s'

def exec {R : Type} (C : Cfg) (fl n0 : Nat) (rec : Rec R) (rl : Nat) : Code → List (Nat × Nat) → Nat → S → (Ex → S → Option R) → Option R
  | .skip, _, _, s, k => k .normal s
  | .region _ ops draw, _, _, s, k =>
    let n := (ops.toList.map (resv C)).foldl (· + ·) 0
    let bef := if draw then befsOf ops.toList [] else []
    if draw && !edgesOk ops.toList 0 then none else
    opsK C rec ops draw bef ops.toList 0 s.h.length [] { s with h := s.h ++ List.replicate n .free, o := if ops.any (·.guard.isSome) then List.replicate s.t.length none else [] } fun s' => k .normal s'
  | .seq a b, ex, m, s, k => exec C fl n0 rec rl a ex (liveIn ex rl b m) s fun e s' => match e with
    | .normal => exec C fl n0 rec rl b ex m s' k
    | e => k e s'
  | .cond c x y, ex, m, s, k => match s.rd [] c with
    | .bool b => br b (exec C fl n0 rec rl x ex m s k) (exec C fl n0 rec rl y ex m s k)
    | _ => none
  | .block id body, ex, m, s, k => exec C fl n0 rec rl body ((id, m) :: ex) m s fun e s' => match e with
    | .exit id' => if id' == id then k .normal s' else k (.exit id') s'
    | e => k e s'
  | .loop body, ex, m, s, k => loopK (fun s k => exec C fl n0 rec rl body ex (liveIn ex rl body 0) s k) (headF (liveIn ex rl body 0) n0) fl s k
  | .exit id, _, _, s, k => k (.exit id) s
  | .ret, _, _, s, k => k .ret s
  | _, _, _, _, _ => none

/-- A function's results. -/
def resOne (P : Program) (s : S) : ResultVar → Option V
  | .tmp t => some (s.t.getD t .any)
  | .cell a t => match loadAct P t (s.t.getD a .any) s.h with
    | .val v => some v
    | _ => none
def resAll (P : Program) (s : S) : List ResultVar → Option (List V)
  | [] => some []
  | r :: rs => (resOne P s r).bind fun v => (resAll P s rs).map (v :: ·)
def results (P : Program) (fn : Func) (s : S) : Option V :=
  (resAll P s fn.results.toList).map fun
    | [v] => v
    | vs => .tup vs

def execFn {R : Type} (C : Cfg) (fl : Nat) (rec : Rec R) (g : FuncId) (args : List V) (h : List Blk) (k : V → List Blk → Option R) : Option R :=
  match C.P.funcs[g]? with
  | none => none
  | some fn => match fn.body with
    | none => none
    | some c => exec C fl h.length rec (fn.results.toList.foldl (fun m r => match r with | .tmp t => m ||| 2 ^ t | .cell t _ => m ||| 2 ^ t) 0) c [] 0 { t := args ++ List.replicate (fn.ntmps - args.length) (.tup []), o := [], h := h } fun e s => match e with
      | .exit _ => none
      | _ => match results C.P fn s with
        | some v => k v s.h
        | none => none

def call {R : Type} (C : Cfg) (fl : Nat) : Nat → Rec R
  | 0 => fun _ _ _ _ => none
  | d + 1 => execFn C fl (call C fl d)

/-! ### functions of plain data, by their types -/
/-- A parameter: one cell, or a struct's cells. -/
inductive PT where
  | one (t : Ty) | agg (t : Ty)
@[reducible] def PT.D : PT → Type
  | .one t => t.D
  | .agg t => t.D
@[reducible] def PTs.D : List PT → Type
  | [] => Unit
  | [p] => p.D
  | p :: q :: r => p.D × PTs.D (q :: r)

def decC {R : Type} : (t : Ty) → List V → (t.D → List V → Option R) → Option R
  | .int k, v :: r, f => match v with
    | .int k' n => if k' = k then f n r else none
    | _ => none
  | .bool, v :: r, f => match v with
    | .bool b => f b r
    | _ => none
  | .str, v :: r, f => match v with
    | .str s => f s r
    | _ => none
  | .unit, l, f => f () l
  | .prod a b, l, f => decC a l fun x l' => decC b l' fun y l'' => f (x, y) l''
  | .slice t, v :: r, f => match v with
    | .ro t' l => if h : t' = t then f (h ▸ l) r else none
    | .nsl => f [] r
    | _ => none
  | _, [], _ => none
def decP {R : Type} : (p : PT) → V → (p.D → Option R) → Option R
  | .one t, v, f => decC t [v] fun x l => match l with
    | [] => f x
    | _ => none
  | .agg t, v, f => match v with
    | .agg l => decC t l fun x l => match l with
      | [] => f x
      | _ => none
    | _ => none
def decL {R : Type} : (ps : List PT) → List V → (PTs.D ps → Option R) → Option R
  | [], [], f => f ()
  | [p], [v], f => decP p v f
  | p :: q :: r, v :: l, f => decP p v fun x => decL (q :: r) l fun y => f (x, y)
  | _, _, _ => none
def encP : (p : PT) → p.D → V
  | .one t, x => match toVs t x with
    | [v] => v
    | _ => .any
  | .agg t, x => .agg (toVs t x)
def encL : (ps : List PT) → PTs.D ps → List V
  | [], _ => []
  | [p], x => [encP p x]
  | p :: q :: r, x => encP p x.1 :: encL (q :: r) x.2
def decR {R : Type} : (ps : List PT) → V → (PTs.D ps → Option R) → Option R
  | [], v, f => match v with
    | .tup l => decL [] l f
    | _ => none
  | [p], v, f => decP p v f
  | p :: q :: r, v, f => match v with
    | .tup l => decL (p :: q :: r) l f
    | _ => none
def encR : (ps : List PT) → PTs.D ps → V
  | [], _ => .tup []
  | [p], x => encP p x
  | p :: q :: r, x => .tup (encL (p :: q :: r) x)

abbrev FT (ps qs : List PT) := (R : Type) → PTs.D ps → (PTs.D qs → Option R) → Option R
def mkS (ps qs : List PT) (F : FT ps qs) : Spec := ⟨0, fun {R} args k => decL ps args fun x => F R x fun y => k (encR qs y) []⟩
def Cw (P : Program) (l : List (FuncId × Spec)) : Cfg := { P := P, spec := fun g => l.lookup g }

end Go.Eng
