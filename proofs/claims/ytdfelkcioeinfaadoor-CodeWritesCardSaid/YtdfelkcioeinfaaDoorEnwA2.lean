/- The engine, part A2: functions that are entered within the caller's own memory, told by patterns. -/
import Derived.Test.YtdfelkcioeinfaaDoorEnwA
set_option linter.unusedVariables false
namespace Go.Eng
open Go
/-- Data in a pattern. -/
inductive DT where
  | int | bool | str | nat | list (t : Ty) | lists (t : Ty) | val (t : Ty)
@[reducible] def DT.D : DT → Type
  | .int => Int
  | .bool => Bool
  | .str => ByteArray
  | .nat => Nat
  | .list t => List t.D
  | .lists t => List (List t.D)
  | .val t => t.D
@[reducible] def HD : List DT → Type
  | [] => Unit
  | d :: r => d.D × HD r
/-- A value's pattern: what is not told is data. -/
inductive PV : Type where
  | any | bool | int (k : IntKind) | str
  | ptr (b off : Nat) | parr (b n sz : Nat) | cptr (ss : List (Nat × Nat)) (ps : List PV) (off : Nat)
  | elp (b off : Nat) | elr (b : Nat) | el2 (b off : Nat) | nilp
  | ro (w : Bool) (t : Ty) | rop (w : Bool) (t : Ty) (off : Nat)
  | sl (b sz : Nat) | sv (b sz : Nat) | sl2 (b sz : Nat) | csl (b off sz n : Nat) | esl | nsl
  | fn (f : FuncId) (cap : List PV) | mexp (t : TypeId) (name : String) | nilf
  | iface (t : TypeId) (v : PV) | nili | agg (l : List PV) | tup (l : List PV) | map (b : Nat) | hdl (g : Nat) (t : TypeId)
def sameE : List (V × V) → List (V × V) → Bool
  | [], [] => true
  | (a, b) :: l, (c, d) :: r => V.same a c && (V.same b d && sameE l r)
  | _, _ => false
theorem sameE_eq : ∀ {l r : List (V × V)}, sameE l r = true → l = r
  | [], [], _ => rfl
  | [], _ :: _, h => by cases h
  | _ :: _, [], h => by cases h
  | (a, b) :: l, (c, d) :: r, h => by
    simp only [sameE, Bool.and_eq_true] at h
    rw [V.same_eq h.1, V.same_eq h.2.1, sameE_eq h.2.2]
inductive PB : Type where
  | free | dead | cells (c : List PV) | row (t : Ty) | rows (t : Ty) | fwd (b : Nat) | map (es : List (V × V))
mutual
def PV.ty : PV → List DT → List DT
  | .bool, l => .bool :: l
  | .int _, l => .int :: l
  | .str, l => .str :: l
  | .cptr _ ps _, l => PV.tys ps l
  | .elp _ _, l => .nat :: l
  | .elr _, l => .nat :: l
  | .el2 _ _, l => .nat :: .nat :: l
  | .ro _ t, l => .list t :: l
  | .rop _ t _, l => .val t :: l
  | .sl _ _, l => .nat :: l
  | .sv _ _, l => .nat :: .nat :: l
  | .sl2 _ _, l => .nat :: .nat :: .nat :: l
  | .fn _ ps, l => PV.tys ps l
  | .iface _ p, l => PV.ty p l
  | .agg ps, l => PV.tys ps l
  | .tup ps, l => PV.tys ps l
  | _, l => l
def PV.tys : List PV → List DT → List DT
  | [], l => l
  | p :: r, l => PV.ty p (PV.tys r l)
end
def PB.ty : PB → List DT → List DT
  | .cells c, l => PV.tys c l
  | .row t, l => .list t :: l
  | .rows t, l => .lists t :: l
  | _, l => l
def PB.tys : List PB → List DT → List DT
  | [], l => l
  | p :: r, l => PB.ty p (PB.tys r l)
mutual
def PV.enc {l : List DT} : (p : PV) → HD (PV.ty p l) → V × HD l
  | .any, d => (.any, d)
  | .bool, d => (.bool d.1, d.2)
  | .int k, d => (.int k d.1, d.2)
  | .str, d => (.str d.1, d.2)
  | .ptr b off, d => (.ptr b off, d)
  | .parr b n sz, d => (.parr b n sz, d)
  | .cptr ss ps off, d => (.cptr ss (PV.encs ps d).1 off, (PV.encs ps d).2)
  | .elp b off, d => (.elp b d.1 off, d.2)
  | .elr b, d => (.elr b d.1, d.2)
  | .el2 b off, d => (.el2 b d.1 d.2.1 off, d.2.2)
  | .nilp, d => (.nilp, d)
  | .ro w t, d => (.ro w t d.1, d.2)
  | .rop w t off, d => (.rop w t d.1 off, d.2)
  | .sl b sz, d => (.sl b sz d.1, d.2)
  | .sv b sz, d => (.sv b sz d.1 d.2.1, d.2.2)
  | .sl2 b sz, d => (.sl2 b sz d.1 d.2.1 d.2.2.1, d.2.2.2)
  | .csl b off sz n, d => (.csl b off sz n, d)
  | .esl, d => (.esl, d)
  | .nsl, d => (.nsl, d)
  | .fn f ps, d => (.fn f (PV.encs ps d).1, (PV.encs ps d).2)
  | .mexp t nm, d => (.mexp t nm, d)
  | .nilf, d => (.nilf, d)
  | .iface t p, d => (.iface t (PV.enc p d).1, (PV.enc p d).2)
  | .nili, d => (.nili, d)
  | .agg ps, d => (.agg (PV.encs ps d).1, (PV.encs ps d).2)
  | .tup ps, d => (.tup (PV.encs ps d).1, (PV.encs ps d).2)
  | .map b, d => (.map b, d)
  | .hdl g t, d => (.hdl g t, d)
def PV.encs {l : List DT} : (ps : List PV) → HD (PV.tys ps l) → List V × HD l
  | [], d => ([], d)
  | p :: r, d => ((PV.enc p d).1 :: (PV.encs r (PV.enc p d).2).1, (PV.encs r (PV.enc p d).2).2)
end
def PB.enc {l : List DT} : (p : PB) → HD (PB.ty p l) → Blk × HD l
  | .free, d => (.free, d)
  | .dead, d => (.dead, d)
  | .cells ps, d => (.cells (PV.encs ps d).1, (PV.encs ps d).2)
  | .row t, d => (.row t d.1, d.2)
  | .rows t, d => (.rows t d.1, d.2)
  | .fwd b, d => (.fwd b, d)
  | .map es, d => (.map es, d)
def PB.encs {l : List DT} : (ps : List PB) → HD (PB.tys ps l) → List Blk × HD l
  | [], d => ([], d)
  | p :: r, d => ((PB.enc p d).1 :: (PB.encs r (PB.enc p d).2).1, (PB.encs r (PB.enc p d).2).2)

/-- Data of a value that fits. -/
abbrev PV.Fit {l : List DT} (p : PV) (v : V) (d : HD l) := { e : HD (PV.ty p l) // PV.enc p e = (v, d) }
abbrev PV.Fits {l : List DT} (p : List PV) (v : List V) (d : HD l) := { e : HD (PV.tys p l) // PV.encs p e = (v, d) }
abbrev PB.Fit {l : List DT} (p : PB) (v : Blk) (d : HD l) := { e : HD (PB.ty p l) // PB.enc p e = (v, d) }
abbrev PB.Fits {l : List DT} (p : List PB) (v : List Blk) (d : HD l) := { e : HD (PB.tys p l) // PB.encs p e = (v, d) }
mutual
def PV.dec {l : List DT} : (p : PV) → (v : V) → (d : HD l) → Option (PV.Fit p v d)
  | .any, v, d => match v with
    | .any => some ⟨d, by rfl⟩
    | _ => none
  | .bool, v, d => match v with
    | .bool b => some ⟨(b, d), by rfl⟩
    | _ => none
  | .int k, v, d => match v with
    | .int k' n => if h : k' = k then some ⟨(n, d), by obtain rfl := h; rfl⟩ else none
    | _ => none
  | .str, v, d => match v with
    | .str s => some ⟨(s, d), by rfl⟩
    | _ => none
  | .ptr b off, v, d => match v with
    | .ptr b' off' => if h : b' = b ∧ off' = off then some ⟨d, by obtain ⟨rfl, rfl⟩ := h; rfl⟩ else none
    | _ => none
  | .parr b n sz, v, d => match v with
    | .parr b' n' sz' => if h : b' = b ∧ n' = n ∧ sz' = sz then some ⟨d, by obtain ⟨rfl, rfl, rfl⟩ := h; rfl⟩ else none
    | _ => none
  | .cptr ss ps off, v, d => match v with
    | .cptr ss' vs off' => if h : ss' = ss ∧ off' = off then match PV.decs ps vs d with | some ⟨e, he⟩ => some ⟨e, by obtain ⟨rfl, rfl⟩ := h; simp only [PV.enc, he]⟩ | none => none else none
    | _ => none
  | .elp b off, v, d => match v with
    | .elp b' i off' => if h : b' = b ∧ off' = off then some ⟨(i, d), by obtain ⟨rfl, rfl⟩ := h; rfl⟩ else none
    | _ => none
  | .elr b, v, d => match v with
    | .elr b' i => if h : b' = b then some ⟨(i, d), by obtain rfl := h; rfl⟩ else none
    | _ => none
  | .el2 b off, v, d => match v with
    | .el2 b' i j off' => if h : b' = b ∧ off' = off then some ⟨(i, j, d), by obtain ⟨rfl, rfl⟩ := h; rfl⟩ else none
    | _ => none
  | .nilp, v, d => match v with
    | .nilp => some ⟨d, by rfl⟩
    | _ => none
  | .ro w t, v, d => match v with
    | .ro w' t' x => if ht : t' = t then (if h : w' = w then some ⟨(ht ▸ x, d), by obtain rfl := ht; obtain rfl := h; rfl⟩ else none) else none
    | _ => none
  | .rop w t off, v, d => match v with
    | .rop w' t' x off' => if ht : t' = t then (if h : w' = w ∧ off' = off then some ⟨(ht ▸ x, d), by obtain rfl := ht; obtain ⟨rfl, rfl⟩ := h; rfl⟩ else none) else none
    | _ => none
  | .sl b sz, v, d => match v with
    | .sl b' sz' n => if h : b' = b ∧ sz' = sz then some ⟨(n, d), by obtain ⟨rfl, rfl⟩ := h; rfl⟩ else none
    | _ => none
  | .sv b sz, v, d => match v with
    | .sv b' sz' i n => if h : b' = b ∧ sz' = sz then some ⟨(i, n, d), by obtain ⟨rfl, rfl⟩ := h; rfl⟩ else none
    | _ => none
  | .sl2 b sz, v, d => match v with
    | .sl2 b' sz' i o n => if h : b' = b ∧ sz' = sz then some ⟨(i, o, n, d), by obtain ⟨rfl, rfl⟩ := h; rfl⟩ else none
    | _ => none
  | .csl b off sz n, v, d => match v with
    | .csl b' off' sz' n' => if h : b' = b ∧ off' = off ∧ sz' = sz ∧ n' = n then some ⟨d, by obtain ⟨rfl, rfl, rfl, rfl⟩ := h; rfl⟩ else none
    | _ => none
  | .esl, v, d => match v with
    | .esl => some ⟨d, by rfl⟩
    | _ => none
  | .nsl, v, d => match v with
    | .nsl => some ⟨d, by rfl⟩
    | _ => none
  | .fn f ps, v, d => match v with
    | .fn f' vs => if h : f' = f then match PV.decs ps vs d with | some ⟨e, he⟩ => some ⟨e, by obtain rfl := h; simp only [PV.enc, he]⟩ | none => none else none
    | _ => none
  | .mexp t nm, v, d => match v with
    | .mexp t' nm' => if h : t' = t ∧ nm' = nm then some ⟨d, by obtain ⟨rfl, rfl⟩ := h; rfl⟩ else none
    | _ => none
  | .nilf, v, d => match v with
    | .nilf => some ⟨d, by rfl⟩
    | _ => none
  | .iface t p, v, d => match v with
    | .iface t' u => if h : t' = t then match PV.dec p u d with | some ⟨e, he⟩ => some ⟨e, by obtain rfl := h; simp only [PV.enc, he]⟩ | none => none else none
    | _ => none
  | .nili, v, d => match v with
    | .nili => some ⟨d, by rfl⟩
    | _ => none
  | .agg ps, v, d => match v with
    | .agg vs => match PV.decs ps vs d with | some ⟨e, he⟩ => some ⟨e, by simp only [PV.enc, he]⟩ | none => none
    | _ => none
  | .tup ps, v, d => match v with
    | .tup vs => match PV.decs ps vs d with | some ⟨e, he⟩ => some ⟨e, by simp only [PV.enc, he]⟩ | none => none
    | _ => none
  | .map b, v, d => match v with
    | .map b' => if h : b' = b then some ⟨d, by obtain rfl := h; rfl⟩ else none
    | _ => none
  | .hdl g t, v, d => match v with
    | .hdl g' t' => if h : g' = g ∧ t' = t then some ⟨d, by obtain ⟨rfl, rfl⟩ := h; rfl⟩ else none
    | _ => none
def PV.decs {l : List DT} : (ps : List PV) → (vs : List V) → (d : HD l) → Option (PV.Fits ps vs d)
  | [], vs, d => match vs with
    | [] => some ⟨d, rfl⟩
    | _ :: _ => none
  | p :: r, vs, d => match vs with
    | [] => none
    | v :: vs => match PV.decs r vs d with
      | some ⟨e, he⟩ => match PV.dec p v e with
        | some ⟨e', he'⟩ => some ⟨e', by simp only [PV.encs, he', he]⟩
        | none => none
      | none => none
end
def PB.dec {l : List DT} : (p : PB) → (v : Blk) → (d : HD l) → Option (PB.Fit p v d)
  | .free, b, d => match b with
    | .free => some ⟨d, rfl⟩
    | _ => none
  | .dead, b, d => match b with
    | .dead => some ⟨d, rfl⟩
    | _ => none
  | .cells ps, b, d => match b with
    | .cells vs => match PV.decs ps vs d with | some ⟨e, he⟩ => some ⟨e, by simp only [PB.enc, he]⟩ | none => none
    | _ => none
  | .row t, b, d => match b with
    | .row t' x => if h : t' = t then some ⟨(h ▸ x, d), by obtain rfl := h; rfl⟩ else none
    | _ => none
  | .rows t, b, d => match b with
    | .rows t' x => if h : t' = t then some ⟨(h ▸ x, d), by obtain rfl := h; rfl⟩ else none
    | _ => none
  | .fwd b, v, d => match v with
    | .fwd b' => if h : b' = b then some ⟨d, by obtain rfl := h; rfl⟩ else none
    | _ => none
  | .map es, v, d => match v with
    | .map es' => if h : sameE es' es = true then some ⟨d, by obtain rfl := sameE_eq h; rfl⟩ else none
    | _ => none
def PB.decs {l : List DT} : (ps : List PB) → (vs : List Blk) → (d : HD l) → Option (PB.Fits ps vs d)
  | [], vs, d => match vs with
    | [] => some ⟨d, rfl⟩
    | _ :: _ => none
  | p :: r, vs, d => match vs with
    | [] => none
    | v :: vs => match PB.decs r vs d with
      | some ⟨e, he⟩ => match PB.dec p v e with
        | some ⟨e', he'⟩ => some ⟨e', by simp only [PB.encs, he', he]⟩
        | none => none
      | none => none

/-- What an entered function does; none: that is told elsewhere. -/
structure ESp where
  run : {R : Type} → List V → List Blk → (V → List Blk → Option R) → Option (Option R)
abbrev IE (pa : List PV) (ph : List PB) := HD (PV.tys pa (PB.tys ph []))
abbrev OE (pr : PV) (pz : List PB) := HD (PV.ty pr (PB.tys pz []))
abbrev FE (pa : List PV) (ph : List PB) (pr : PV) (pz : List PB) := (R : Type) → IE pa ph → (OE pr pz → Option R) → Option R
def decE (pa : List PV) (ph : List PB) (args : List V) (h : List Blk) : Option (IE pa ph) :=
  match PB.decs (l := []) ph h () with
  | some ⟨d, _⟩ => match PV.decs pa args d with
    | some ⟨e, _⟩ => some e
    | none => none
  | none => none
def encE1 (pa : List PV) (ph : List PB) (e : IE pa ph) : List V := (PV.encs (l := PB.tys ph []) pa e).1
def encE2 (pa : List PV) (ph : List PB) (e : IE pa ph) : List Blk := (PB.encs (l := []) ph (PV.encs (l := PB.tys ph []) pa e).2).1
/-- A result, where new blocks that nothing refers to are forgotten. -/
def gcE {R : Type} (n0 : Nat) (k : V → List Blk → Option R) (v : V) (h : List Blk) : Option R :=
  match headF 1 n0 { t := [v], o := [], h := h } with
  | some s => k (s.t.getD 0 .any) s.h
  | none => none
def getP {R : Type} (pr : PV) (pz : List PB) (k : OE pr pz → Option R) (v : V) (h : List Blk) : Option R :=
  match PB.decs (l := []) pz h () with
  | some ⟨d, _⟩ => match PV.dec pr v d with
    | some ⟨z, _⟩ => k z
    | none => none
  | none => none
def getE {R : Type} (n0 : Nat) (pr : PV) (pz : List PB) (k : OE pr pz → Option R) (v : V) (h : List Blk) : Option R := gcE n0 (getP pr pz k) v h
def mkE (pa : List PV) (ph : List PB) (pr : PV) (pz : List PB) (F : FE pa ph pr pz) : ESp := ⟨fun {R} args h k =>
  match decE pa ph args h with
  | some e => some (F R e fun z => k (PV.enc (l := PB.tys pz []) pr z).1 (PB.encs (l := []) pz (PV.enc (l := PB.tys pz []) pr z).2).1)
  | none => none⟩
/-- Two kinds of results. -/
abbrev FE2 (pa : List PV) (ph : List PB) (pr : PV) (pz : List PB) (pr' : PV) (pz' : List PB) := (R : Type) → IE pa ph → (OE pr pz → Option R) → (OE pr' pz' → Option R) → Option R
def getP2 {R : Type} (pr : PV) (pz : List PB) (k : OE pr pz → Option R) (pr' : PV) (pz' : List PB) (k' : OE pr' pz' → Option R) (v : V) (h : List Blk) : Option R :=
  match PB.decs (l := []) pz h () with
  | some ⟨d, _⟩ => match PV.dec pr v d with
    | some ⟨z, _⟩ => k z
    | none => getP pr' pz' k' v h
  | none => getP pr' pz' k' v h
def getE2 {R : Type} (n0 : Nat) (pr : PV) (pz : List PB) (k : OE pr pz → Option R) (pr' : PV) (pz' : List PB) (k' : OE pr' pz' → Option R) (v : V) (h : List Blk) : Option R := gcE n0 (getP2 pr pz k pr' pz' k') v h
def mkE2 (pa : List PV) (ph : List PB) (pr : PV) (pz : List PB) (pr' : PV) (pz' : List PB) (F : FE2 pa ph pr pz pr' pz') : ESp := ⟨fun {R} args h k =>
  match decE pa ph args h with
  | some e => some (F R e (fun z => k (PV.enc (l := PB.tys pz []) pr z).1 (PB.encs (l := []) pz (PV.enc (l := PB.tys pz []) pr z).2).1)
      (fun z => k (PV.enc (l := PB.tys pz' []) pr' z).1 (PB.encs (l := []) pz' (PV.enc (l := PB.tys pz' []) pr' z).2).1))
  | none => none⟩
abbrev ES := List (FuncId × ESp)
def tryE {R : Type} (g : FuncId) (args : List V) (h : List Blk) (k : V → List Blk → Option R) (dflt : Option R) : ES → Option R
  | [] => dflt
  | (g', sp) :: l => if g' == g then
      match sp.run args h k with
      | some x => x
      | none => tryE g args h k dflt l
    else tryE g args h k dflt l
def callE {R : Type} (C : Cfg) (es : ES) (fl : Nat) : Nat → Rec R
  | 0 => fun _ _ _ _ => none
  | d + 1 => fun g args h k => tryE g args h k (execFn C fl (callE C es fl d) g args h k) es
/-- errors.As at a target of one pointer type: nil; an error of just that type. -/
def asSp (tE tP : TypeId) : ESp := ⟨fun {R} args h k => match args with
  | [.nili, .iface t (.ptr b o)] => if t == tP then some (k (.bool false) h) else none
  | [.iface t (.ptr b o), .iface t2 (.ptr b2 o2)] => if t == tE && t2 == tP then (match h[b2]? with
      | some (.cells c) => if o2 + 1 ≤ c.length then some (k (.bool true) (storeH h b2 o2 [.ptr b o])) else none
      | _ => none) else none
  | _ => none⟩
end Go.Eng
