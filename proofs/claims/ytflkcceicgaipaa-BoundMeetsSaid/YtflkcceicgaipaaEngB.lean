/- The engine, part B: how the values of the interpreter stand to the model's. -/
import Derived.Test.YtflkcceicgaipaaEngA
set_option linter.unusedVariables false
namespace Go.Eng
open Go Go.RowKit

namespace W
theorem lt_t {a b : Int} : W.lt a b = true ↔ a < b := decide_eq_true_iff
theorem le_t {a b : Int} : W.le a b = true ↔ a ≤ b := decide_eq_true_iff
theorem gt_t {a b : Int} : W.gt a b = true ↔ a > b := decide_eq_true_iff
theorem ge_t {a b : Int} : W.ge a b = true ↔ a ≥ b := decide_eq_true_iff
theorem eq_t {a b : Int} : W.eq a b = true ↔ a = b := beq_iff_eq
theorem ltN_t {a b : Nat} : W.ltN a b = true ↔ a < b := decide_eq_true_iff
theorem and2_t {a b : Bool} : W.and2 a b = true ↔ a = true ∧ b = true := by simp [W.and2]
theorem or2_t {a b : Bool} : W.or2 a b = true ↔ a = true ∨ b = true := by simp [W.or2]
theorem not_t {a : Bool} : W.not a = true ↔ a = false := by simp [W.not]
theorem not_f {a : Bool} : W.not a = false ↔ a = true := by simp [W.not]
end W

abbrev Pi := Nat → Option Nat
def wfI (k : IntKind) (n : Int) : Prop := (Lit.int k n).wf = true

/-- The cells of a value of known type, as they lie in the world w0. -/
def TR (w0 : World) : (t : Ty) → t.D → List Value → Prop
  | .int k, n, cs => cs = [.int k n] ∧ wfI k n
  | .bool, b, cs => cs = [.bool b]
  | .str, s, cs => cs = [.string s] ∧ s.size ≤ maxLen
  | .unit, _, cs => cs = []
  | .prod a b, x, cs => ∃ c1 c2, cs = c1 ++ c2 ∧ TR w0 a x.1 c1 ∧ TR w0 b x.2 c2
  | .slice t, l, cs => ∃ a cap, cs = [.slice a l.length cap] ∧ l.length ≤ cap ∧ cap ≤ maxLen ∧
      (0 < l.length → ∃ g off, a = some ⟨g, off, none⟩ ∧ g < w0.heap.size ∧
        ∀ i (h : i < l.length), ∃ ds, TR w0 t l[i] ds ∧ ∀ j u, ds[j]? = some u → w0.cell? ⟨g, off + (i * t.size + j), none⟩ = some u)

mutual
def VR (w0 : World) (π : Pi) : V → Value → Prop
  | .any, _ => True
  | .bool b, v => v = .bool b
  | .int k n, v => v = .int k n ∧ wfI k n
  | .str s, v => v = .string s ∧ s.size ≤ maxLen
  | .ptr b off, v => ∃ g, π b = some g ∧ v = .pointer (some ⟨g, off, none⟩)
  | .nilp, v => v = .pointer none
  | .ro t l, v => TR w0 (.slice t) l [v]
  | .rop t x off, v => ∃ g o ds, v = .pointer (some ⟨g, o + off, none⟩) ∧ g < w0.heap.size ∧ TR w0 t x ds ∧ ∀ j u, ds[j]? = some u → w0.cell? ⟨g, o + j, none⟩ = some u
  | .sl _ _ _, _ => False
  | .slp _ _ _, _ => False
  | .nsl, v => v = .slice none 0 0
  | .fn f c, v => ∃ cs, v = .func (.func f) #[] cs ∧ VRL w0 π c cs.toList
  | .nilf, v => v = .nilFunc
  | .iface t x, v => ∃ u, v = .iface t u ∧ VR w0 π x u
  | .nili, v => v = .nilIface
  | .agg l, v => ∃ cs, v = .agg cs ∧ VRL w0 π l cs.toList
  | .tup l, v => ∃ cs, v = .tuple cs ∧ VRL w0 π l cs.toList
  | .map b, v => ∃ g, π b = some g ∧ v = .map (some g)
def VRL (w0 : World) (π : Pi) : List V → List Value → Prop
  | [], [] => True
  | x :: l, v :: m => VR w0 π x v ∧ VRL w0 π l m
  | _, _ => False
end

theorem VRL.length {w0 : World} {π : Pi} : ∀ {l : List V} {m : List Value}, VRL w0 π l m → l.length = m.length
  | [], [], _ => rfl
  | _ :: _, _ :: _, h => by simp only [VRL] at h; simp [VRL.length h.2]
  | [], _ :: _, h => by simp [VRL] at h
  | _ :: _, [], h => by simp [VRL] at h
theorem VRL.get {w0 : World} {π : Pi} : ∀ {l : List V} {m : List Value}, VRL w0 π l m → ∀ {i : Nat} {v : V}, l[i]? = some v → ∃ u, m[i]? = some u ∧ VR w0 π v u
  | [], _, _, i, v, hv => by simp at hv
  | x :: l, u :: m, h, 0, v, hv => by simp only [VRL] at h; simp at hv; subst hv; exact ⟨u, rfl, h.1⟩
  | x :: l, u :: m, h, i + 1, v, hv => by
    simp only [VRL] at h
    simpa using VRL.get h.2 (i := i) (by simpa using hv)
  | _ :: _, [], h, _, _, _ => by simp [VRL] at h
theorem VRL.of_get {w0 : World} {π : Pi} : ∀ {l : List V} {m : List Value}, l.length = m.length → (∀ (i : Nat) (v : V) (u : Value), l[i]? = some v → m[i]? = some u → VR w0 π v u) → VRL w0 π l m
  | [], [], _, _ => by simp [VRL]
  | x :: l, u :: m, hl, h => by
    simp only [VRL]
    exact ⟨h 0 x u rfl rfl, VRL.of_get (by simpa using hl) fun i v w hv hw => h (i + 1) v w (by simpa using hv) (by simpa using hw)⟩
  | [], _ :: _, h, _ => by simp at h
  | _ :: _, [], h, _ => by simp at h
theorem VRL.append {w0 : World} {π : Pi} : ∀ {l l' : List V} {m m' : List Value}, VRL w0 π l m → VRL w0 π l' m' → VRL w0 π (l ++ l') (m ++ m')
  | [], l', [], m', _, h => by simpa using h
  | x :: l, l', u :: m, m', h, h' => by simp only [VRL, List.cons_append] at h ⊢; exact ⟨h.1, VRL.append h.2 h'⟩
  | [], _, _ :: _, _, h, _ => by simp [VRL] at h
  | _ :: _, _, [], _, h, _ => by simp [VRL] at h
theorem VRL.nil {w0 : World} {π : Pi} {m : List Value} (h : VRL w0 π [] m) : m = [] := by cases m <;> simp_all [VRL]
theorem VRL.cons {w0 : World} {π : Pi} {x : V} {l : List V} {m : List Value} (h : VRL w0 π (x :: l) m) : ∃ u m', m = u :: m' ∧ VR w0 π x u ∧ VRL w0 π l m' := by
  cases m with
  | nil => simp [VRL] at h
  | cons u m' => simp only [VRL] at h; exact ⟨u, m', rfl, h.1, h.2⟩

/-- Another numbering that agrees where this one says something. -/
def Pi.le (π π' : Pi) : Prop := ∀ b g, π b = some g → π' b = some g
mutual
theorem VR.mono {w0 : World} {π π' : Pi} (h : π.le π') : ∀ {x : V} {v : Value}, VR w0 π x v → VR w0 π' x v
  | .any, _, _ => by simp [VR]
  | .bool b, v, hv => by simpa [VR] using hv
  | .int k n, v, hv => by simpa [VR] using hv
  | .str s, v, hv => by simpa [VR] using hv
  | .ptr b off, v, hv => by simp only [VR] at hv ⊢; obtain ⟨g, hg, e⟩ := hv; exact ⟨g, h _ _ hg, e⟩
  | .nilp, v, hv => by simpa [VR] using hv
  | .ro t l, v, hv => by simpa only [VR] using hv
  | .rop t x off, v, hv => by simpa only [VR] using hv
  | .sl _ _ _, v, hv => by simp [VR] at hv
  | .slp _ _ _, v, hv => by simp [VR] at hv
  | .nsl, v, hv => by simpa [VR] using hv
  | .fn f c, v, hv => by simp only [VR] at hv ⊢; obtain ⟨cs, e, hc⟩ := hv; exact ⟨cs, e, VRL.mono h hc⟩
  | .nilf, v, hv => by simpa [VR] using hv
  | .iface t x, v, hv => by simp only [VR] at hv ⊢; obtain ⟨u, e, hc⟩ := hv; exact ⟨u, e, VR.mono h hc⟩
  | .nili, v, hv => by simpa [VR] using hv
  | .agg l, v, hv => by simp only [VR] at hv ⊢; obtain ⟨cs, e, hc⟩ := hv; exact ⟨cs, e, VRL.mono h hc⟩
  | .tup l, v, hv => by simp only [VR] at hv ⊢; obtain ⟨cs, e, hc⟩ := hv; exact ⟨cs, e, VRL.mono h hc⟩
  | .map b, v, hv => by simp only [VR] at hv ⊢; obtain ⟨g, hg, e⟩ := hv; exact ⟨g, h _ _ hg, e⟩
theorem VRL.mono {w0 : World} {π π' : Pi} (h : π.le π') : ∀ {l : List V} {m : List Value}, VRL w0 π l m → VRL w0 π' l m
  | [], [], _ => by simp [VRL]
  | x :: l, v :: m, hv => by simp only [VRL] at hv ⊢; exact ⟨VR.mono h hv.1, VRL.mono h hv.2⟩
  | [], _ :: _, hv => by simp [VRL] at hv
  | _ :: _, [], hv => by simp [VRL] at hv
end

theorem TR.length {w0 : World} : ∀ {t : Ty} {x : t.D} {cs : List Value}, TR w0 t x cs → cs.length = t.size
  | .int k, x, cs, h => by simp only [TR] at h; simp [h.1, Ty.size]
  | .bool, x, cs, h => by simp only [TR] at h; simp [h, Ty.size]
  | .str, x, cs, h => by simp only [TR] at h; simp [h.1, Ty.size]
  | .unit, x, cs, h => by simp only [TR] at h; simp [h, Ty.size]
  | .prod a b, x, cs, h => by
    simp only [TR] at h
    obtain ⟨c1, c2, rfl, h1, h2⟩ := h
    simp [Ty.size, TR.length h1, TR.length h2]
  | .slice t, x, cs, h => by
    simp only [TR] at h
    obtain ⟨a, cap, rfl, _⟩ := h
    simp [Ty.size]
/-- The cells of what is known by its type, as the interpreter's values. -/
theorem TR.vs {w0 : World} {π : Pi} : ∀ {t : Ty} {x : t.D} {cs : List Value}, TR w0 t x cs → VRL w0 π (toVs t x) cs
  | .int k, x, cs, h => by simp only [TR] at h; obtain ⟨rfl, hw⟩ := h; simp [toVs, VRL, VR, hw]
  | .bool, x, cs, h => by simp only [TR] at h; subst h; simp [toVs, VRL, VR]
  | .str, x, cs, h => by simp only [TR] at h; obtain ⟨rfl, hw⟩ := h; simp [toVs, VRL, VR, hw]
  | .unit, x, cs, h => by simp only [TR] at h; subst h; simp [toVs, VRL]
  | .prod a b, x, cs, h => by
    simp only [TR] at h
    obtain ⟨c1, c2, rfl, h1, h2⟩ := h
    exact VRL.append (TR.vs h1) (TR.vs h2)
  | .slice t, x, cs, h => by
    have h' := h
    simp only [TR] at h
    obtain ⟨a, cap, rfl, _⟩ := h
    simp only [toVs, VRL, VR, and_true]
    exact h'

/-! ### the heap -/
/-- A block of the call's own at g. -/
def BR (w0 : World) (π : Pi) (w : World) (g : Nat) : Blk → Prop
  | .free => False
  | .dead => True
  | .cells t c => ∃ cs, w.heap[g]? = some (.cells cs t (0, 0)) ∧ VRL w0 π c cs.toList
  | .row _ _ _ => False
  | .map _ => False

structure HR (w0 w1 : World) (π : Pi) (h : List Blk) (w : World) : Prop where
  base : Below w0.heap.size w0 w1
  below : Below w1.heap.size w1 w
  free : ∀ b, h[b]? = none ∨ h[b]? = some .free → π b = none
  live : ∀ b blk, h[b]? = some blk → blk ≠ .free → ∃ g, π b = some g ∧ w1.heap.size ≤ g ∧ g < w.heap.size ∧ BR w0 π w g blk
  inj : ∀ b b' g, π b = some g → π b' = some g → b = b'

structure SR (w0 w1 : World) (π : Pi) (s : S) (a : Go.Act) (w : World) : Prop where
  len : s.t.length = a.tmps.size
  tm : ∀ u, VR w0 π (s.t.getD u .any) (a.tmps.getD u undef)
  op : ∀ u g b v, s.o.getD u none = some (g, b, v) → (a.tmps.getD g undef = .bool b → VR w0 π v (a.tmps.getD u undef)) ∧ (a.tmps.getD g undef ≠ .bool b → a.tmps.getD u undef = undef)
  df : a.defers = []
  hp : HR w0 w1 π s.h w

/-! ### what an effect comes to -/
inductive Upd where
  | no
  | store (b off : Nat) (vs : List V)
  | blk (b : Nat) (blk : Blk)
  | news (slot : Nat) (nb : List Blk)
  | heap (h : List Blk)

def Upd.on (u : Upd) (h : List Blk) : List Blk :=
  match u with
  | .no => h
  | .store b off vs => storeH h b off vs
  | .blk b x => h.set b x
  | .news slot nb => setN h slot nb
  | .heap h' => h'

/-- A call that knows nothing of the caller's own memory. -/
def CallTo (P : Program) (g : FuncId) (args : List V) (v : V) (nb : List Blk) : Prop :=
  ∀ (w0 w : World) (cargs : Array Value), Below w0.heap.size w0 w → VRL w0 (fun _ => none) args cargs.toList →
    Calls P g cargs w fun e w' => ∃ cv π, e = .returned cv ∧ HR w0 w π nb w' ∧ VR w0 π v cv
/-- A call within the caller's own memory. -/
def EnterTo (P : Program) (g : FuncId) (args : List V) (h : List Blk) (v : V) (h' : List Blk) : Prop :=
  ∀ (w0 w1 w : World) (π : Pi) (cargs : Array Value), HR w0 w1 π h w → VRL w0 π args cargs.toList →
    Calls P g cargs w fun e w' => ∃ cv π', e = .returned cv ∧ π.le π' ∧ HR w0 w1 π' h' w' ∧ VR w0 π' v cv

def EffTo (P : Program) (slot : Nat) (h : List Blk) : Eff → V → Upd → Prop
  | .fail, _, _ => False
  | .val v0, v, u => v = v0 ∧ u = .no
  | .store b off vs, v, u => v = .tup [] ∧ u = .store b off vs
  | .new blk mk, v, u => isFree h slot = true ∧ v = mk slot ∧ u = .blk slot blk
  | .setb b blk v0, v, u => v = v0 ∧ u = .blk b blk
  | .ite c x y, v, u => (c = true ∧ EffTo P slot h x v u) ∨ (c = false ∧ EffTo P slot h y v u)
  | .call g sp args, v, u => ∃ v0 nb, CallTo P g args v0 nb ∧ nb.length = sp.nNew ∧ allFree h slot sp.nNew = true ∧ v = v0.shift slot ∧ u = .news slot (nb.map (Blk.shift slot))
  | .enter g args, v, u => ∃ h', EnterTo P g args h v h' ∧ u = .heap h'

def RecOk (P : Program) {R : Type} (rec : Rec R) : Prop :=
  ∀ g args h k r, rec g args h k = some r → ∃ v h', k v h' = some r ∧ EnterTo P g args h v h'
def SpecOk (P : Program) (g : FuncId) (sp : Spec) : Prop :=
  ∀ {R : Type} args (k : V → List Blk → Option R) r, sp.run args k = some r → ∃ v nb, k v nb = some r ∧ CallTo P g args v nb

theorem br_some {α : Type} {c : Bool} {x y : Option α} {r : α} (h : br c x y = some r) : (c = true ∧ x = some r) ∨ (c = false ∧ y = some r) := by
  cases c
  · exact .inr ⟨rfl, h⟩
  · exact .inl ⟨rfl, h⟩
/-- The effects that a plan may hold. -/
def EffOk (P : Program) : Eff → Prop
  | .call g sp _ => SpecOk P g sp
  | .ite _ x y => EffOk P x ∧ EffOk P y
  | _ => True
theorem Eff.run_to {P : Program} {R : Type} {rec : Rec R} (hrec : RecOk P rec) {dst : Option Nat} {slot : Nat} {s : S} {k : S → Option R} {r : R} :
    ∀ {e : Eff}, EffOk P e → e.run rec dst slot s k = some r → ∃ v u, EffTo P slot s.h e v u ∧ k ({ s with h := u.on s.h }.put dst v) = some r
  | .fail, _, h => by simp [Eff.run] at h
  | .val v, _, h => ⟨v, .no, ⟨rfl, rfl⟩, by simpa only [Eff.run, Upd.on] using h⟩
  | .store b off vs, _, h => ⟨_, .store b off vs, ⟨rfl, rfl⟩, by simpa only [Eff.run, Upd.on] using h⟩
  | .new blk mk, _, h => by
    simp only [Eff.run] at h
    split at h
    · rename_i hf; exact ⟨_, .blk slot blk, ⟨hf, rfl, rfl⟩, by simpa only [Upd.on] using h⟩
    · cases h
  | .setb b blk v, _, h => ⟨_, .blk b blk, ⟨rfl, rfl⟩, by simpa only [Eff.run, Upd.on] using h⟩
  | .ite c x y, ho, h => by
    rcases br_some h with ⟨hc, h⟩ | ⟨hc, h⟩
    · obtain ⟨v, u, h1, h2⟩ := Eff.run_to hrec ho.1 h
      exact ⟨v, u, .inl ⟨hc, h1⟩, h2⟩
    · obtain ⟨v, u, h1, h2⟩ := Eff.run_to hrec ho.2 h
      exact ⟨v, u, .inr ⟨hc, h1⟩, h2⟩
  | .call g sp args, ho, h => by
    simp only [Eff.run] at h
    obtain ⟨v, nb, hk, hc⟩ := ho args _ _ h
    split at hk
    · rename_i hl
      simp only [Bool.and_eq_true, beq_iff_eq] at hl
      exact ⟨_, .news slot (nb.map (Blk.shift slot)), ⟨v, nb, hc, hl.1, hl.2, rfl, rfl⟩, by simpa only [Upd.on] using hk⟩
    · cases hk
  | .enter g args, _, h => by
    simp only [Eff.run] at h
    obtain ⟨v, h', hk, hc⟩ := hrec _ _ _ _ _ h
    exact ⟨v, .heap h', ⟨h', hc, rfl⟩, by simpa only [Upd.on] using hk⟩
end Go.Eng
