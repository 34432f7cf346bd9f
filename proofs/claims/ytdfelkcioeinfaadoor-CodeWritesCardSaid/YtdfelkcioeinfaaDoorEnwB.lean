/- The engine, part B: how the values of the interpreter stand to the model's. -/
import Derived.Test.YtdfelkcioeinfaaDoorEnwA
import Derived.Test.YtdfelkcioeinfaaDoorEnwBase
set_option linter.unusedVariables false
namespace Go.Eng
open Go Go.RowKit

namespace W
theorem lt_t {a b : Int} : W.lt a b = true ↔ a < b := decide_eq_true_iff
theorem le_t {a b : Int} : W.le a b = true ↔ a ≤ b := decide_eq_true_iff
theorem gt_t {a b : Int} : W.gt a b = true ↔ a > b := decide_eq_true_iff
theorem ge_t {a b : Int} : W.ge a b = true ↔ a ≥ b := decide_eq_true_iff
theorem eq_t {a b : Int} : W.eq a b = true ↔ a = b := beq_iff_eq
theorem ltN_t {a b : Nat} : W.ltN a b = true ↔ a < b := decide_eq_true_iff
theorem leN_t {a b : Nat} : W.leN a b = true ↔ a ≤ b := decide_eq_true_iff
theorem eqN_t {a b : Nat} : W.eqN a b = true ↔ a = b := beq_iff_eq
theorem and2_t {a b : Bool} : W.and2 a b = true ↔ a = true ∧ b = true := by simp [W.and2]
theorem or2_t {a b : Bool} : W.or2 a b = true ↔ a = true ∨ b = true := by simp [W.or2]
theorem not_t {a : Bool} : W.not a = true ↔ a = false := by simp [W.not]
theorem not_f {a : Bool} : W.not a = false ↔ a = true := by simp [W.not]
end W

/-- A row of cells in memory. -/
structure Rng where
  g : Nat
  o : Nat
  n : Nat
def Rng.has (r : Rng) (g off : Nat) : Prop := g = r.g ∧ r.o ≤ off ∧ off < r.o + r.n
/-- Where a block lies: its cells; how many elements of how many cells; of an array of arrays: each inner one's place and length, its elements' cells. -/
structure At where
  g : Nat
  o : Nat
  n : Nat
  len : Nat
  sz : Nat
  sz2 : Nat
  sub : List (Option Rng × Nat)
def At.main (A : At) : Rng := ⟨A.g, A.o, A.n⟩
def At.has (A : At) (g off : Nat) : Prop := A.main.has g off ∨ ∃ (i : Nat) (r : Rng) (m : Nat), A.sub[i]? = some (some r, m) ∧ r.has g off
abbrev Pi := Nat → Option At
/-- What is never written again: cells, and what they hold. -/
abbrev Fz := Nat → Nat → Option Value
abbrev Fr := Bool → Fz
def wfI (k : IntKind) (n : Int) : Prop := (Lit.int k n).wf = true

/-- The cells of a value of known type. -/
def TR (F : Fz) : (t : Ty) → t.D → List Value → Prop
  | .int k, n, cs => cs = [.int k n] ∧ wfI k n
  | .bool, b, cs => cs = [.bool b]
  | .str, s, cs => cs = [.string s] ∧ s.size ≤ maxLen
  | .unit, _, cs => cs = []
  | .prod a b, x, cs => ∃ c1 c2, cs = c1 ++ c2 ∧ TR F a x.1 c1 ∧ TR F b x.2 c2
  | .slice t, l, cs => ∃ a cap, cs = [.slice a l.length cap] ∧ l.length ≤ cap ∧ cap ≤ maxLen ∧
      (0 < l.length → ∃ g off, a = some ⟨g, off, none⟩ ∧
        ∀ i (h : i < l.length), ∃ ds, TR F t l[i] ds ∧ ∀ j u, ds[j]? = some u → F g (off + (i * t.size + j)) = some u)

def pv (g o : Nat) : Value := .pointer (some ⟨g, o, none⟩)
mutual
def VR (Φ : Fr) (π : Pi) : V → Value → Prop
  | .any, _ => True
  | .bool b, v => v = .bool b
  | .int k n, v => v = .int k n ∧ wfI k n
  | .str s, v => v = .string s ∧ s.size ≤ maxLen
  | .ptr b off, v => ∃ A, π b = some A ∧ v = pv A.g (A.o + off)
  | .parr b n sz, v => ∃ A, π b = some A ∧ A.len = n ∧ A.sz = sz ∧ n * sz ≤ A.n ∧ n ≤ maxLen ∧ v = pv A.g A.o
  | .cptr ss ps off, v => ∃ g o, v = pv g (o + off) ∧ VRL Φ π ps (ss.map fun s => pv g (o + s.1))
  | .elp b i off, v => ∃ A, π b = some A ∧ i < A.len ∧ v = pv A.g (A.o + (i * A.sz + off))
  | .elr b i, v => ∃ A, π b = some A ∧ i < A.len ∧ v = pv A.g (A.o + i * A.sz)
  | .el2 b i j off, v => ∃ A r m, π b = some A ∧ A.sub[i]? = some (some r, m) ∧ j < m ∧ v = pv r.g (r.o + (j * A.sz2 + off))
  | .nilp, v => v = .pointer none
  | .ro w t l, v => TR (Φ w) (.slice t) l [v]
  | .rop w t x off, v => ∃ g o ds, v = pv g (o + off) ∧ TR (Φ w) t x ds ∧ ∀ j u, ds[j]? = some u → Φ w g (o + j) = some u
  | .sl b sz n, v => ∃ A a cap, π b = some A ∧ A.sz = sz ∧ A.len = n ∧ v = .slice a n cap ∧ n ≤ cap ∧ cap ≤ maxLen ∧ cap * sz ≤ A.n ∧ (0 < cap → a = some ⟨A.g, A.o, none⟩)
  | .sv b sz i n, v => ∃ A a cap, π b = some A ∧ A.sz = sz ∧ i + n ≤ A.len ∧ v = .slice a n cap ∧ n ≤ cap ∧ cap ≤ maxLen ∧ (0 < cap → (i + cap) * sz ≤ A.n ∧ a = some ⟨A.g, A.o + i * sz, none⟩)
  | .sl2 b sz i o n, v => ∃ A r m a cap, π b = some A ∧ A.sz2 = sz ∧ A.sub[i]? = some (r, m) ∧ o + n ≤ m ∧ v = .slice a n cap ∧ n ≤ cap ∧ cap ≤ maxLen ∧ (0 < n → ∃ q, r = some q ∧ a = some ⟨q.g, q.o + o * sz, none⟩)
  | .csl b off sz n, v => ∃ A cap, π b = some A ∧ v = .slice (some ⟨A.g, A.o + off, none⟩) n cap ∧ n ≤ cap ∧ cap ≤ maxLen
  | .esl, v => ∃ a, v = .slice a 0 0
  | .nsl, v => v = .slice none 0 0
  | .fn f c, v => ∃ cs, v = .func (.func f) #[] cs ∧ VRL Φ π c cs.toList
  | .mexp t name, v => v = .func (.methodOf t name) #[] #[]
  | .nilf, v => v = .nilFunc
  | .iface t x, v => ∃ u, v = .iface t u ∧ VR Φ π x u
  | .nili, v => v = .nilIface
  | .agg l, v => ∃ cs, v = .agg cs ∧ VRL Φ π l cs.toList
  | .tup l, v => ∃ cs, v = .tuple cs ∧ VRL Φ π l cs.toList
  | .map b, v => ∃ A, π b = some A ∧ v = .map (some A.g)
  | .hdl g t, v => v = pv g t
def VRL (Φ : Fr) (π : Pi) : List V → List Value → Prop
  | [], [] => True
  | x :: l, v :: m => VR Φ π x v ∧ VRL Φ π l m
  | _, _ => False
end

section
variable {Φ : Fr} {π : Pi}
theorem VRL.length : ∀ {l : List V} {m : List Value}, VRL Φ π l m → l.length = m.length
  | [], [], _ => rfl
  | _ :: _, _ :: _, h => by simp only [VRL] at h; simp [VRL.length h.2]
  | [], _ :: _, h => by simp [VRL] at h
  | _ :: _, [], h => by simp [VRL] at h
theorem VRL.get : ∀ {l : List V} {m : List Value}, VRL Φ π l m → ∀ {i : Nat} {v : V}, l[i]? = some v → ∃ u, m[i]? = some u ∧ VR Φ π v u
  | [], _, _, i, v, hv => by simp at hv
  | x :: l, u :: m, h, 0, v, hv => by simp only [VRL] at h; simp at hv; subst hv; exact ⟨u, rfl, h.1⟩
  | x :: l, u :: m, h, i + 1, v, hv => by
    simp only [VRL] at h
    simpa using VRL.get h.2 (i := i) (by simpa using hv)
  | _ :: _, [], h, _, _, _ => by simp [VRL] at h
theorem VRL.of_get : ∀ {l : List V} {m : List Value}, l.length = m.length → (∀ (i : Nat) (v : V) (u : Value), l[i]? = some v → m[i]? = some u → VR Φ π v u) → VRL Φ π l m
  | [], [], _, _ => by simp [VRL]
  | x :: l, u :: m, hl, h => by
    simp only [VRL]
    exact ⟨h 0 x u rfl rfl, VRL.of_get (by simpa using hl) fun i v w hv hw => h (i + 1) v w (by simpa using hv) (by simpa using hw)⟩
  | [], _ :: _, h, _ => by simp at h
  | _ :: _, [], h, _ => by simp at h
theorem VRL.append : ∀ {l l' : List V} {m m' : List Value}, VRL Φ π l m → VRL Φ π l' m' → VRL Φ π (l ++ l') (m ++ m')
  | [], l', [], m', _, h => by simpa using h
  | x :: l, l', u :: m, m', h, h' => by simp only [VRL, List.cons_append] at h ⊢; exact ⟨h.1, VRL.append h.2 h'⟩
  | [], _, _ :: _, _, h, _ => by simp [VRL] at h
  | _ :: _, _, [], _, h, _ => by simp [VRL] at h
theorem VRL.nil {m : List Value} (h : VRL Φ π [] m) : m = [] := by cases m <;> simp_all [VRL]
theorem VRL.cons {x : V} {l : List V} {m : List Value} (h : VRL Φ π (x :: l) m) : ∃ u m', m = u :: m' ∧ VR Φ π x u ∧ VRL Φ π l m' := by
  cases m with
  | nil => simp [VRL] at h
  | cons u m' => simp only [VRL] at h; exact ⟨u, m', rfl, h.1, h.2⟩
end

/-- Another numbering that agrees where this one says something. -/
def Pi.le (π π' : Pi) : Prop := ∀ b A, π b = some A → π' b = some A
def Fz.le (F F' : Fz) : Prop := ∀ g off u, F g off = some u → F' g off = some u
def Fr.le (Φ Φ' : Fr) : Prop := ∀ x, (Φ x).le (Φ' x)
/-- More is never written again, of new blocks alone. -/
structure Fr.ext (n : Nat) (Φ Φ' : Fr) : Prop where
  le : Φ.le Φ'
  new : ∀ x g off u, Φ' x g off = some u → Φ x g off = some u ∨ n ≤ g
theorem Fr.le_refl (Φ : Fr) : Φ.le Φ := fun _ _ _ _ h => h
theorem Fr.le_trans {Φ Φ' Φ'' : Fr} (h : Φ.le Φ') (h' : Φ'.le Φ'') : Φ.le Φ'' := fun x g off u hu => h' x g off u (h x g off u hu)
theorem Fr.ext.refl (n : Nat) (Φ : Fr) : Fr.ext n Φ Φ := ⟨Fr.le_refl _, fun _ _ _ _ h => .inl h⟩
theorem Fr.ext.trans {n : Nat} {Φ Φ' Φ'' : Fr} (h : Fr.ext n Φ Φ') (h' : Fr.ext n Φ' Φ'') : Fr.ext n Φ Φ'' :=
  ⟨Fr.le_trans h.le h'.le, fun x g off u hu => (h'.new x g off u hu).elim (fun e => h.new x g off u e) .inr⟩
theorem Fr.ext.mono {n m : Nat} {Φ Φ' : Fr} (h : Fr.ext n Φ Φ') (hm : m ≤ n) : Fr.ext m Φ Φ' :=
  ⟨h.le, fun x g off u hu => (h.new x g off u hu).imp id fun e => Nat.le_trans hm e⟩
theorem Pi.le_refl (π : Pi) : π.le π := fun _ _ h => h
theorem Pi.le_trans {π π' π'' : Pi} (h : π.le π') (h' : π'.le π'') : π.le π'' := fun b g hg => h' b g (h b g hg)

theorem TR.mono {F F' : Fz} (hf : F.le F') : ∀ {t : Ty} {x : t.D} {cs : List Value}, TR F t x cs → TR F' t x cs
  | .int k, x, cs, h => by simpa only [TR] using h
  | .bool, x, cs, h => by simpa only [TR] using h
  | .str, x, cs, h => by simpa only [TR] using h
  | .unit, x, cs, h => by simpa only [TR] using h
  | .prod a b, x, cs, h => by
    simp only [TR] at h ⊢
    obtain ⟨c1, c2, e, h1, h2⟩ := h
    exact ⟨c1, c2, e, TR.mono hf h1, TR.mono hf h2⟩
  | .slice t, l, cs, h => by
    simp only [TR] at h ⊢
    obtain ⟨a, cap, e, h1, h2, h3⟩ := h
    refine ⟨a, cap, e, h1, h2, fun h0 => ?_⟩
    obtain ⟨g, off, e2, h4⟩ := h3 h0
    refine ⟨g, off, e2, fun i hi => ?_⟩
    obtain ⟨ds, h5, h6⟩ := h4 i hi
    exact ⟨ds, TR.mono hf h5, fun j u hu => hf _ _ _ (h6 j u hu)⟩

mutual
theorem VR.mono {Φ Φ' : Fr} {π π' : Pi} (hf : Φ.le Φ') (h : π.le π') : ∀ {x : V} {v : Value}, VR Φ π x v → VR Φ' π' x v
  | .any, _, _ => by simp [VR]
  | .bool b, v, hv => by simpa [VR] using hv
  | .int k n, v, hv => by simpa [VR] using hv
  | .str s, v, hv => by simpa [VR] using hv
  | .ptr b off, v, hv => by simp only [VR] at hv ⊢; obtain ⟨A, hA, e⟩ := hv; exact ⟨A, h _ _ hA, e⟩
  | .parr b n sz, v, hv => by simp only [VR] at hv ⊢; obtain ⟨A, hA, e⟩ := hv; exact ⟨A, h _ _ hA, e⟩
  | .cptr ss ps off, v, hv => by simp only [VR] at hv ⊢; obtain ⟨g, o, e, hp⟩ := hv; exact ⟨g, o, e, VRL.mono hf h hp⟩
  | .elp b i off, v, hv => by simp only [VR] at hv ⊢; obtain ⟨A, hA, e⟩ := hv; exact ⟨A, h _ _ hA, e⟩
  | .elr b i, v, hv => by simp only [VR] at hv ⊢; obtain ⟨A, hA, e⟩ := hv; exact ⟨A, h _ _ hA, e⟩
  | .el2 b i j off, v, hv => by simp only [VR] at hv ⊢; obtain ⟨A, r, m, hA, e⟩ := hv; exact ⟨A, r, m, h _ _ hA, e⟩
  | .nilp, v, hv => by simpa [VR] using hv
  | .ro w t l, v, hv => by simp only [VR] at hv ⊢; exact TR.mono (hf w) hv
  | .rop w t x off, v, hv => by
    simp only [VR] at hv ⊢
    obtain ⟨g, o, ds, e, h1, h2⟩ := hv
    exact ⟨g, o, ds, e, TR.mono (hf w) h1, fun j u hu => hf _ _ _ _ (h2 j u hu)⟩
  | .sl b sz n, v, hv => by simp only [VR] at hv ⊢; obtain ⟨A, a, cap, hA, e⟩ := hv; exact ⟨A, a, cap, h _ _ hA, e⟩
  | .sv b sz i n, v, hv => by simp only [VR] at hv ⊢; obtain ⟨A, a, cap, hA, e⟩ := hv; exact ⟨A, a, cap, h _ _ hA, e⟩
  | .sl2 b sz i o n, v, hv => by simp only [VR] at hv ⊢; obtain ⟨A, r, m, a, cap, hA, e⟩ := hv; exact ⟨A, r, m, a, cap, h _ _ hA, e⟩
  | .csl b off sz n, v, hv => by simp only [VR] at hv ⊢; obtain ⟨A, cap, hA, e⟩ := hv; exact ⟨A, cap, h _ _ hA, e⟩
  | .esl, v, hv => by simpa [VR] using hv
  | .nsl, v, hv => by simpa [VR] using hv
  | .fn f c, v, hv => by simp only [VR] at hv ⊢; obtain ⟨cs, e, hc⟩ := hv; exact ⟨cs, e, VRL.mono hf h hc⟩
  | .mexp t n, v, hv => by simpa [VR] using hv
  | .nilf, v, hv => by simpa [VR] using hv
  | .iface t x, v, hv => by simp only [VR] at hv ⊢; obtain ⟨u, e, hc⟩ := hv; exact ⟨u, e, VR.mono hf h hc⟩
  | .nili, v, hv => by simpa [VR] using hv
  | .agg l, v, hv => by simp only [VR] at hv ⊢; obtain ⟨cs, e, hc⟩ := hv; exact ⟨cs, e, VRL.mono hf h hc⟩
  | .tup l, v, hv => by simp only [VR] at hv ⊢; obtain ⟨cs, e, hc⟩ := hv; exact ⟨cs, e, VRL.mono hf h hc⟩
  | .map b, v, hv => by simp only [VR] at hv ⊢; obtain ⟨A, hA, e⟩ := hv; exact ⟨A, h _ _ hA, e⟩
  | .hdl g t, v, hv => by simpa [VR] using hv
theorem VRL.mono {Φ Φ' : Fr} {π π' : Pi} (hf : Φ.le Φ') (h : π.le π') : ∀ {l : List V} {m : List Value}, VRL Φ π l m → VRL Φ' π' l m
  | [], [], _ => by simp [VRL]
  | x :: l, v :: m, hv => by simp only [VRL] at hv ⊢; exact ⟨VR.mono hf h hv.1, VRL.mono hf h hv.2⟩
  | [], _ :: _, hv => by simp [VRL] at hv
  | _ :: _, [], hv => by simp [VRL] at hv
end

theorem TR.length {F : Fz} : ∀ {t : Ty} {x : t.D} {cs : List Value}, TR F t x cs → cs.length = t.size
  | .int k, x, cs, h => by simp only [TR] at h; simp [h.1, Ty.size]
  | .bool, x, cs, h => by simp only [TR] at h; simp [h, Ty.size]
  | .str, x, cs, h => by simp only [TR] at h; simp [h.1, Ty.size]
  | .unit, x, cs, h => by simp only [TR] at h; simp [h, Ty.size]
  | .prod a b, x, cs, h => by
    simp only [TR] at h
    obtain ⟨c1, c2, rfl, h1, h2⟩ := h
    simp [Ty.size, TR.length h1, TR.length h2]
  | .slice t, x, cs, h => by
    simp only [TR] at h
    obtain ⟨a, cap, rfl, _⟩ := h
    simp [Ty.size]
/-- The cells of what is known by its type, as the interpreter's values. -/
theorem TR.vs {Φ : Fr} {π : Pi} {w : Bool} : ∀ {t : Ty} {x : t.D} {cs : List Value}, TR (Φ w) t x cs → VRL Φ π (toVs w t x) cs
  | .int k, x, cs, h => by simp only [TR] at h; obtain ⟨rfl, hw⟩ := h; simp [toVs, VRL, VR, hw]
  | .bool, x, cs, h => by simp only [TR] at h; subst h; simp [toVs, VRL, VR]
  | .str, x, cs, h => by simp only [TR] at h; obtain ⟨rfl, hw⟩ := h; simp [toVs, VRL, VR, hw]
  | .unit, x, cs, h => by simp only [TR] at h; subst h; simp [toVs, VRL]
  | .prod a b, x, cs, h => by
    simp only [TR] at h
    obtain ⟨c1, c2, rfl, h1, h2⟩ := h
    exact VRL.append (TR.vs h1) (TR.vs h2)
  | .slice t, x, cs, h => by
    have h' := h
    simp only [TR] at h
    obtain ⟨a, cap, rfl, _⟩ := h
    simp only [toVs, VRL, VR, and_true]
    exact h'
theorem toVs_length (w : Bool) : ∀ (t : Ty) (x : t.D), (toVs w t x).length = t.size
  | .int _, _ => rfl
  | .bool, _ => rfl
  | .str, _ => rfl
  | .unit, _ => rfl
  | .prod a b, x => by simp [toVs, Ty.size, toVs_length w a, toVs_length w b]
  | .slice _, _ => rfl

/-! ### the heap -/
/-- A cell that may be written. -/
def wcell (w : World) (g off : Nat) : Option Value :=
  match w.heap[g]? with
  | some (.cells c _ (0, 0)) => c[off]?
  | _ => none
theorem wcell_cell {w : World} {g off : Nat} {u : Value} (h : wcell w g off = some u) : w.cell? ⟨g, off, none⟩ = some u := by
  unfold wcell at h
  split at h
  · rename_i c e hb
    simp [World.cell?, hb, h]
  · cases h
theorem wcell_frozen {w : World} {g off : Nat} {u : Value} (h : wcell w g off = some u) : w.frozen? ⟨g, off, none⟩ = false := by
  unfold wcell at h
  split at h
  · rename_i c e hb
    simp [World.frozen?, hb]
  · cases h
theorem wcell_lt {w : World} {g off : Nat} {u : Value} (h : wcell w g off = some u) : g < w.heap.size := by
  unfold wcell at h
  split at h
  · rename_i c e hb
    exact (Array.getElem?_eq_some_iff.1 hb).1
  · cases h

/-- Elements of a known type, one behind the other. -/
def Els (F : Fz) (w : World) (g o : Nat) (t : Ty) (xs : List t.D) : Prop :=
  ∀ i (h : i < xs.length), ∃ ds, TR F t xs[i] ds ∧ ∀ j u, ds[j]? = some u → wcell w g (o + (i * t.size + j)) = some u
/-- An inner array: its place, its header's cell. -/
def Inner (F : Fz) (w : World) (t : Ty) (x : List t.D) (r : Option Rng) (c : Value) : Prop :=
  ∃ a cap, c = .slice a x.length cap ∧ x.length ≤ cap ∧ cap ≤ maxLen ∧
    (0 < x.length → ∃ q, r = some q ∧ a = some ⟨q.g, q.o, none⟩ ∧ x.length * t.size ≤ q.n ∧ Els F w q.g q.o t x)
def Rng.apart (r q : Rng) : Prop := ∀ g off, r.has g off → ¬ q.has g off
/-- The parts of a place do not meet. -/
structure At.ok (A : At) : Prop where
  main : ∀ (i : Nat) (r : Rng) (m : Nat), A.sub[i]? = some (some r, m) → A.main.apart r
  subs : ∀ (i j : Nat) (r q : Rng) (m k : Nat), A.sub[i]? = some (some r, m) → A.sub[j]? = some (some q, k) → i ≠ j → r.apart q
def BR (Φ : Fr) (π : Pi) (w : World) (A : At) : Blk → Prop
  | .free => False
  | .dead => True
  | .cells c => A.n = c.length ∧ A.sub = [] ∧ ∃ cs, VRL Φ π c cs ∧ ∀ j u, cs[j]? = some u → wcell w A.g (A.o + j) = some u
  | .row t xs => A.sub = [] ∧ A.len = xs.length ∧ A.sz = t.size ∧ 0 < t.size ∧ xs.length * t.size ≤ A.n ∧ (∀ j, j < A.n → ∃ u, wcell w A.g (A.o + j) = some u) ∧ Els (Φ false) w A.g A.o t xs
  | .rows t xs => A.len = xs.length ∧ A.sz = 1 ∧ A.sz2 = t.size ∧ 0 < t.size ∧ xs.length ≤ A.n ∧ A.sub.length = xs.length ∧ A.ok ∧ (∀ j, j < A.n → ∃ u, wcell w A.g (A.o + j) = some u) ∧
      ∀ i (h : i < xs.length), ∃ r c, A.sub[i]? = some (r, xs[i].length) ∧ wcell w A.g (A.o + i) = some c ∧ Inner (Φ false) w t xs[i] r c
  | .map es => A.sub = [] ∧ A.o = 0 ∧ A.n = 1 ∧ ∃ (ents : Array MapEntry) (clock : Nat), w.heap[A.g]? = some (.map ents clock) ∧
      VRL Φ π (es.map (·.1)) (ents.toList.map (·.key)) ∧ VRL Φ π (es.map (·.2)) (ents.toList.map (·.val))
  | .fwd b => ∃ A', π b = some A' ∧ A'.g = A.g ∧ A'.o = A.o ∧ A'.n = A.n ∧ A'.len = A.len ∧ A'.sz = A.sz

/-- Blocks that hold cells. -/
def Blk.owns : Blk → Bool
  | .cells _ | .row _ _ | .rows _ _ | .map _ => true
  | _ => false
def Blk.isRow : Blk → Bool
  | .row _ _ | .rows _ _ => true
  | _ => false

def FzOk (F : Fz) (w : World) : Prop := ∀ g off u, F g off = some u → w.cell? ⟨g, off, none⟩ = some u
/-- The tables hold what they hold. -/
def BaseOk (w : World) : Prop := ∀ g cs, Base g = some cs → ∃ t fr, w.heap[g]? = some (.cells cs t fr)
theorem BaseOk.below {w w' : World} (h : BaseOk w) (hb : Below w.heap.size w w') : BaseOk w' := by
  intro g cs hu
  obtain ⟨t, fr, h1⟩ := h g cs hu
  exact ⟨t, fr, (hb.block g (Array.getElem?_eq_some_iff.1 h1).1).trans h1⟩
structure HR (Φ : Fr) (w1 : World) (π : Pi) (h : List Blk) (w : World) : Prop where
  fz : ∀ x, FzOk (Φ x) w
  below : Below w1.heap.size w1 w
  base : BaseOk w1
  free : ∀ b, h[b]? = none ∨ h[b]? = some .free → π b = none
  live : ∀ b blk, h[b]? = some blk → blk ≠ .free → ∃ A, π b = some A ∧ BR Φ π w A blk
  own : ∀ b blk A, h[b]? = some blk → blk.owns = true → π b = some A → ∀ g off, A.has g off → w1.heap.size ≤ g ∧ g < w.heap.size ∧ ∀ x, Φ x g off = none
  apart : ∀ b b' blk blk' A A', h[b]? = some blk → blk.owns = true → h[b']? = some blk' → blk'.owns = true → b ≠ b' → π b = some A → π b' = some A' → ∀ g off, A.has g off → ¬ A'.has g off

structure SR (Φ : Fr) (w1 : World) (π : Pi) (s : S) (a : Go.Act) (w : World) : Prop where
  len : s.t.length = a.tmps.size
  tm : ∀ u, VR Φ π (s.t.getD u .any) (a.tmps.getD u undef)
  op : ∀ u g b v, s.o.getD u none = some (g, b, v) → (a.tmps.getD g undef = .bool b → VR Φ π v (a.tmps.getD u undef)) ∧ (a.tmps.getD g undef ≠ .bool b → a.tmps.getD u undef = undef)
  df : a.defers = []
  hp : HR Φ w1 π s.h w

/-! ### what an effect comes to -/
inductive Upd where
  | no
  | store (b off : Nat) (vs : List V)
  | put (b : Nat) (T : Ty) (xs : List T.D)
  | news (slot : Nat) (nb : List Blk)
  | heap (h : List Blk)

def Upd.on (u : Upd) (h : List Blk) : List Blk :=
  match u with
  | .no => h
  | .store b off vs => storeH h b off vs
  | .put b T xs => putH h b (.row T xs)
  | .news slot nb => setN h slot nb
  | .heap h' => h'

/-- All cells of a world as they are. -/
def snap (w : World) : Fz := fun g off => w.cell? ⟨g, off, none⟩
/-- What a call may lean on: what is never written again; all that is there, while it lasts. -/
def lend (F : Fz) (w : World) : Fr := fun x => if x then snap w else F
def only (F : Fz) : Fr := fun x => if x then fun _ _ => none else F
/-- A call that knows nothing of the caller's own memory. -/
def CallTo (P : Program) (g : FuncId) (args : List V) (v : V) (nb : List Blk) : Prop :=
  nb.all Blk.isRow = true ∧ ∀ (F : Fz) (w : World) (cargs : Array Value), FzOk F w → BaseOk w → VRL (lend F w) (fun _ => none) args cargs.toList →
    Calls P g cargs w fun e w' => ∃ cv F' π, e = .returned cv ∧ Fr.ext w.heap.size (only F) (only F') ∧ HR (only F') w π nb w' ∧ VR (only F') π v cv
/-- A call within the caller's own memory. -/
def EnterTo (P : Program) (g : FuncId) (args : List V) (h : List Blk) (v : V) (h' : List Blk) : Prop :=
  ∀ (Φ : Fr) (w1 w : World) (π : Pi) (cargs : Array Value), HR Φ w1 π h w → VRL Φ π args cargs.toList →
    Calls P g cargs w fun e w' => ∃ cv Φ' π', e = .returned cv ∧ Fr.ext w1.heap.size Φ Φ' ∧ π.le π' ∧ HR Φ' w1 π' h' w' ∧ VR Φ' π' v cv

def EffTo (P : Program) (slot : Nat) (h : List Blk) : Eff → V → Upd → Prop
  | .fail, _, _ => False
  | .val v0, v, u => v = v0 ∧ u = .no
  | .store b off vs, v, u => v = .tup [] ∧ u = .store b off vs
  | .put b T xs, v, u => v = .tup [] ∧ u = .put b T xs
  | .new bs mk, v, u => allFree h slot bs.length = true ∧ v = mk slot ∧ u = .news slot bs
  | .mod f mk, v, u => ∃ h', f slot = some h' ∧ v = mk slot ∧ u = .heap h'
  | .ite c x y, v, u => (c = true ∧ EffTo P slot h x v u) ∨ (c = false ∧ EffTo P slot h y v u)
  | .call g sp args, v, u => ∃ v0 nb, CallTo P g args v0 nb ∧ nb.length = sp.nNew ∧ allFree h slot sp.nNew = true ∧ v = v0.shift slot ∧ u = .news slot nb
  | .enter g args, v, u => ∃ h', EnterTo P g args h v h' ∧ u = .heap h'

def RecOk (P : Program) {R : Type} (rec : Rec R) : Prop :=
  ∀ g args h k r, rec g args h k = some r → ∃ v h', k v h' = some r ∧ EnterTo P g args h v h'
def SpecOk (P : Program) (g : FuncId) (sp : Spec) : Prop :=
  ∀ {R : Type} args (k : V → List Blk → Option R) r, sp.run args k = some r → ∃ v nb, k v nb = some r ∧ CallTo P g args v nb

theorem br_some {α : Type} {c : Bool} {x y : Option α} {r : α} (h : br c x y = some r) : (c = true ∧ x = some r) ∨ (c = false ∧ y = some r) := by
  cases c
  · exact .inr ⟨rfl, h⟩
  · exact .inl ⟨rfl, h⟩
theorem forceL_eq {α R : Type} : ∀ (l : List α) (k : List α → Option R), forceL l k = k l
  | [], k => rfl
  | x :: l, k => by rw [forceL, forceL_eq l]
theorem forceV0_eq {R : Type} (v : V) (k : V → Option R) : forceV0 v k = k v := by cases v <;> simp only [forceV0, forceL_eq]
theorem forceV_eq {R : Type} (v : V) (k : V → Option R) : forceV v k = k v := by cases v <;> simp only [forceV, forceL_eq, forceV0_eq]
theorem forceVL_eq {R : Type} : ∀ (l : List V) (k : List V → Option R), forceVL l k = k l
  | [], k => rfl
  | v :: l, k => by simp only [forceVL, forceV_eq, forceVL_eq l]
theorem forceB_eq {R : Type} (b : Blk) (k : Blk → Option R) : forceB b k = k b := by cases b <;> simp only [forceB, forceVL_eq]
theorem forceBL_eq {R : Type} : ∀ (l : List Blk) (k : List Blk → Option R), forceBL l k = k l
  | [], k => rfl
  | v :: l, k => by simp only [forceBL, forceB_eq, forceBL_eq l]
/-- The effects that a plan may hold. -/
def EffOk (P : Program) : Eff → Prop
  | .call g sp _ => SpecOk P g sp
  | .ite _ x y => EffOk P x ∧ EffOk P y
  | _ => True
theorem Eff.run_to {P : Program} {R : Type} {rec : Rec R} (hrec : RecOk P rec) {dst : Option Nat} {slot : Nat} {s : S} {k : S → Option R} {r : R} :
    ∀ {e : Eff}, EffOk P e → e.run rec dst slot s k = some r → ∃ v u, EffTo P slot s.h e v u ∧ k ({ s with h := u.on s.h }.put dst v) = some r
  | .fail, _, h => by simp [Eff.run] at h
  | .val v, _, h => ⟨v, .no, ⟨rfl, rfl⟩, by simpa only [Eff.run, forceV_eq, forceVL_eq, Upd.on] using h⟩
  | .store b off vs, _, h => ⟨_, .store b off vs, ⟨rfl, rfl⟩, by simpa only [Eff.run, forceV_eq, forceVL_eq, Upd.on] using h⟩
  | .put b T xs, _, h => ⟨_, .put b T xs, ⟨rfl, rfl⟩, by simpa only [Eff.run, forceV_eq, forceVL_eq, Upd.on] using h⟩
  | .new bs mk, _, h => by
    simp only [Eff.run, forceV_eq, forceBL_eq] at h
    split at h
    · rename_i hf; exact ⟨_, .news slot bs, ⟨hf, rfl, rfl⟩, by simpa only [Upd.on] using h⟩
    · cases h
  | .mod f mk, _, h => by
    simp only [Eff.run, forceV_eq, forceBL_eq] at h
    split at h
    · rename_i h' hf; exact ⟨_, .heap h', ⟨h', hf, rfl, rfl⟩, by simpa only [Upd.on] using h⟩
    · cases h
  | .ite c x y, ho, h => by
    rcases br_some h with ⟨hc, h⟩ | ⟨hc, h⟩
    · obtain ⟨v, u, h1, h2⟩ := Eff.run_to hrec ho.1 h
      exact ⟨v, u, .inl ⟨hc, h1⟩, h2⟩
    · obtain ⟨v, u, h1, h2⟩ := Eff.run_to hrec ho.2 h
      exact ⟨v, u, .inr ⟨hc, h1⟩, h2⟩
  | .call g sp args, ho, h => by
    simp only [Eff.run, forceV_eq, forceBL_eq] at h
    obtain ⟨v, nb, hk, hc⟩ := ho args _ _ h
    split at hk
    · rename_i hl
      simp only [Bool.and_eq_true, beq_iff_eq] at hl
      exact ⟨_, .news slot nb, ⟨v, nb, hc, hl.1, hl.2, rfl, rfl⟩, by simpa only [Upd.on] using hk⟩
    · cases hk
  | .enter g args, _, h => by
    simp only [Eff.run, forceV_eq, forceBL_eq] at h
    obtain ⟨v, h', hk, hc⟩ := hrec _ _ _ _ _ h
    exact ⟨v, .heap h', ⟨h', hc, rfl⟩, by simpa only [Upd.on] using hk⟩
end Go.Eng
