/- The engine, part G: cells read by their type; new variables. -/
import Derived.Test.YtdfelkcioeinfaaDoorEnwF
set_option linter.unusedVariables false
set_option linter.unusedSimpArgs false
namespace Go.Eng
open Go Go.RowKit

section
variable {Φ : Fr} {w w1 : World} {π : Pi} {P : Program} {h : List Blk} {slot : Nat} {v : V} {u : Upd}

theorem decO_prod {wb : Bool} {a b : Ty} {l : List V} {x : (Ty.prod a b).D} {l' : List V} (hd : decO wb (.prod a b) l = some (x, l')) :
    ∃ y l1 z, decO wb a l = some (y, l1) ∧ decO wb b l1 = some (z, l') ∧ x = (y, z) := by
  have key : ∀ q, (match decO wb a l with
      | some (x, l') => match decO wb b l' with
        | some (y, l'') => some ((x, y), l'')
        | none => none
      | none => none) = some q → ∃ y l1 z, decO wb a l = some (y, l1) ∧ decO wb b l1 = some (z, q.2) ∧ q.1 = (y, z) := by
    intro q hq
    split at hq
    · rename_i y l1 h1
      split at hq
      · rename_i z l2 h2
        cases hq
        exact ⟨y, l1, z, h1, h2, rfl⟩
      · cases hq
    · cases hq
  refine key (x, l') ?_
  rw [← hd]
  cases l <;> simp only [decO] <;> rfl
theorem decO_sound {wb : Bool} (hw : wb = true → (Φ false).le (Φ true)) : ∀ (t : Ty) {l : List V} {x : t.D} {l' : List V} {cs : List Value}, decO wb t l = some (x, l') → VRL Φ π l cs →
    ∃ c1 c2, cs = c1 ++ c2 ∧ TR (Φ wb) t x c1 ∧ VRL Φ π l' c2
  | .int k, [], x, l', cs, hd, hv => by simp [decO] at hd
  | .bool, [], x, l', cs, hd, hv => by simp [decO] at hd
  | .str, [], x, l', cs, hd, hv => by simp [decO] at hd
  | .slice t, [], x, l', cs, hd, hv => by simp [decO] at hd
  | .int k, v :: l, x, l', cs, hd, hv => by
    simp only [decO] at hd
    split at hd
    · split at hd
      · rename_i hk; subst hk
        simp only [Option.some.injEq, Prod.mk.injEq] at hd
        obtain ⟨rfl, rfl⟩ := hd
        obtain ⟨c, m, rfl, hc, hm⟩ := VRL.cons hv
        simp only [VR] at hc
        exact ⟨[c], m, rfl, by simp only [TR]; exact ⟨by rw [hc.1], hc.2⟩, hm⟩
      · cases hd
    · cases hd
  | .bool, v :: l, x, l', cs, hd, hv => by
    simp only [decO] at hd
    split at hd
    · simp only [Option.some.injEq, Prod.mk.injEq] at hd
      obtain ⟨rfl, rfl⟩ := hd
      obtain ⟨c, m, rfl, hc, hm⟩ := VRL.cons hv
      simp only [VR] at hc
      exact ⟨[c], m, rfl, by simp only [TR]; rw [hc], hm⟩
    · cases hd
  | .str, v :: l, x, l', cs, hd, hv => by
    simp only [decO] at hd
    split at hd
    · simp only [Option.some.injEq, Prod.mk.injEq] at hd
      obtain ⟨rfl, rfl⟩ := hd
      obtain ⟨c, m, rfl, hc, hm⟩ := VRL.cons hv
      simp only [VR] at hc
      exact ⟨[c], m, rfl, by simp only [TR]; exact ⟨by rw [hc.1], hc.2⟩, hm⟩
    · cases hd
  | .unit, l, x, l', cs, hd, hv => by
    have hd' : some ((), l) = some (x, l') := by cases l <;> simpa only [decO] using hd
    simp only [Option.some.injEq, Prod.mk.injEq] at hd'
    obtain ⟨_, rfl⟩ := hd'
    exact ⟨[], cs, rfl, by simp [TR], hv⟩
  | .prod a b, l, x, l', cs, hd, hv => by
    obtain ⟨y, l1, z, h1, h2, rfl⟩ := decO_prod hd
    obtain ⟨c1, c2, rfl, h3, h4⟩ := decO_sound hw a h1 hv
    obtain ⟨c3, c4, rfl, h5, h6⟩ := decO_sound hw b h2 h4
    exact ⟨c1 ++ c3, c4, by simp, by simp only [TR]; exact ⟨c1, c3, rfl, h3, h5⟩, h6⟩
  | .slice t, v :: l, x, l', cs, hd, hv => by
    simp only [decO] at hd
    obtain ⟨c, m, rfl, hc, hm⟩ := VRL.cons hv
    split at hd
    · rename_i w' t' xs
      split at hd
      · rename_i ht; subst ht
        split at hd
        · cases hd
        · rename_i hww
          simp only [Option.some.injEq, Prod.mk.injEq] at hd
          obtain ⟨rfl, rfl⟩ := hd
          simp only [VR] at hc
          refine ⟨[c], m, rfl, ?_, hm⟩
          cases wb <;> cases w'
          · exact hc
          · simp at hww
          · exact TR.mono (hw rfl) hc
          · exact hc
      · cases hd
    · simp only [Option.some.injEq, Prod.mk.injEq] at hd
      obtain ⟨rfl, rfl⟩ := hd
      simp only [VR] at hc
      subst hc
      exact ⟨[_], m, rfl, by simp only [TR]; exact ⟨none, 0, rfl, by simp, by simp, fun h => by simp at h⟩, hm⟩
    · simp only [Option.some.injEq, Prod.mk.injEq] at hd
      obtain ⟨rfl, rfl⟩ := hd
      simp only [VR] at hc
      obtain ⟨a, rfl⟩ := hc
      exact ⟨[_], m, rfl, by simp only [TR]; exact ⟨a, 0, rfl, by simp, by simp, fun h => by simp at h⟩, hm⟩
    · cases hd
theorem decOne_sound {wb : Bool} (hw : wb = true → (Φ false).le (Φ true)) {t : Ty} {l : List V} {x : t.D} {cs : List Value} (hd : decOne wb t l = some x) (hv : VRL Φ π l cs) : TR (Φ wb) t x cs := by
  unfold decOne at hd
  split at hd
  · rename_i y h1
    simp only [Option.some.injEq] at hd
    subst hd
    obtain ⟨c1, c2, rfl, h2, h3⟩ := decO_sound hw t h1 hv
    have := VRL.nil h3; subst this
    simpa using h2
  · cases hd
theorem decMany_sound {wb : Bool} (hw : wb = true → (Φ false).le (Φ true)) {t : Ty} : ∀ {n : Nat} {l : List V} {xs : List t.D} {cs : List Value}, decMany wb t n l = some xs → VRL Φ π l cs →
    xs.length = n ∧ cs.length = n * t.size ∧ ∀ i (h : i < xs.length), ∃ ds, TR (Φ wb) t xs[i] ds ∧ ∀ j u, ds[j]? = some u → cs[i * t.size + j]? = some u
  | 0, [], xs, cs, hd, hv => by
    simp only [decMany, Option.some.injEq] at hd; subst hd
    have := VRL.nil hv; subst this
    exact ⟨rfl, by simp, fun i h => by simp at h⟩
  | 0, _ :: _, xs, cs, hd, hv => by simp [decMany] at hd
  | n + 1, l, xs, cs, hd, hv => by
    simp only [decMany] at hd
    split at hd
    · rename_i x r h1
      cases h2 : decMany wb t n r with
      | none => simp [h2] at hd
      | some ys =>
        simp only [h2, Option.map_some, Option.some.injEq] at hd
        subst hd
        obtain ⟨c1, c2, rfl, h3, h4⟩ := decO_sound hw t h1 hv
        obtain ⟨h5, h6, h7⟩ := decMany_sound hw h2 h4
        have hl := TR.length h3
        refine ⟨by simp [h5], by simp [h6, hl, Nat.add_mul]; omega, fun i hi => ?_⟩
        cases i with
        | zero =>
          refine ⟨c1, h3, fun j u hj => ?_⟩
          have : j < c1.length := (List.getElem?_eq_some_iff.1 hj).1
          rw [Nat.zero_mul, Nat.zero_add, List.getElem?_append_left this]; exact hj
        | succ i =>
          obtain ⟨ds, h8, h9⟩ := h7 i (by simpa using hi)
          refine ⟨ds, by simpa using h8, fun j u hj => ?_⟩
          rw [List.getElem?_append_right (by rw [hl, Nat.add_mul]; omega), hl, Nat.add_mul, Nat.one_mul, show i * t.size + t.size + j - t.size = i * t.size + j by omega]
          exact h9 j u hj
    · cases hd

/-! ### new variables -/
def atsV (g : Nat) : Lay → List V → List At
  | [], _ => []
  | (st, len, none) :: r, c => ⟨g, st, ((c.drop st).take len).length, 0, 0, 0, []⟩ :: atsV g r c
  | (st, len, some T) :: r, c => ⟨g, st, len / T.size * T.size, len / T.size, T.size, 0, []⟩ :: atsV g r c
theorem atsV_length {g : Nat} {c : List V} : ∀ {l : Lay} {bs : List Blk}, splitV l c = some bs → (atsV g l c).length = bs.length ∧ bs.length = l.length
  | [], bs, hs => by simp [splitV] at hs; subst hs; exact ⟨rfl, rfl⟩
  | (st, len, none) :: r, bs, hs => by
    simp only [splitV] at hs
    cases h1 : splitV r c with
    | none => simp [h1] at hs
    | some bs' =>
      simp only [h1, Option.map_some, Option.some.injEq] at hs; subst hs
      have := atsV_length (g := g) h1
      simp [atsV, this.1, this.2]
  | (st, len, some T) :: r, bs, hs => by
    simp only [splitV] at hs
    split at hs
    · split at hs
      · cases h1 : splitV r c with
        | none => simp [h1] at hs
        | some bs' =>
          simp only [h1, Option.map_some, Option.some.injEq] at hs; subst hs
          have := atsV_length (g := g) h1
          simp [atsV, this.1, this.2]
      · cases hs
    · cases hs
theorem atsV_in {g : Nat} {c : List V} : ∀ {l : Lay} {lo : Nat}, layOk l lo = true → ∀ {k : Nat} {A : At}, (atsV g l c)[k]? = some A → A.g = g ∧ A.sub = [] ∧ lo ≤ A.o ∧ ∃ len, ((∃ t, l[k]? = some (A.o, len, t)) ∧ A.n ≤ len)
  | [], lo, _, k, A, hA => by simp [atsV] at hA
  | (st, len, none) :: r, lo, ho, 0, A, hA => by
    simp only [layOk, Bool.and_eq_true, decide_eq_true_eq] at ho
    simp [atsV] at hA; subst hA
    exact ⟨rfl, rfl, ho.1, len, ⟨none, rfl⟩, by simp; omega⟩
  | (st, len, some T) :: r, lo, ho, 0, A, hA => by
    simp only [layOk, Bool.and_eq_true, decide_eq_true_eq] at ho
    simp [atsV] at hA; subst hA
    exact ⟨rfl, rfl, ho.1, len, ⟨some T, rfl⟩, Nat.div_mul_le_self _ _⟩
  | (st, len, none) :: r, lo, ho, k + 1, A, hA => by
    simp only [layOk, Bool.and_eq_true, decide_eq_true_eq] at ho
    simp [atsV] at hA
    obtain ⟨h1, h2, h3, h4⟩ := atsV_in ho.2 hA
    exact ⟨h1, h2, by omega, h4⟩
  | (st, len, some T) :: r, lo, ho, k + 1, A, hA => by
    simp only [layOk, Bool.and_eq_true, decide_eq_true_eq] at ho
    simp [atsV] at hA
    obtain ⟨h1, h2, h3, h4⟩ := atsV_in ho.2 hA
    exact ⟨h1, h2, by omega, h4⟩
theorem layOk_lt : ∀ {l : Lay} {lo : Nat}, layOk l lo = true → ∀ {i j : Nat} {a b : Nat} {x y : Nat} {s t : Option Ty}, l[i]? = some (a, x, s) → l[j]? = some (b, y, t) → i < j → a + x ≤ b
  | [], lo, _, i, j, a, b, x, y, s, t, hi, _, _ => by simp at hi
  | (st, len, q) :: r, lo, ho, 0, j + 1, a, b, x, y, s, t, hi, hj, _ => by
    simp only [layOk, Bool.and_eq_true, decide_eq_true_eq] at ho
    simp at hi hj
    obtain ⟨rfl, rfl, rfl⟩ := hi
    have key : ∀ {r : Lay} {lo : Nat}, layOk r lo = true → ∀ {j : Nat} {b y : Nat} {t : Option Ty}, r[j]? = some (b, y, t) → lo ≤ b := by
      intro r
      induction r with
      | nil => intro lo _ j b y t hj; simp at hj
      | cons z r ih =>
        intro lo ho j b y t hj
        obtain ⟨st', len', q'⟩ := z
        simp only [layOk, Bool.and_eq_true, decide_eq_true_eq] at ho
        cases j with
        | zero => simp at hj; obtain ⟨rfl, _, _⟩ := hj; exact ho.1
        | succ j => simp at hj; have := ih ho.2 hj; omega
    exact key ho.2 hj
  | (st, len, q) :: r, lo, ho, i + 1, j + 1, a, b, x, y, s, t, hi, hj, hij => by
    simp only [layOk, Bool.and_eq_true, decide_eq_true_eq] at ho
    simp at hi hj
    exact layOk_lt ho.2 hi hj (by omega)
  | (st, len, q) :: r, lo, ho, 0, 0, a, b, x, y, s, t, hi, hj, hij => by omega
  | (st, len, q) :: r, lo, ho, i + 1, 0, a, b, x, y, s, t, hi, hj, hij => by omega
theorem VRL.dropTake {l : List V} {m : List Value} (h : VRL Φ π l m) (st len : Nat) : VRL Φ π ((l.drop st).take len) ((m.drop st).take len) := VRL.take _ (VRL.drop _ h)
theorem splitV_BR {π' : Pi} {w' : World} {g : Nat} {c : List V} {cs : List Value} (hc : VRL Φ π' c cs) (hw : ∀ j u, cs[j]? = some u → wcell w' g j = some u) : ∀ {l : Lay} {bs : List Blk}, splitV l c = some bs →
    ∀ {k : Nat} {blk : Blk} {A : At}, bs[k]? = some blk → (atsV g l c)[k]? = some A → blk ≠ .free ∧ BR Φ π' w' A blk
  | [], bs, hs, k, blk, A, hb, hA => by simp [atsV] at hA
  | (st, len, none) :: r, bs, hs, k, blk, A, hb, hA => by
    simp only [splitV] at hs
    cases h1 : splitV r c with
    | none => simp [h1] at hs
    | some bs' =>
      simp only [h1, Option.map_some, Option.some.injEq] at hs; subst hs
      cases k with
      | succ k => simp [atsV] at hb hA; exact splitV_BR hc hw h1 hb hA
      | zero =>
        simp [atsV] at hb hA; subst hb; subst hA
        refine ⟨by simp, ?_⟩
        simp only [BR]
        refine ⟨by simp, trivial, _, VRL.dropTake hc st len, fun j u hu => ?_⟩
        rw [List.getElem?_take] at hu
        split at hu
        · rw [List.getElem?_drop] at hu; exact hw _ _ hu
        · cases hu
  | (st, len, some T) :: r, bs, hs, k, blk, A, hb, hA => by
    simp only [splitV] at hs
    split at hs
    · rename_i hT
      split at hs
      · rename_i xs hxs
        cases h1 : splitV r c with
        | none => simp [h1] at hs
        | some bs' =>
          simp only [h1, Option.map_some, Option.some.injEq] at hs; subst hs
          cases k with
          | succ k => simp [atsV] at hb hA; exact splitV_BR hc hw h1 hb hA
          | zero =>
            simp [atsV] at hb hA; subst hb; subst hA
            refine ⟨by simp, ?_⟩
            obtain ⟨h2, h3, h4⟩ := decMany_sound (by simp) hxs (VRL.dropTake hc st len)
            have hget : ∀ q u, ((cs.drop st).take len)[q]? = some u → wcell w' g (st + q) = some u := by
              intro q u hu
              rw [List.getElem?_take] at hu
              split at hu
              · rw [List.getElem?_drop] at hu; exact hw _ _ hu
              · cases hu
            simp only [BR]
            refine ⟨trivial, h2.symm, trivial, hT, by rw [h2]; exact Nat.le_refl _, fun j hj => ?_, fun i hi => ?_⟩
            · have : j < ((cs.drop st).take len).length := by rw [h3]; exact hj
              exact ⟨_, hget j _ (List.getElem?_eq_getElem this)⟩
            · obtain ⟨ds, h5, h6⟩ := h4 i hi
              exact ⟨ds, h5, fun j u hu => hget _ _ (h6 j u hu)⟩
      · cases hs
    · cases hs
theorem partsV_VR {π' : Pi} {g : Nat} {c : List V} : ∀ {l : Lay} {s : Nat}, (∀ x ∈ l, x.2.1 ≤ 1000000000) → (∀ (k : Nat) (A : At), (atsV g l c)[k]? = some A → π' (s + k) = some A) →
    VRL Φ π' (partsV l s) (l.map fun x => pv g (0 + x.1))
  | [], s, _, _ => by simp [partsV, VRL]
  | (st, len, none) :: r, s, hb, hA => by
    simp only [partsV, List.map_cons, VRL]
    refine ⟨?_, partsV_VR (c := c) (fun x hx => hb x (by simp [hx])) fun k A hk => by rw [show s + 1 + k = s + (k + 1) by omega]; exact hA (k + 1) A (by simpa [atsV] using hk)⟩
    simp only [VR]
    exact ⟨_, by simpa using hA 0 _ (by simp [atsV]; rfl), by simp⟩
  | (st, len, some T) :: r, s, hb, hA => by
    simp only [partsV, List.map_cons, VRL]
    refine ⟨?_, partsV_VR (c := c) (fun x hx => hb x (by simp [hx])) fun k A hk => by rw [show s + 1 + k = s + (k + 1) by omega]; exact hA (k + 1) A (by simpa [atsV] using hk)⟩
    simp only [VR]
    refine ⟨_, by simpa using hA 0 _ (by simp [atsV]; rfl), rfl, rfl, Nat.le_refl _, ?_, by simp⟩
    have h1 := hb (st, len, some T) (by simp)
    have h2 := Nat.div_le_self len T.size
    simp only [maxLen]
    simp only at h1
    omega

theorem newVar_sound {t : TypeId} {c : List V} {cs : Array Value} (hr : HR Φ w1 π h w) (hc : VRL Φ π c cs.toList) (he : EffTo P slot h (newVarE P t c) v u) :
    ∃ π', π.le π' ∧ HR Φ w1 π' (u.on h) { w with heap := w.heap.push (.cells cs t) } ∧ VR Φ π' v (pv w.heap.size 0) := by
  have hT : Turn w { w with heap := w.heap.push (.cells cs t) } (fun _ _ => False) := Turn.push _ _ _
  have hfz := hr.fzTurn hT fun _ _ e => e.elim
  have hw : ∀ (j : Nat) u, cs.toList[j]? = some u → wcell { w with heap := w.heap.push (.cells cs t) } w.heap.size j = some u := by
    intro j u hu
    rw [wcell_some (c := cs) (e := t) (by simp)]
    simpa using hu
  have hown : ∀ g off, g = w.heap.size → ∀ x, Φ x g off = none := by
    rintro g off rfl x
    cases hq : Φ x w.heap.size off with
    | none => rfl
    | some u => have := hr.fz x _ _ _ hq; simp [World.cell?] at this
  unfold newVarE at he
  split at he
  · obtain ⟨hf, rfl, rfl⟩ := he
    obtain ⟨π', h1, h2, h3⟩ := HR.newb (bs := [.cells c]) (As := [⟨w.heap.size, 0, c.length, 0, 0, 0, []⟩]) hr hT (Fr.ext.refl _ _) hfz hf rfl (by
        intro k A hA g off hh
        cases k with
        | succ k => simp at hA
        | zero =>
          simp at hA; subst hA
          rcases hh with ⟨rfl, _⟩ | ⟨i, r, m, hi, _⟩
          · exact ⟨Nat.le_refl _, by simp [At.main], hown _ _ rfl⟩
          · simp at hi)
      (by intro i j A A' hi hj hij; cases i <;> cases j <;> simp at hi hj hij)
      (by
        intro π' hle _ k blk A hb hA
        cases k with
        | succ k => simp at hA
        | zero =>
          simp at hb hA; subst hb; subst hA
          refine ⟨by simp, ?_⟩
          simp only [BR, true_and]
          exact ⟨cs.toList, VRL.mono (Fr.le_refl _) hle hc, fun j u hu => by rw [Nat.zero_add]; exact hw j u hu⟩)
    exact ⟨π', h1, h2, by simp only [VR]; exact ⟨_, by simpa using h3 0 _ rfl, rfl⟩⟩
  · rename_i l hl
    split at he
    · exact he.elim
    · rename_i hok
      simp only [Bool.not_eq_true, Bool.not_eq_false', Bool.and_eq_true, List.all_eq_true, decide_eq_true_eq] at hok
      obtain ⟨hok, hsm⟩ := hok
      split at he
      · rename_i bs hbs
        obtain ⟨hf, rfl, rfl⟩ := he
        obtain ⟨hl1, hl2⟩ := atsV_length (g := w.heap.size) hbs
        obtain ⟨π', h1, h2, h3⟩ := HR.newb (bs := bs) (As := atsV w.heap.size l c) hr hT (Fr.ext.refl _ _) hfz hf hl1 (by
            intro k A hA g off hh
            obtain ⟨e1, e2, _⟩ := atsV_in hok hA
            rcases hh with ⟨e3, _⟩ | ⟨i, r, m, hi, _⟩
            · have : g = w.heap.size := e3.trans e1
              subst this
              exact ⟨Nat.le_refl _, by simp, hown _ _ rfl⟩
            · rw [e2] at hi; simp at hi)
          (by
            intro i j A A' hi hj hij g off hh hh'
            obtain ⟨e1, e2, _, len, ⟨q, e3⟩, e4⟩ := atsV_in hok hi
            obtain ⟨e1', e2', _, len', ⟨q', e3'⟩, e4'⟩ := atsV_in hok hj
            rcases hh with ⟨_, e5, e6⟩ | ⟨i', r, m, hi', _⟩
            · rcases hh' with ⟨_, e5', e6'⟩ | ⟨i', r, m, hi', _⟩
              · simp only [At.main] at e5 e6 e5' e6'
                rcases Nat.lt_or_gt_of_ne hij with hlt | hgt
                · have := layOk_lt hok e3 e3' hlt; omega
                · have := layOk_lt hok e3' e3 hgt; omega
              · rw [e2'] at hi'; simp at hi'
            · rw [e2] at hi'; simp at hi')
          (by
            intro π' hle _ k blk A hb hA
            exact splitV_BR (VRL.mono (Fr.le_refl _) hle hc) hw hbs hb hA)
        refine ⟨π', h1, h2, ?_⟩
        have hparts := partsV_VR (Φ := Φ) (π' := π') (c := c) (s := slot) (fun x hx => hsm x hx) h3
        dsimp only
        split
        · rename_i len T
          simp only [partsV, List.map_cons, VRL] at hparts
          exact hparts.1
        · simp only [VR]
          exact ⟨w.heap.size, 0, rfl, by simpa [List.map_map, Function.comp_def] using hparts⟩
      · exact he.elim
end
end Go.Eng
