/- The engine, part F: the heap under stores and new blocks. -/
import Derived.Test.YtdfelkcioeinfaaDoorEnwE
set_option linter.unusedVariables false
set_option linter.unusedSimpArgs false
namespace Go.Eng
open Go Go.RowKit

theorem isFree_iff {h : List Blk} {i : Nat} : isFree h i = true ↔ h[i]? = some .free := by
  unfold isFree
  split <;> simp_all
theorem isFree'_iff {h : List Blk} {i : Nat} : isFree' h i = true ↔ h[i]? = some .free := by
  unfold isFree'
  split <;> simp_all

/-- Between two worlds only the cells of S have turned, and new blocks have come. -/
structure Turn (w w' : World) (S : Nat → Nat → Prop) : Prop where
  os : w'.os = w.os
  tape : w'.tape = w.tape
  output : w'.output = w.output
  size : w.heap.size ≤ w'.heap.size
  cell : ∀ g off, g < w.heap.size → ¬ S g off → w'.cell? ⟨g, off, none⟩ = w.cell? ⟨g, off, none⟩
  wc : ∀ g off, g < w.heap.size → ¬ S g off → wcell w' g off = wcell w g off
  ex : ∀ g off u, wcell w g off = some u → ∃ u', wcell w' g off = some u'
  obj : ∀ g, (∀ off, ¬ S g off) → g < w.heap.size → w'.heap[g]? = w.heap[g]?
  map : ∀ g es ck, w.heap[g]? = some (.map es ck) → ¬ S g 0 → w'.heap[g]? = w.heap[g]?
theorem Turn.refl (w : World) (S : Nat → Nat → Prop) : Turn w w S := ⟨rfl, rfl, rfl, Nat.le_refl _, fun _ _ _ _ => rfl, fun _ _ _ _ => rfl, fun _ _ u h => ⟨u, h⟩, fun _ _ _ => rfl, fun _ _ _ _ _ => rfl⟩
theorem Turn.trans {a b c : World} {S : Nat → Nat → Prop} (h : Turn a b S) (k : Turn b c S) : Turn a c S :=
  ⟨k.os.trans h.os, k.tape.trans h.tape, k.output.trans h.output, Nat.le_trans h.size k.size,
    fun g off hg hs => (k.cell g off (Nat.lt_of_lt_of_le hg h.size) hs).trans (h.cell g off hg hs),
    fun g off hg hs => (k.wc g off (Nat.lt_of_lt_of_le hg h.size) hs).trans (h.wc g off hg hs),
    fun g off u hu => by obtain ⟨u', h'⟩ := h.ex g off u hu; exact k.ex g off u' h',
    fun g hs hg => (k.obj g hs (Nat.lt_of_lt_of_le hg h.size)).trans (h.obj g hs hg),
    fun g es ck hm hs => by have e := h.map g es ck hm hs; exact (k.map g es ck (e.trans hm) hs).trans e⟩
theorem Turn.sub {a b : World} {S S' : Nat → Nat → Prop} (h : Turn a b S) (hs : ∀ g off, S g off → S' g off) : Turn a b S' :=
  ⟨h.os, h.tape, h.output, h.size, fun g off hg hn => h.cell g off hg fun e => hn (hs _ _ e), fun g off hg hn => h.wc g off hg fun e => hn (hs _ _ e), h.ex, fun g hn hg => h.obj g (fun off e => hn off (hs _ _ e)) hg, fun g es ck hm hn => h.map g es ck hm fun e => hn (hs _ _ e)⟩
/-- New blocks alone. -/
theorem Turn.of_heap {w w' : World} (h1 : w'.os = w.os) (h2 : w'.tape = w.tape) (h3 : w'.output = w.output) (h4 : w.heap.size ≤ w'.heap.size) (h5 : ∀ g, g < w.heap.size → w'.heap[g]? = w.heap[g]?) (S : Nat → Nat → Prop) : Turn w w' S :=
  ⟨h1, h2, h3, h4, fun g off hg _ => by simp only [World.cell?]; rw [h5 g hg], fun g off hg _ => by simp only [wcell]; rw [h5 g hg], fun g off u hu => ⟨u, by
    have := wcell_lt hu
    rw [← hu]; simp only [wcell]; rw [h5 g this]⟩, fun g _ hg => h5 g hg, fun g es ck hm _ => h5 g (Array.getElem?_eq_some_iff.1 hm).1⟩
theorem Turn.push (w : World) (o : Obj) (S : Nat → Nat → Prop) : Turn w { w with heap := w.heap.push o } S :=
  Turn.of_heap (w := w) (w' := { w with heap := w.heap.push o }) rfl rfl rfl (by simp) (fun g hg => by simp [Array.getElem?_push, Nat.ne_of_lt hg]) S
theorem Turn.drew {w : World} {n : Nat} (S : Nat → Nat → Prop) : Turn w { w with drawn := n } S :=
  Turn.of_heap (w := w) (w' := { w with drawn := n }) rfl rfl rfl (Nat.le_refl _) (fun _ _ => rfl) S
theorem Turn.below {w w' : World} {n : Nat} (h : Below n w w') (hn : n = w.heap.size) (S : Nat → Nat → Prop) : Turn w w' S := by
  subst hn
  exact Turn.of_heap h.os h.tape h.output h.size h.block S

theorem wcell_some {w : World} {g : Nat} {c : Array Value} {e : TypeId} (h : w.heap[g]? = some (.cells c e (0, 0))) (off : Nat) : wcell w g off = c[off]? := by
  unfold wcell; rw [h]; rfl
theorem wcell_block {w : World} {g off : Nat} {u : Value} (h : wcell w g off = some u) : ∃ c e, w.heap[g]? = some (.cells c e (0, 0)) ∧ c[off]? = some u := by
  unfold wcell at h
  split at h
  · rename_i c e hb; exact ⟨c, e, hb, h⟩
  · cases h
theorem Turn.set {w : World} {g o : Nat} {u0 : Value} (h : wcell w g o = some u0) (u : Value) : Turn w (w.setCell ⟨g, o, none⟩ u) (fun g' o' => g' = g ∧ o' = o) ∧
    wcell (w.setCell ⟨g, o, none⟩ u) g o = some u ∧ (w.setCell ⟨g, o, none⟩ u).heap.size = w.heap.size := by
  obtain ⟨c, e, hb, hc⟩ := wcell_block h
  have hset := heap_setCell_same w g o c e u hb
  have hoth : ∀ k, k ≠ g → (w.setCell ⟨g, o, none⟩ u).heap[k]? = w.heap[k]? := fun k hk => heap_setCell_other w _ k u (by simpa using hk)
  have hlt : o < c.size := (Array.getElem?_eq_some_iff.1 hc).1
  have hw : ∀ off, wcell (w.setCell ⟨g, o, none⟩ u) g off = if off = o then some u else c[off]? := by
    intro off
    rw [wcell_some hset]
    rw [Array.getElem?_setIfInBounds]
    by_cases e : o = off
    · subst e; simp [hlt]
    · rw [if_neg e, if_neg (fun e' => e e'.symm)]
  refine ⟨⟨rfl, rfl, rfl, by simp [World.setCell], fun g' off hg hs => ?_, fun g' off hg hs => ?_, fun g' off u' hu' => ?_, fun g' hs hg => ?_, fun g' es ck hm hs => ?_⟩, by rw [hw]; simp, by simp [World.setCell]⟩
  · by_cases e : g' = g
    · subst e
      have hne : off ≠ o := fun e => hs ⟨rfl, e⟩
      simp only [World.cell?, hset, hb]
      rw [Array.getElem?_setIfInBounds, if_neg (show ¬ o = off from fun e => hne e.symm)]
    · simp only [World.cell?]; rw [hoth g' e]
  · by_cases e : g' = g
    · subst e
      have hne : off ≠ o := fun e => hs ⟨rfl, e⟩
      rw [hw, if_neg hne, wcell_some hb]
    · simp only [wcell]; rw [hoth g' e]
  · by_cases e : g' = g
    · subst e
      rw [hw]
      split
      · exact ⟨_, rfl⟩
      · rw [wcell_some hb] at hu'; exact ⟨_, hu'⟩
    · exact ⟨u', by rw [← hu']; simp only [wcell]; rw [hoth g' e]⟩
  · by_cases e : g' = g
    · subst e; exact absurd ⟨rfl, rfl⟩ (hs o)
    · exact hoth g' e
  · by_cases e : g' = g
    · subst e; rw [hb] at hm; cases hm
    · exact hoth g' e
theorem run_storeCells {P : Program} {g : Nat} : ∀ (us : List Value) (off i : Nat) (w : World), (∀ j, j < us.length → ∃ u, wcell w g (off + i + j) = some u) → (∀ c ∈ us, c.oneCell' = true) →
    ∃ w', (storeCells ⟨g, off, none⟩ us i).run P w = .ok () w' ∧ Turn w w' (fun g' o' => g' = g ∧ off + i ≤ o' ∧ o' < off + i + us.length) ∧ (∀ j u, us[j]? = some u → wcell w' g (off + i + j) = some u) ∧ w'.heap.size = w.heap.size
  | [], off, i, w, _, _ => ⟨w, rfl, Turn.refl _ _, fun j u hu => by simp at hu, rfl⟩
  | u :: us, off, i, w, hc, hs => by
    simp only [List.length_cons] at hc
    obtain ⟨u0, h0⟩ := hc 0 (by omega)
    rw [Nat.add_zero] at h0
    obtain ⟨ht, hw, hz⟩ := Turn.set h0 u
    obtain ⟨w', h1, h2, h3, h4⟩ := run_storeCells (P := P) us off (i + 1) (w.setCell ⟨g, off + i, none⟩ u) (fun j hj => by
      obtain ⟨u', hu'⟩ := hc (j + 1) (by omega)
      rw [show off + (i + 1) + j = off + i + (j + 1) by omega]
      exact ht.ex _ _ _ hu') (fun c hm => hs c (by simp [hm]))
    refine ⟨w', ?_, ?_, ?_, h4.trans hz⟩
    · simp only [storeCells, Sem.run_bind]
      have hadd : (⟨g, off, none⟩ : Addr).add i = ⟨g, off + i, none⟩ := by unfold Addr.add; split <;> simp_all
      rw [run_store P w _ u _ (hs u (by simp)), hadd, wcell_cell h0]
      simp only [wcell_frozen h0, Bool.false_eq_true, if_false, Result.andThen_ok]
      exact h1
    · refine (ht.sub ?_).trans (h2.sub ?_)
      · rintro g' o' ⟨rfl, rfl⟩; exact ⟨rfl, by omega, by simp⟩
      · rintro g' o' ⟨rfl, h5, h6⟩; exact ⟨rfl, by omega, by simp; omega⟩
    · intro j u' hj
      cases j with
      | zero =>
        simp at hj; subst hj
        rw [Nat.add_zero]
        rw [h2.wc _ _ (by rw [hz]; exact wcell_lt h0) (fun e => by omega)]
        exact hw
      | succ j =>
        have := h3 j u' (by simpa using hj)
        rw [show off + i + (j + 1) = off + (i + 1) + j by omega]
        exact this

section
variable {Φ Φ' : Fr} {w w1 w' : World} {π π' : Pi} {P : Program} {h h' : List Blk} {S : Nat → Nat → Prop}

theorem FzOk.turn {F : Fz} (hf : FzOk F w) (ht : Turn w w' S) (hS : ∀ g off, S g off → F g off = none) : FzOk F w' := by
  intro g off u hu
  have h1 := hf g off u hu
  have hlt : g < w.heap.size := by
    simp only [World.cell?] at h1
    split at h1
    · rename_i hb; exact (Array.getElem?_eq_some_iff.1 hb).1
    · cases h1
  rw [ht.cell g off hlt (fun e => by rw [hS _ _ e] at hu; cases hu)]
  exact h1

theorem el_lt {i n s j : Nat} (hi : i < n) (hj : j < s) : i * s + j < n * s := by
  have : (i + 1) * s ≤ n * s := Nat.mul_le_mul_right _ hi
  rw [Nat.add_mul] at this
  omega
theorem Els.turn {F F' : Fz} (hf : F.le F') {g o : Nat} {t : Ty} {xs : List t.D} (he : Els F w g o t xs) (ht : Turn w w' S) (hs : ∀ off, o ≤ off → off < o + xs.length * t.size → ¬ S g off) : Els F' w' g o t xs := by
  intro i hi
  obtain ⟨ds, h1, h2⟩ := he i hi
  refine ⟨ds, TR.mono hf h1, fun j u hu => ?_⟩
  have h3 := h2 j u hu
  have hj : j < t.size := by rw [← TR.length h1]; exact (List.getElem?_eq_some_iff.1 hu).1
  have := el_lt hi hj
  rw [ht.wc _ _ (wcell_lt h3) (hs _ (by omega) (by omega))]
  exact h3
theorem BR.turn {A : At} {blk : Blk} (hb : BR Φ π w A blk) (hf : Φ.le Φ') (hp : π.le π') (ht : Turn w w' S) (hs : blk.owns = true → ∀ g off, A.has g off → ¬ S g off) : BR Φ' π' w' A blk := by
  cases blk with
  | free => exact hb
  | dead => trivial
  | cells c =>
    simp only [BR] at hb ⊢
    obtain ⟨h1, h2, cs, h3, h4⟩ := hb
    refine ⟨h1, h2, cs, VRL.mono hf hp h3, fun j u hu => ?_⟩
    have h5 := h4 j u hu
    have hj : j < cs.length := (List.getElem?_eq_some_iff.1 hu).1
    have hl := VRL.length h3
    rw [ht.wc _ _ (wcell_lt h5) (hs rfl _ _ (.inl ⟨rfl, by simp [At.main], by simp only [At.main]; omega⟩))]
    exact h5
  | row t xs =>
    simp only [BR] at hb ⊢
    obtain ⟨h1, h2, h3, h4, h5, h6, h7⟩ := hb
    refine ⟨h1, h2, h3, h4, h5, fun j hj => ?_, h7.turn (hf false) ht fun off h8 h9 => hs rfl _ _ (.inl ⟨rfl, h8, by simp only [At.main]; omega⟩)⟩
    obtain ⟨u, hu⟩ := h6 j hj
    exact ht.ex _ _ _ hu
  | rows t xs =>
    simp only [BR] at hb ⊢
    obtain ⟨h1, h2, h3, h4, h5, h6, h7, h8, h9⟩ := hb
    refine ⟨h1, h2, h3, h4, h5, h6, h7, fun j hj => ?_, fun i hi => ?_⟩
    · obtain ⟨u, hu⟩ := h8 j hj
      exact ht.ex _ _ _ hu
    · obtain ⟨r, c, h10, h11, a, cap, h12, h13, h14, h15⟩ := h9 i hi
      refine ⟨r, c, h10, ?_, a, cap, h12, h13, h14, fun h0 => ?_⟩
      · rw [ht.wc _ _ (wcell_lt h11) (hs rfl _ _ (.inl ⟨rfl, by simp [At.main], by simp only [At.main]; omega⟩))]
        exact h11
      · obtain ⟨q, rfl, h16, h17, h18⟩ := h15 h0
        exact ⟨q, rfl, h16, h17, h18.turn (hf false) ht fun off h19 h20 => hs rfl _ _ (.inr ⟨i, q, _, h10, rfl, h19, by omega⟩)⟩
  | map es =>
    simp only [BR] at hb ⊢
    obtain ⟨h1, h2, h3, ents, clock, h4, h5, h6⟩ := hb
    have hlt := (Array.getElem?_eq_some_iff.1 h4).1
    refine ⟨h1, h2, h3, ents, clock, ?_, VRL.mono hf hp h5, VRL.mono hf hp h6⟩
    rw [ht.map _ _ _ h4 (hs rfl _ _ (.inl ⟨rfl, by simp only [At.main]; omega, by simp only [At.main]; omega⟩))]
    exact h4
  | fwd b =>
    simp only [BR] at hb ⊢
    obtain ⟨A', h1, h2⟩ := hb
    exact ⟨A', hp _ _ h1, h2⟩

/-- The heap behind a change: some places (K) are told anew, the others stay. -/
theorem HR.master (hr : HR Φ w1 π h w) (ht : Turn w w' S) (hS : ∀ g off, S g off → w1.heap.size ≤ g) (hfz : ∀ x, FzOk (Φ' x) w') (hle : Φ.le Φ') (hπ : π.le π')
    (K : Nat → Prop) (h1 : ∀ i, ¬ K i → h'[i]? = h[i]? ∧ π' i = π i)
    (h2 : ∀ i, K i → (h'[i]? = none ∨ h'[i]? = some .free) → π' i = none)
    (h3 : ∀ i blk, K i → h'[i]? = some blk → blk ≠ .free → ∃ A, π' i = some A ∧ BR Φ' π' w' A blk)
    (h4 : ∀ i blk A, K i → h'[i]? = some blk → blk.owns = true → π' i = some A → ∀ g off, A.has g off → w1.heap.size ≤ g ∧ g < w'.heap.size ∧ ∀ x, Φ' x g off = none)
    (h5 : ∀ i j blk blk' A A', K i → K j → i ≠ j → h'[i]? = some blk → blk.owns = true → h'[j]? = some blk' → blk'.owns = true → π' i = some A → π' j = some A' → ∀ g off, A.has g off → ¬ A'.has g off)
    (h6 : ∀ i j blk blk' A A', K i → ¬ K j → h'[i]? = some blk → blk.owns = true → h[j]? = some blk' → blk'.owns = true → π' i = some A → π j = some A' → ∀ g off, A.has g off → ¬ A'.has g off)
    (h7 : ∀ j blk A, ¬ K j → h[j]? = some blk → blk.owns = true → π j = some A → ∀ g off, A.has g off → ¬ S g off ∧ ∀ x, Φ' x g off = none) :
    HR Φ' w1 π' h' w' := by
  refine ⟨hfz, ⟨ht.os.trans hr.below.os, ht.tape.trans hr.below.tape, ht.output.trans hr.below.output, Nat.le_trans hr.below.size ht.size, fun k hk => ?_⟩, hr.base, fun b hb => ?_, fun b blk hb hne => ?_, fun b blk A hb ho hA => ?_, fun b b' blk blk' A A' hb ho hb' ho' hne hA hA' => ?_⟩
  · rw [ht.obj k (fun off e => by have := hS _ _ e; omega) (Nat.lt_of_lt_of_le hk hr.below.size)]
    exact hr.below.block k hk
  · by_cases hK : K b
    · exact h2 b hK hb
    · obtain ⟨e1, e2⟩ := h1 b hK
      rw [e1] at hb; rw [e2]; exact hr.free b hb
  · by_cases hK : K b
    · exact h3 b blk hK hb hne
    · obtain ⟨e1, e2⟩ := h1 b hK
      rw [e1] at hb; rw [e2]
      obtain ⟨A, g1, g2⟩ := hr.live b blk hb hne
      exact ⟨A, g1, g2.turn hle hπ ht fun ho g off hh => (h7 b blk A hK hb ho g1 g off hh).1⟩
  · by_cases hK : K b
    · exact h4 b blk A hK hb ho hA
    · obtain ⟨e1, e2⟩ := h1 b hK
      rw [e1] at hb; rw [e2] at hA
      intro g off hh
      obtain ⟨g1, g2, g3⟩ := hr.own b blk A hb ho hA g off hh
      exact ⟨g1, Nat.lt_of_lt_of_le g2 ht.size, (h7 b blk A hK hb ho hA g off hh).2⟩
  · by_cases hK : K b <;> by_cases hK' : K b'
    · exact h5 b b' blk blk' A A' hK hK' hne hb ho hb' ho' hA hA'
    · obtain ⟨e1, e2⟩ := h1 b' hK'
      rw [e1] at hb'; rw [e2] at hA'
      exact h6 b b' blk blk' A A' hK hK' hb ho hb' ho' hA hA'
    · obtain ⟨e1, e2⟩ := h1 b hK
      rw [e1] at hb; rw [e2] at hA
      exact fun g off hh hh' => h6 b' b blk' blk A' A hK' hK hb' ho' hb ho hA' hA g off hh' hh
    · obtain ⟨e1, e2⟩ := h1 b hK
      rw [e1] at hb; rw [e2] at hA
      obtain ⟨e1', e2'⟩ := h1 b' hK'
      rw [e1'] at hb'; rw [e2'] at hA'
      exact hr.apart b b' blk blk' A A' hb ho hb' ho' hne hA hA'

theorem HR.fzTurn (hr : HR Φ w1 π h w) (ht : Turn w w' S) (hS : ∀ g off, S g off → ∀ x, Φ x g off = none) : ∀ x, FzOk (Φ x) w' :=
  fun x => (hr.fz x).turn ht fun g off hs => hS g off hs x

/-- One block's contents have turned. -/
theorem HR.turn {b : Nat} {A : At} {blk0 blk : Blk} (hr : HR Φ w1 π h w) (hb : h[b]? = some blk0) (ho : blk0.owns = true) (hA : π b = some A) (ht : Turn w w' A.has) (hB : BR Φ π w' A blk) (hne : blk ≠ .free) :
    HR Φ w1 π (h.set b blk) w' := by
  have hown := hr.own b blk0 A hb ho hA
  have hlt : b < h.length := (List.getElem?_eq_some_iff.1 hb).1
  refine hr.master ht (fun g off e => (hown g off e).1) (hr.fzTurn ht fun g off e => (hown g off e).2.2) (Fr.le_refl _) (Pi.le_refl _) (· = b) (fun i hi => ⟨by rw [List.getElem?_set_ne (fun e => hi e.symm)], rfl⟩)
    ?_ ?_ ?_ ?_ ?_ ?_
  · rintro i rfl hi
    rw [List.getElem?_set_self hlt] at hi
    rcases hi with hi | hi
    · cases hi
    · simp at hi; exact absurd hi hne
  · rintro i blk' rfl hi _
    rw [List.getElem?_set_self hlt] at hi
    cases hi
    exact ⟨A, hA, hB⟩
  · rintro i blk' A' rfl hi _ hA' g off hh
    rw [hA] at hA'; cases hA'
    obtain ⟨g1, g2, g3⟩ := hown g off hh
    exact ⟨g1, Nat.lt_of_lt_of_le g2 ht.size, g3⟩
  · rintro i j _ _ _ _ rfl rfl hij
    exact absurd rfl hij
  · rintro i j blk' blk'' A1 A2 rfl hj _ _ hb2 ho2 hA1 hA2
    rw [hA] at hA1; cases hA1
    exact hr.apart i j blk0 blk'' A A2 hb ho hb2 ho2 (fun e => hj e.symm) hA hA2
  · intro j blk' A' hj hb' ho' hA' g off hh
    exact ⟨hr.apart j b blk' blk0 A' A hb' ho' hb ho hj hA' hA g off hh, (hr.own j blk' A' hb' ho' hA' g off hh).2.2⟩

theorem setN_length : ∀ (nb : List Blk) (h : List Blk) (i : Nat), (setN h i nb).length = h.length
  | [], h, i => rfl
  | b :: nb, h, i => by simp only [setN]; rw [setN_length]; simp
theorem setN_get : ∀ (nb : List Blk) (h : List Blk) (i b : Nat), i + nb.length ≤ h.length → (setN h i nb)[b]? = if i ≤ b ∧ b < i + nb.length then nb[b - i]? else h[b]?
  | [], h, i, b, hl => by simp [setN]; intro h1 h2; omega
  | x :: nb, h, i, b, hl => by
    simp only [List.length_cons] at hl
    simp only [setN]
    rw [setN_get nb _ _ _ (by simp; omega)]
    by_cases h1 : i + 1 ≤ b ∧ b < i + 1 + nb.length
    · rw [if_pos h1, if_pos (by simp; omega)]
      have : b - i = (b - (i + 1)) + 1 := by omega
      rw [this]; simp
    · rw [if_neg h1]
      by_cases h2 : b = i
      · subst h2
        rw [if_pos (by simp)]
        rw [List.getElem?_set_self (by omega)]; simp
      · rw [if_neg (by simp; omega), List.getElem?_set_ne (by omega)]
theorem allFree_get : ∀ (n i : Nat), allFree h i n = true → ∀ j, j < n → h[i + j]? = some .free
  | 0, i, _, j, hj => by omega
  | n + 1, i, hf, j, hj => by
    simp only [allFree, Bool.and_eq_true] at hf
    cases j with
    | zero => simpa using isFree_iff.1 hf.1
    | succ j => have := allFree_get n (i + 1) hf.2 j (by omega); rw [← this]; congr 1; omega

/-- New blocks, at places of their own. -/
theorem HR.newb {slot : Nat} {bs : List Blk} {As : List At} (hr : HR Φ w1 π h w) (ht : Turn w w' fun _ _ => False) (hx : Fr.ext w.heap.size Φ Φ') (hfz : ∀ x, FzOk (Φ' x) w') (hf : allFree h slot bs.length = true) (hl : As.length = bs.length)
    (hnew : ∀ (k : Nat) (A : At), As[k]? = some A → ∀ g off, A.has g off → w.heap.size ≤ g ∧ g < w'.heap.size ∧ ∀ x, Φ' x g off = none)
    (hap : ∀ (i j : Nat) (A A' : At), As[i]? = some A → As[j]? = some A' → i ≠ j → ∀ g off, A.has g off → ¬ A'.has g off)
    (hB : ∀ π' : Pi, π.le π' → (∀ (k : Nat) (A : At), As[k]? = some A → π' (slot + k) = some A) → ∀ (k : Nat) (blk : Blk) (A : At), bs[k]? = some blk → As[k]? = some A → blk ≠ .free ∧ BR Φ' π' w' A blk) :
    ∃ π', π.le π' ∧ HR Φ' w1 π' (setN h slot bs) w' ∧ ∀ (k : Nat) (A : At), As[k]? = some A → π' (slot + k) = some A := by
  have hall := allFree_get _ _ hf
  have hlen : slot + bs.length ≤ h.length ∨ bs.length = 0 := by
    rcases Nat.eq_zero_or_pos bs.length with h0 | h0
    · exact .inr h0
    · have := hall (bs.length - 1) (by omega)
      have := (List.getElem?_eq_some_iff.1 this).1
      omega
  have hset : ∀ b, (setN h slot bs)[b]? = if slot ≤ b ∧ b < slot + bs.length then bs[b - slot]? else h[b]? := by
    intro b
    rcases hlen with hlen | h0
    · exact setN_get _ _ _ _ hlen
    · have : bs = [] := List.length_eq_zero_iff.1 h0
      subst this
      simp [setN]; omega
  let π' : Pi := fun b => if slot ≤ b ∧ b < slot + bs.length then As[b - slot]? else π b
  have hp : ∀ k A, As[k]? = some A → π' (slot + k) = some A := by
    intro k A hA
    have hk : k < As.length := (List.getElem?_eq_some_iff.1 hA).1
    show (if slot ≤ slot + k ∧ slot + k < slot + bs.length then As[slot + k - slot]? else π (slot + k)) = some A
    rw [if_pos ⟨by omega, by omega⟩, Nat.add_sub_cancel_left]
    exact hA
  have hle : π.le π' := by
    intro b A hA
    show (if slot ≤ b ∧ b < slot + bs.length then As[b - slot]? else π b) = some A
    rw [if_neg]
    · exact hA
    · rintro ⟨h1, h2⟩
      have := hall (b - slot) (by omega)
      rw [show slot + (b - slot) = b by omega] at this
      rw [hr.free b (.inr this)] at hA; cases hA
  have hBs := hB π' hle hp
  have hin : ∀ i, (slot ≤ i ∧ i < slot + bs.length) → (setN h slot bs)[i]? = bs[i - slot]? ∧ π' i = As[i - slot]? := fun i hi => ⟨by rw [hset, if_pos hi], if_pos hi⟩
  refine ⟨π', hle, hr.master ht (fun _ _ e => e.elim) hfz hx.le hle (fun i => slot ≤ i ∧ i < slot + bs.length) (fun i hi => ⟨by rw [hset, if_neg hi], if_neg hi⟩) ?_ ?_ ?_ ?_ ?_ ?_, hp⟩
  · intro i hi hb
    obtain ⟨e1, e2⟩ := hin i hi
    have hk : i - slot < bs.length := by omega
    rw [e1, List.getElem?_eq_getElem hk] at hb
    rcases hb with hb | hb
    · cases hb
    · simp only [Option.some.injEq] at hb
      exact absurd hb (hBs (i - slot) _ _ (List.getElem?_eq_getElem hk) (List.getElem?_eq_getElem (by omega))).1
  · intro i blk hi hb _
    obtain ⟨e1, e2⟩ := hin i hi
    have hk : i - slot < As.length := by omega
    rw [e1] at hb
    exact ⟨As[i - slot], by rw [e2, List.getElem?_eq_getElem hk], (hBs (i - slot) _ _ hb (List.getElem?_eq_getElem hk)).2⟩
  · intro i blk A hi hb _ hA g off hh
    rw [(hin i hi).2] at hA
    obtain ⟨g1, g2, g3⟩ := hnew _ A hA g off hh
    exact ⟨Nat.le_trans hr.below.size g1, g2, g3⟩
  · intro i j blk blk' A A' hi hj hij _ _ _ _ hA hA'
    rw [(hin i hi).2] at hA
    rw [(hin j hj).2] at hA'
    exact hap _ _ A A' hA hA' (by omega)
  · intro i j blk blk' A A' hi hj _ _ hb' ho' hA hA' g off hh hh'
    rw [(hin i hi).2] at hA
    have := (hnew _ A hA g off hh).1
    have := (hr.own j blk' A' hb' ho' hA' g off hh').2.1
    omega
  · intro j blk A hj hb ho hA g off hh
    obtain ⟨g1, g2, g3⟩ := hr.own j blk A hb ho hA g off hh
    refine ⟨fun e => e, fun x => ?_⟩
    cases hq : Φ' x g off with
    | none => rfl
    | some u =>
      rcases hx.new x g off u hq with e | e
      · rw [g3 x] at e; cases e
      · omega

theorem HR.drew {n : Nat} (hr : HR Φ w1 π h w) : HR Φ w1 π h { w with drawn := n } :=
  hr.master (Turn.drew fun _ _ => False) (fun _ _ e => e.elim) (hr.fzTurn (Turn.drew fun _ _ => False) fun _ _ e => e.elim) (Fr.le_refl _) (Pi.le_refl _) (fun _ => False) (fun _ _ => ⟨rfl, rfl⟩)
    (fun _ e => e.elim) (fun _ _ e => e.elim) (fun _ _ _ e => e.elim) (fun _ _ _ _ _ _ e => e.elim) (fun _ _ _ _ _ _ e => e.elim) (fun j blk A _ hb ho hA g off hh => ⟨fun e => e, (hr.own j blk A hb ho hA g off hh).2.2⟩)
end
end Go.Eng
