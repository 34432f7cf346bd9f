/- The engine, part F: the heap under stores and new blocks. -/
import Derived.Test.YtflkcceicgaipaaEngE
set_option linter.unusedVariables false
set_option linter.unusedSimpArgs false
namespace Go.Eng
open Go Go.RowKit

section
variable {w0 w w1 : World} {π : Pi} {P : Program} {h : List Blk}

theorem BR.mono {π' : Pi} {w' : World} {g : Nat} {blk : Blk} (hle : π.le π') (hh : w'.heap[g]? = w.heap[g]?) (hb : BR w0 π w g blk) : BR w0 π' w' g blk := by
  cases blk with
  | cells t c =>
    simp only [BR] at hb ⊢
    obtain ⟨cs, h1, h2⟩ := hb
    exact ⟨cs, by rw [hh]; exact h1, VRL.mono hle h2⟩
  | free => exact hb
  | dead => trivial
  | row => exact hb
  | map => exact hb
theorem isFree_iff {i : Nat} : isFree h i = true ↔ h[i]? = some .free := by
  unfold isFree
  split <;> simp_all

theorem HR.drew {n : Nat} (hr : HR w0 w1 π h w) : HR w0 w1 π h { w with drawn := n } :=
  ⟨hr.base, ⟨hr.below.os, hr.below.tape, hr.below.output, hr.below.size, hr.below.block⟩, hr.free, fun b blk hb hf => by
    obtain ⟨g, h1, h2, h3, h4⟩ := hr.live b blk hb hf
    exact ⟨g, h1, h2, h3, BR.mono (w := w) (fun _ _ h => h) rfl h4⟩, hr.inj⟩

/-- The numbering with one more. -/
def Pi.up (π : Pi) (b g : Nat) : Pi := fun b' => if b' = b then some g else π b'
theorem Pi.le_up {b g : Nat} (hb : π b = none) : π.le (π.up b g) := by
  intro b' g' h'
  unfold Pi.up
  split
  · rename_i e; subst e; rw [hb] at h'; cases h'
  · exact h'

theorem HR.lt (hr : HR w0 w1 π h w) {b g : Nat} (hg : π b = some g) : g < w.heap.size := by
  cases hb : h[b]? with
  | none => rw [hr.free b (.inl hb)] at hg; cases hg
  | some blk =>
    by_cases hf : blk = .free
    · subst hf; rw [hr.free b (.inr hb)] at hg; cases hg
    · obtain ⟨g', h1, _, h3, _⟩ := hr.live b blk hb hf
      rw [hg] at h1; cases h1; exact h3
theorem HR.ge (hr : HR w0 w1 π h w) {b g : Nat} (hg : π b = some g) : w1.heap.size ≤ g := by
  cases hb : h[b]? with
  | none => rw [hr.free b (.inl hb)] at hg; cases hg
  | some blk =>
    by_cases hf : blk = .free
    · subst hf; rw [hr.free b (.inr hb)] at hg; cases hg
    · obtain ⟨g', h1, h2, _, _⟩ := hr.live b blk hb hf
      rw [hg] at h1; cases h1; exact h2

theorem HR.new {slot : Nat} {o : Obj} {blk : Blk} (hr : HR w0 w1 π h w) (hf : isFree h slot = true) (hne : blk ≠ .free)
    (hb : ∀ π' w', π.le π' → w'.heap[w.heap.size]? = some o → BR w0 π' w' w.heap.size blk) :
    HR w0 w1 (π.up slot w.heap.size) (h.set slot blk) { w with heap := w.heap.push o } := by
  have hfree := isFree_iff.1 hf
  have hnone := hr.free slot (.inr hfree)
  have hle := Pi.le_up (g := w.heap.size) hnone
  have hlt : slot < h.length := by
    rcases Nat.lt_or_ge slot h.length with h' | h'
    · exact h'
    · simp [List.getElem?_eq_none h'] at hfree
  refine ⟨hr.base, hr.below.alloc hr.below.size o, fun b hb' => ?_, fun b blk' hb' hf' => ?_, fun b b' g hg hg' => ?_⟩
  · unfold Pi.up
    rw [List.getElem?_set] at hb'
    split at hb'
    · rename_i e; subst e
      simp [hlt] at hb'
      exact absurd hb' hne
    · rename_i e
      rw [if_neg (fun e' => e e'.symm)]
      exact hr.free b hb'
  · rw [List.getElem?_set] at hb'
    split at hb'
    · rename_i e; subst e
      simp [hlt] at hb'
      subst hb'
      refine ⟨w.heap.size, by simp [Pi.up], hr.below.size, by simp, hb _ _ hle (by simp)⟩
    · rename_i e
      obtain ⟨g, h1, h2, h3, h4⟩ := hr.live b blk' hb' hf'
      refine ⟨g, hle _ _ h1, h2, by simp; omega, BR.mono hle ?_ h4⟩
      simp [Array.getElem?_push, Nat.ne_of_lt h3]
  · unfold Pi.up at hg hg'
    split at hg <;> split at hg'
    · omega
    · cases hg; have := hr.lt hg'; omega
    · cases hg'; have := hr.lt hg; omega
    · exact hr.inj _ _ _ hg hg'

/-- Only block g has turned, and it is a row of cells still. -/
theorem HR.turn {b g : Nat} {w' : World} {blk : Blk} (hr : HR w0 w1 π h w) (hg : π b = some g) (hlive : ∃ o, h[b]? = some o ∧ o ≠ .free) (hne : blk ≠ .free)
    (hos : w'.os = w.os) (htape : w'.tape = w.tape) (hout : w'.output = w.output) (hsz : w'.heap.size = w.heap.size) (hoth : ∀ k, k ≠ g → w'.heap[k]? = w.heap[k]?)
    (hb : BR w0 π w' g blk) : HR w0 w1 π (h.set b blk) w' := by
  obtain ⟨o, ho, hof⟩ := hlive
  have hlt : b < h.length := by
    rcases Nat.lt_or_ge b h.length with h' | h'
    · exact h'
    · simp [List.getElem?_eq_none h'] at ho
  refine ⟨hr.base, ⟨hos.trans hr.below.os, htape.trans hr.below.tape, hout.trans hr.below.output, by rw [hsz]; exact hr.below.size, fun k hk => ?_⟩, fun b' hb' => ?_, fun b' blk' hb' hf' => ?_, hr.inj⟩
  · rw [hoth k (by have := hr.ge hg; omega)]; exact hr.below.block k hk
  · rw [List.getElem?_set] at hb'
    split at hb'
    · rename_i e; subst e; simp [hlt] at hb'; exact absurd hb' hne
    · exact hr.free b' hb'
  · rw [List.getElem?_set] at hb'
    split at hb'
    · rename_i e; subst e; simp [hlt] at hb'; subst hb'
      exact ⟨g, hg, hr.ge hg, by rw [hsz]; exact hr.lt hg, hb⟩
    · rename_i e
      obtain ⟨g', h1, h2, h3, h4⟩ := hr.live b' blk' hb' hf'
      refine ⟨g', h1, h2, by rw [hsz]; exact h3, BR.mono (fun _ _ h => h) (hoth g' ?_) h4⟩
      intro e'; subst e'; exact e (hr.inj _ _ _ hg h1)

theorem VR.oneCell {x : V} {c : Value} (hx : VR w0 π x c) (hs : x.scalar = true) : c.oneCell' = true := by
  cases x <;> simp only [VR] at hx <;> (try (simp [V.scalar] at hs; done))
  case bool => subst hx; rfl
  case int => obtain ⟨rfl, _⟩ := hx; rfl
  case str => obtain ⟨rfl, _⟩ := hx; rfl
  case ptr => obtain ⟨g, _, rfl⟩ := hx; rfl
  case nilp => subst hx; rfl
  case ro => obtain ⟨a, cap, rfl, _⟩ := TR.slice_len hx; rfl
  case rop => obtain ⟨g, o, ds, rfl, _⟩ := hx; rfl
  case nsl => subst hx; rfl
  case fn => obtain ⟨cs, rfl, _⟩ := hx; rfl
  case nilf => subst hx; rfl
  case iface => obtain ⟨cs, rfl, _⟩ := hx; rfl
  case nili => subst hx; rfl
  case map => obtain ⟨g, _, rfl⟩ := hx; rfl

theorem run_storeCells {g : Nat} {t : TypeId} : ∀ (us : List Value) (off i : Nat) (w : World) (cs : Array Value), w.heap[g]? = some (.cells cs t (0, 0)) → off + i + us.length ≤ cs.size → (∀ c ∈ us, c.oneCell' = true) →
    ∃ w', (storeCells ⟨g, off, none⟩ us i).run P w = .ok () w' ∧ w'.heap[g]? = some (.cells (List.splice cs.toList (off + i) us).toArray t (0, 0)) ∧ (∀ k, k ≠ g → w'.heap[k]? = w.heap[k]?) ∧
      w'.heap.size = w.heap.size ∧ w'.os = w.os ∧ w'.tape = w.tape ∧ w'.output = w.output
  | [], off, i, w, cs, hg, hl, _ => ⟨w, rfl, by simpa [List.splice] using hg, fun _ _ => rfl, rfl, rfl, rfl, rfl⟩
  | u :: us, off, i, w, cs, hg, hl, hs => by
    simp only [List.length_cons] at hl
    have hcell : w.cell? ⟨g, off + i, none⟩ = some cs[off + i] := by rw [cell_of_row w g _ cs t _ hg]; simp
    have hfr : w.frozen? ⟨g, off + i, none⟩ = false := frozen_of_row w g _ cs t hg
    have hset := heap_setCell_same w g (off + i) cs t u hg
    have hlt : g < w.heap.size := (Array.getElem?_eq_some_iff.1 hg).1
    obtain ⟨w', h1, h2, h3, h4, h5, h6, h7⟩ := run_storeCells us off (i + 1) (w.setCell ⟨g, off + i, none⟩ u) (cs.setIfInBounds (off + i) u) hset (by simp; omega) (fun c hc => hs c (by simp [hc]))
    refine ⟨w', ?_, ?_, ?_, ?_, h5, h6, h7⟩
    · simp only [storeCells, Sem.run_bind]
      have hadd : (⟨g, off, none⟩ : Addr).add i = ⟨g, off + i, none⟩ := by unfold Addr.add; split <;> simp_all
      rw [run_store P w _ u _ (hs u (by simp)), hadd, hcell]
      simp only [hfr, Bool.false_eq_true, if_false, Result.andThen_ok]
      exact h1
    · rw [h2]
      simp only [List.splice, Array.toList_setIfInBounds, Nat.add_assoc]
    · intro k hk; rw [h3 k hk]; exact heap_setCell_other w _ k u (by simpa using hk)
    · rw [h4]; simp [World.setCell]

end
end Go.Eng
