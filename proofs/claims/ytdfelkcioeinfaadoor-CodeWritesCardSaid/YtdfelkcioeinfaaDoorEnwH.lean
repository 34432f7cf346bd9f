/- The engine, part H: loads and stores. -/
import Derived.Test.YtdfelkcioeinfaaDoorEnwG
set_option linter.unusedVariables false
set_option linter.unusedSimpArgs false
namespace Go.Eng
open Go Go.RowKit

section
variable {Φ : Fr} {w w1 : World} {π : Pi} {P : Program} {h : List Blk} {slot : Nat} {v : V} {u : Upd}

/-- Another place's block lies there too. -/
structure At.like (A A' : At) : Prop where
  g : A'.g = A.g
  o : A'.o = A.o
  n : A'.n = A.n
  len : A'.len = A.len
  sz : A'.sz = A.sz
theorem resB_sound (hr : HR Φ w1 π h w) : ∀ (n b : Nat) (A : At), π b = some A → ∃ A', π (resB h n b) = some A' ∧ A.like A'
  | 0, b, A, hA => ⟨A, hA, rfl, rfl, rfl, rfl, rfl⟩
  | n + 1, b, A, hA => by
    simp only [resB]
    split
    · rename_i b' hb
      obtain ⟨A1, h1, h2⟩ := hr.live b _ hb (by simp)
      rw [hA] at h1; cases h1
      simp only [BR] at h2
      obtain ⟨A', h3, h4, h5, h6, h7, h8⟩ := h2
      obtain ⟨A'', h9, h10⟩ := resB_sound hr n b' A' h3
      exact ⟨A'', h9, h10.g.trans h4, h10.o.trans h5, h10.n.trans h6, h10.len.trans h7, h10.sz.trans h8⟩
    · exact ⟨A, hA, rfl, rfl, rfl, rfl, rfl⟩
theorem HR.get (hr : HR Φ w1 π h w) {b : Nat} {blk : Blk} {A : At} (hb : h[b]? = some blk) (hne : blk ≠ .free) (hA : π b = some A) : BR Φ π w A blk := by
  obtain ⟨A', h1, h2⟩ := hr.live b blk hb hne
  rw [hA] at h1; cases h1; exact h2

theorem loadC_sound {t : TypeId} {c : List V} {off g o : Nat} {cs : List Value} (hc : VRL Φ π c cs) (hcell : ∀ (j : Nat) (u : Value), cs[j]? = some u → w.cell? ⟨g, o + j, none⟩ = some u)
    (he : EffTo P slot h (partV P t c off) v u) : u = .no ∧ ∃ cv, (loadVar t ⟨g, o + off, none⟩).run P w = .ok cv w ∧ VR Φ π v cv := by
  unfold partV at he
  split at he
  · rename_i n hag hs
    split at he
    · rename_i hl
      obtain ⟨rfl, rfl⟩ := he
      have hl' := VRL.length hc
      have hlen : ((cs.drop off).take n).length = n := by simp; omega
      have hr := run_loadCells_list (P := P) w ⟨g, o + off, none⟩ ((cs.drop off).take n) (by
        intro j u hj
        have hadd : (⟨g, o + off, none⟩ : Addr).add j = ⟨g, o + off + j, none⟩ := by unfold Addr.add; split <;> simp_all
        rw [hadd, Nat.add_assoc]
        refine hcell (off + j) u ?_
        rw [List.getElem?_take] at hj
        split at hj
        · rw [List.getElem?_drop] at hj; exact hj
        · cases hj)
      rw [hlen] at hr
      refine ⟨rfl, .agg ((cs.drop off).take n).toArray, by simp [loadVar, isAggB_run hag, sizeB_run hs, hr], ?_⟩
      simp only [VR]
      exact ⟨_, rfl, VRL.take _ (VRL.drop _ hc)⟩
    · exact he.elim
  · rename_i n hag hs
    split at he
    · rename_i x hx
      obtain ⟨rfl, rfl⟩ := he
      obtain ⟨c', hc', hv⟩ := VRL.get hc hx
      refine ⟨rfl, c', ?_, hv⟩
      have := hcell off c' hc'
      simp [loadVar, isAggB_run hag, this]
    · exact he.elim
  · exact he.elim
theorem els_all {g : Nat} {t : Ty} : ∀ {xs : List t.D} {o : Nat}, Els (Φ false) w g o t xs → ∃ cs, VRL Φ π (xs.flatMap (toVs false t)) cs ∧ cs.length = xs.length * t.size ∧ ∀ j u, cs[j]? = some u → wcell w g (o + j) = some u
  | [], o, _ => ⟨[], by simp [VRL], by simp, fun j u hu => by simp at hu⟩
  | x :: xs, o, he => by
    obtain ⟨ds, h1, h2⟩ := he 0 (by simp)
    have he' : Els (Φ false) w g (o + t.size) t xs := by
      intro i hi
      obtain ⟨ds, h3, h4⟩ := he (i + 1) (by simpa using hi)
      refine ⟨ds, by simpa using h3, fun j u hu => ?_⟩
      have := h4 j u hu
      rw [Nat.add_mul, Nat.one_mul] at this
      rw [show o + t.size + (i * t.size + j) = o + (i * t.size + t.size + j) by omega]
      exact this
    obtain ⟨cs, h5, h6, h7⟩ := els_all he'
    have hl := TR.length h1
    refine ⟨ds ++ cs, ?_, by simp [h6, hl, Nat.add_mul]; omega, fun j u hu => ?_⟩
    · simp only [List.flatMap_cons]
      exact VRL.append (TR.vs h1) h5
    · rcases Nat.lt_or_ge j ds.length with hj | hj
      · rw [List.getElem?_append_left hj] at hu
        have := h2 j u hu
        simpa using this
      · rw [List.getElem?_append_right hj] at hu
        have := h7 _ u hu
        rw [show o + t.size + (j - ds.length) = o + j by omega] at this
        exact this

theorem get_lt {α : Type} {l : List α} {i : Nat} {d : α} (h : i < l.length) : W.get l i d = l[i] := by
  simp [W.get, List.getD_eq_getElem?_getD, List.getElem?_eq_getElem h]
theorem load_sound {t : TypeId} {x : V} {cx : Value} (hr : HR Φ w1 π h w) (hx : VR Φ π x cx) (he : EffTo P slot h (loadAct P t x h) v u) :
    u = .no ∧ ∃ cv, (Instr.loadAt t cx).run P w = .ok cv w ∧ VR Φ π v cv := by
  unfold loadAct at he
  split at he
  · rename_i b off
    simp only [VR] at hx
    obtain ⟨A, hA, rfl⟩ := hx
    split at he
    · rename_i c hb
      have h4 := hr.get hb (by simp) hA
      simp only [BR] at h4
      obtain ⟨_, _, cs, hc, hcs⟩ := h4
      obtain ⟨h5, cv, h6, h7⟩ := loadC_sound (w := w) (g := A.g) (o := A.o) hc (fun j u hj => wcell_cell (hcs j u hj)) he
      exact ⟨h5, cv, by simpa [Instr.loadAt, Instr.sureAddr, pv] using h6, h7⟩
    · exact he.elim
  · rename_i b n sz
    simp only [VR] at hx
    obtain ⟨A, hA, e1, e2, e3, e4, rfl⟩ := hx
    split at he
    · rename_i T xs hb hag
      split at he
      · rename_i hs
        simp only [Bool.and_eq_true, beq_iff_eq] at hs
        obtain ⟨rfl, rfl⟩ := he
        have h4 := hr.get hb (by simp) hA
        simp only [BR] at h4
        obtain ⟨_, g2, g3, _, _, _, g7⟩ := h4
        obtain ⟨cs, h5, h6, h7⟩ := els_all (π := π) g7
        have hlen : cs.length = n * sz := by rw [h6, ← g2, e1, ← g3, e2]
        have hrun := run_loadCells_list (P := P) w ⟨A.g, A.o, none⟩ cs (by
          intro j u hj
          have hadd : (⟨A.g, A.o, none⟩ : Addr).add j = ⟨A.g, A.o + j, none⟩ := by unfold Addr.add; split <;> simp_all
          rw [hadd]; exact wcell_cell (h7 j u hj))
        rw [hlen] at hrun
        refine ⟨rfl, .agg cs.toArray, by simp [Instr.loadAt, Instr.sureAddr, pv, loadVar, isAggB_run hag, sizeB_run hs.1, hrun], ?_⟩
        simp only [VR]
        exact ⟨_, rfl, by simpa using h5⟩
      · exact he.elim
    · exact he.elim
  · rename_i b i off
    simp only [VR] at hx
    obtain ⟨A, hA, hi, rfl⟩ := hx
    split at he
    · rename_i T xs hb
      have h4 := hr.get hb (by simp) hA
      simp only [BR] at h4
      obtain ⟨_, g2, g3, _, _, _, g7⟩ := h4
      have hi' : i < xs.length := by omega
      obtain ⟨ds, h5, h6⟩ := g7 i hi'
      rw [get_lt hi'] at he
      obtain ⟨h7, cv, h8, h9⟩ := loadC_sound (w := w) (g := A.g) (o := A.o + i * T.size) (TR.vs (π := π) h5) (fun j u hj => by
        have := wcell_cell (h6 j u hj)
        rw [Nat.add_assoc]; exact this) he
      refine ⟨h7, cv, ?_, h9⟩
      rw [g3]
      rw [Nat.add_assoc] at h8
      simpa [Instr.loadAt, Instr.sureAddr, pv] using h8
    · exact he.elim
  · rename_i b i
    simp only [VR] at hx
    obtain ⟨A, hA, hi, rfl⟩ := hx
    split at he
    · rename_i T xs hb hag
      obtain ⟨rfl, rfl⟩ := he
      obtain ⟨A', hA', hlk⟩ := resB_sound hr 1000 b A hA
      have h4 := hr.get hb (by simp) hA'
      simp only [BR] at h4
      obtain ⟨g1, g2, g3, g4, g5, g6, g7, g8, g9⟩ := h4
      have hi' : i < xs.length := by rw [← g1, hlk.len]; exact hi
      obtain ⟨r, c, g10, g11, a, cap, g12, g13, g14, g15⟩ := g9 i hi'
      refine ⟨rfl, c, ?_, ?_⟩
      · have := wcell_cell g11
        rw [hlk.g, hlk.o] at this
        have e : A.sz = 1 := by rw [← hlk.sz]; exact g2
        simp [Instr.loadAt, Instr.sureAddr, pv, loadVar, isAggB_run hag, e, this]
      · simp only [VR, W.len]
        rw [get_lt hi', g12]
        refine ⟨A', r, xs[i].length, a, cap, hA', g3, g10, by omega, rfl, g13, g14, fun h0 => ?_⟩
        obtain ⟨q, e1, e2, _⟩ := g15 h0
        exact ⟨q, e1, by rw [Nat.zero_mul, Nat.add_zero]; exact e2⟩
    · exact he.elim
  · rename_i b i j off
    simp only [VR] at hx
    obtain ⟨A, r, m, hA, hs, hj, rfl⟩ := hx
    split at he
    · rename_i T xs hb
      have h4 := hr.get hb (by simp) hA
      simp only [BR] at h4
      obtain ⟨g1, g2, g3, g4, g5, g6, g7, g8, g9⟩ := h4
      have hi' : i < xs.length := by rw [← g6]; exact (List.getElem?_eq_some_iff.1 hs).1
      obtain ⟨r', c, g10, g11, a, cap, g12, g13, g14, g15⟩ := g9 i hi'
      rw [hs] at g10
      simp only [Option.some.injEq, Prod.mk.injEq] at g10
      obtain ⟨rfl, rfl⟩ := g10
      obtain ⟨q, e1, e2, e3, e4⟩ := g15 (by omega)
      cases e1
      obtain ⟨ds, h5, h6⟩ := e4 j hj
      rw [get_lt hi', get_lt hj] at he
      obtain ⟨h7, cv, h8, h9⟩ := loadC_sound (w := w) (g := r.g) (o := r.o + j * T.size) (TR.vs (π := π) h5) (fun j u hj => by
        have := wcell_cell (h6 j u hj)
        rw [Nat.add_assoc]; exact this) he
      refine ⟨h7, cv, ?_, h9⟩
      rw [g3]
      rw [Nat.add_assoc] at h8
      simpa [Instr.loadAt, Instr.sureAddr, pv] using h8
    · exact he.elim
  · rename_i wb tt x off
    simp only [VR] at hx
    obtain ⟨g, o, ds, rfl, ht, hcell⟩ := hx
    obtain ⟨h5, cv, h6, h7⟩ := loadC_sound (w := w) (g := g) (o := o) (TR.vs (π := π) ht) (fun j u hj => hr.fz wb _ _ _ (hcell j u hj)) he
    exact ⟨h5, cv, by simpa [Instr.loadAt, Instr.sureAddr, pv] using h6, h7⟩
  · exact he.elim

theorem VR.oneCell {x : V} {c : Value} (hx : VR Φ π x c) (hs : x.scalar = true) : c.oneCell' = true := by
  cases x <;> (try (simp [V.scalar] at hs; done)) <;> cases c <;> first
    | rfl
    | (exfalso; simp only [VR] at hx; simp [TR, pv] at hx; done)
    | (exfalso; simp only [VR] at hx; obtain ⟨_, _, _, h, _⟩ := hx; simp [pv] at h; done)
theorem toVs_scalar (wb : Bool) : ∀ (t : Ty) (x : t.D), ∀ v ∈ toVs wb t x, v.scalar = true
  | .int k, x, v, hv => by simp [toVs] at hv; subst hv; rfl
  | .bool, x, v, hv => by simp [toVs] at hv; subst hv; rfl
  | .str, x, v, hv => by simp [toVs] at hv; subst hv; rfl
  | .unit, x, v, hv => by simp [toVs] at hv
  | .prod a b, x, v, hv => by
    simp only [toVs, List.mem_append] at hv
    rcases hv with hv | hv
    · exact toVs_scalar wb a _ v hv
    · exact toVs_scalar wb b _ v hv
  | .slice t, x, v, hv => by simp [toVs] at hv; subst hv; rfl

theorem splice_at {α : Type} : ∀ {vs l : List α} {off i : Nat}, off + vs.length ≤ l.length → (List.splice l off vs)[i]? = if off ≤ i ∧ i < off + vs.length then vs[i - off]? else l[i]?
  | [], l, off, i, _ => by simp only [List.splice, List.length_nil]; rw [if_neg (by omega)]
  | x :: vs, l, off, i, hl => by
    simp only [List.length_cons] at hl
    simp only [List.splice, List.length_cons]
    rw [splice_at (by simp; omega)]
    by_cases h1 : off + 1 ≤ i ∧ i < off + 1 + vs.length
    · rw [if_pos h1, if_pos (by omega)]
      have : i - off = (i - (off + 1)) + 1 := by omega
      rw [this]; rfl
    · rw [if_neg h1]
      by_cases h2 : i = off
      · subst h2
        rw [if_pos (by omega), List.getElem?_set_self (by omega)]; simp
      · rw [if_neg (by omega), List.getElem?_set_ne (by omega)]

/-- What is stored: as many cells, each one cell. -/
theorem storeVar_sound {t : TypeId} {n g o : Nat} {cy : Value} (hs : sizeB P t = some n) (hn : cy.cells.size = n) (hc : ∀ j, j < n → ∃ u, wcell w g (o + j) = some u) (hone : ∀ c ∈ cy.cells.toList, c.oneCell' = true) :
    ∃ w', (Instr.storeAt t (pv g o) cy).run P w = .ok () w' ∧ Turn w w' (fun g' o' => g' = g ∧ o ≤ o' ∧ o' < o + n) ∧ ∀ (j : Nat) u, cy.cells.toList[j]? = some u → wcell w' g (o + j) = some u := by
  obtain ⟨w', r1, r2, r3, r4⟩ := run_storeCells (P := P) cy.cells.toList o 0 w (fun j hj => by rw [Nat.add_zero]; exact hc j (by simp at hj; omega)) hone
  refine ⟨w', ?_, r2.sub (by rintro g' o' ⟨h1, h2, h3⟩; exact ⟨h1, by omega, by simp at h3; omega⟩), fun j u hu => by have := r3 j u hu; simpa using this⟩
  simp only [Instr.storeAt, Instr.sureAddr, pv, Sem.run_bind, Sem.run_pure, Result.andThen_ok, storeVar, sizeB_run hs]
  rw [if_neg (by omega)]
  exact r1
theorem cells_one' {x : V} {c : Value} (hx : VR Φ π x c) (hs : ∀ y ∈ x.cells, y.scalar = true) : VRL Φ π x.cells c.cells.toList ∧ ∀ c' ∈ c.cells.toList, c'.oneCell' = true := by
  have hyk : x ≠ .any := by intro e; subst e; have := hs .any (by simp [V.cells]); simp [V.scalar] at this
  have hyc := VR.cells hx hyk
  refine ⟨hyc, fun c' hcm => ?_⟩
  obtain ⟨i, hi⟩ := List.mem_iff_getElem?.1 hcm
  have hl := VRL.length hyc
  have hi' : i < x.cells.length := by have := (List.getElem?_eq_some_iff.1 hi).1; omega
  obtain ⟨u', hu', hv'⟩ := VRL.get hyc (List.getElem?_eq_getElem hi')
  rw [hi] at hu'; cases hu'
  exact VR.oneCell hv' (hs _ (List.getElem_mem hi'))
theorem decO_scalar {wb : Bool} : ∀ (t : Ty) {l : List V} {x : t.D} {l' : List V}, decO wb t l = some (x, l') → ∃ k, l = k ++ l' ∧ ∀ y ∈ k, y.scalar = true
  | .int k, [], x, l', hd => by simp [decO] at hd
  | .bool, [], x, l', hd => by simp [decO] at hd
  | .str, [], x, l', hd => by simp [decO] at hd
  | .slice t, [], x, l', hd => by simp [decO] at hd
  | .int k, v :: l, x, l', hd => by
    simp only [decO] at hd
    split at hd
    · split at hd
      · simp only [Option.some.injEq, Prod.mk.injEq] at hd
        obtain ⟨_, rfl⟩ := hd
        exact ⟨[_], rfl, by simp [V.scalar]⟩
      · cases hd
    · cases hd
  | .bool, v :: l, x, l', hd => by
    simp only [decO] at hd
    split at hd
    · simp only [Option.some.injEq, Prod.mk.injEq] at hd
      obtain ⟨_, rfl⟩ := hd
      exact ⟨[_], rfl, by simp [V.scalar]⟩
    · cases hd
  | .str, v :: l, x, l', hd => by
    simp only [decO] at hd
    split at hd
    · simp only [Option.some.injEq, Prod.mk.injEq] at hd
      obtain ⟨_, rfl⟩ := hd
      exact ⟨[_], rfl, by simp [V.scalar]⟩
    · cases hd
  | .unit, l, x, l', hd => by
    have hd' : some ((), l) = some (x, l') := by cases l <;> simpa only [decO] using hd
    simp only [Option.some.injEq, Prod.mk.injEq] at hd'
    obtain ⟨_, rfl⟩ := hd'
    exact ⟨[], rfl, by simp⟩
  | .prod a b, l, x, l', hd => by
    obtain ⟨y, l1, z, h1, h2, rfl⟩ := decO_prod hd
    obtain ⟨k1, rfl, h3⟩ := decO_scalar a h1
    obtain ⟨k2, rfl, h4⟩ := decO_scalar b h2
    exact ⟨k1 ++ k2, by simp, fun y hy => (List.mem_append.1 hy).elim (h3 y) (h4 y)⟩
  | .slice t, v :: l, x, l', hd => by
    simp only [decO] at hd
    split at hd
    · split at hd
      · split at hd
        · cases hd
        · simp only [Option.some.injEq, Prod.mk.injEq] at hd
          obtain ⟨_, rfl⟩ := hd
          exact ⟨[_], rfl, by simp [V.scalar]⟩
      · cases hd
    · simp only [Option.some.injEq, Prod.mk.injEq] at hd
      obtain ⟨_, rfl⟩ := hd
      exact ⟨[_], rfl, by simp [V.scalar]⟩
    · simp only [Option.some.injEq, Prod.mk.injEq] at hd
      obtain ⟨_, rfl⟩ := hd
      exact ⟨[_], rfl, by simp [V.scalar]⟩
    · cases hd
theorem decMany_scalar {wb : Bool} {t : Ty} : ∀ {n : Nat} {l : List V} {xs : List t.D}, decMany wb t n l = some xs → ∀ y ∈ l, y.scalar = true
  | 0, [], xs, hd, y, hy => by cases hy
  | 0, _ :: _, xs, hd, y, hy => by simp [decMany] at hd
  | n + 1, l, xs, hd, y, hy => by
    simp only [decMany] at hd
    split at hd
    · rename_i x r h1
      cases h2 : decMany wb t n r with
      | none => simp [h2] at hd
      | some ys =>
        obtain ⟨k, rfl, h3⟩ := decO_scalar t h1
        rcases List.mem_append.1 hy with hy | hy
        · exact h3 y hy
        · exact decMany_scalar h2 y hy
    · cases hd
theorem decOne_scalar {wb : Bool} {t : Ty} {l : List V} {x : t.D} (hd : decOne wb t l = some x) : ∀ y ∈ l, y.scalar = true := by
  unfold decOne at hd
  split at hd
  · rename_i y h1
    obtain ⟨k, rfl, h2⟩ := decO_scalar t h1
    simpa using h2
  · cases hd

/-- One element of a row has turned. -/
theorem Els.set {F : Fz} {w' : World} {g o i off : Nat} {t : Ty} {xs : List t.D} {y : t.D} {us ds : List Value} (he : Els F w g o t xs) (hi : i < xs.length)
    (ht : Turn w w' (fun g' o' => g' = g ∧ o + (i * t.size + off) ≤ o' ∧ o' < o + (i * t.size + off) + us.length)) (hw : ∀ (j : Nat) u, us[j]? = some u → wcell w' g (o + (i * t.size + off) + j) = some u)
    (hl : off + us.length ≤ t.size) (hds : ds.length = t.size) (hcell : ∀ j u, ds[j]? = some u → wcell w g (o + (i * t.size + j)) = some u) (hy : TR F t y (List.splice ds off us)) :
    Els F w' g o t (W.set xs i y) := by
  intro k hk
  simp only [W.set, List.length_set] at hk
  by_cases hki : i = k
  · subst hki
    refine ⟨List.splice ds off us, by simp only [W.set]; rw [List.getElem_set_self]; exact hy, fun j u hu => ?_⟩
    rw [splice_at (by omega)] at hu
    split at hu
    · rename_i hin
      have := hw _ u hu
      rw [show o + (i * t.size + off) + (j - off) = o + (i * t.size + j) by omega] at this
      exact this
    · rename_i hout
      have h1 := hcell j u hu
      rw [ht.wc _ _ (wcell_lt h1) (fun e => hout (by omega))]
      exact h1
  · obtain ⟨d2, h1, h2⟩ := he k hk
    refine ⟨d2, by simp only [W.set]; rw [List.getElem_set_ne hki]; exact h1, fun j u hu => ?_⟩
    have h3 := h2 j u hu
    have hj : j < t.size := by rw [← TR.length h1]; exact (List.getElem?_eq_some_iff.1 hu).1
    rw [ht.wc _ _ (wcell_lt h3) (fun e => ?_)]
    · exact h3
    · obtain ⟨_, e1, e2⟩ := e
      rcases Nat.lt_or_gt_of_ne hki with hlt | hgt
      · have : (i + 1) * t.size ≤ k * t.size := Nat.mul_le_mul_right _ hlt
        rw [Nat.add_mul] at this; omega
      · have : (k + 1) * t.size ≤ i * t.size := Nat.mul_le_mul_right _ hgt
        rw [Nat.add_mul] at this; omega

theorem store_sound {t : TypeId} {x y : V} {cx cy : Value} (hr : HR Φ w1 π h w) (hx : VR Φ π x cx) (hy : VR Φ π y cy) (he : EffTo P slot h (storeAct P t x y h) v u) :
    v = .tup [] ∧ ∃ w' π', (Instr.storeAt t cx cy).run P w = .ok () w' ∧ π.le π' ∧ HR Φ w1 π' (u.on h) w' := by
  unfold storeAct at he
  split at he
  · rename_i b off
    simp only [VR] at hx
    obtain ⟨A, hA, rfl⟩ := hx
    split at he
    · rename_i c n hb hs
      split at he
      · rename_i hl
        simp only [Bool.and_eq_true, beq_iff_eq, decide_eq_true_eq, List.all_eq_true] at hl
        obtain ⟨⟨hl1, hl2⟩, hl3⟩ := hl
        obtain ⟨rfl, rfl⟩ := he
        refine ⟨rfl, ?_⟩
        have h4 := hr.get hb (by simp) hA
        simp only [BR] at h4
        obtain ⟨e1, e2, cs, hc, hcs⟩ := h4
        obtain ⟨hyc, hone⟩ := cells_one' hy hl3
        have hlc := VRL.length hc
        have hly := VRL.length hyc
        simp only [Array.length_toList] at hly
        obtain ⟨w', r1, r2, r3⟩ := storeVar_sound (P := P) (t := t) (g := A.g) (o := A.o + off) hs (by omega) (fun j hj => ⟨_, by rw [Nat.add_assoc]; exact hcs (off + j) _ (List.getElem?_eq_getElem (by omega))⟩) hone
        refine ⟨w', π, r1, Pi.le_refl _, ?_⟩
        have : Upd.on (.store b off y.cells) h = h.set b (.cells (List.splice c off y.cells)) := by simp [Upd.on, storeH, hb]
        rw [this]
        refine HR.turn hr hb rfl hA (r2.sub ?_) ?_ (by simp)
        · rintro g' o' ⟨rfl, h1, h2⟩; exact .inl ⟨rfl, by simp only [At.main]; omega, by simp only [At.main]; omega⟩
        · simp only [BR]
          refine ⟨by rw [List.splice_length]; exact e1, e2, List.splice cs off cy.cells.toList, VRL.splice off hc hyc, fun j u hu => ?_⟩
          rw [splice_at (by simp; omega)] at hu
          split at hu
          · rename_i hin
            have := r3 _ u hu
            rw [show A.o + off + (j - off) = A.o + j by omega] at this
            exact this
          · rename_i hout
            have h1 := hcs j u hu
            rw [r2.wc _ _ (wcell_lt h1) (fun e => hout (by simp at e ⊢; omega))]
            exact h1
      · exact he.elim
    · exact he.elim
  · rename_i b i off
    simp only [VR] at hx
    obtain ⟨A, hA, hi, rfl⟩ := hx
    split at he
    · rename_i T xs hb
      split at he
      · rename_i n hs
        split at he
        · rename_i hl
          simp only [Bool.and_eq_true, beq_iff_eq, decide_eq_true_eq] at hl
          split at he
          · rename_i z hz
            obtain ⟨rfl, rfl⟩ := he
            have hput : Upd.on (.put b T (W.set xs i z)) h = h.set b (.row T (W.set xs i z)) := by simp only [Upd.on, putH, hb]
            rw [hput]
            refine ⟨rfl, ?_⟩
            have h4 := hr.get hb (by simp) hA
            simp only [BR] at h4
            obtain ⟨g1, g2, g3, g4, g5, g6, g7⟩ := h4
            have hi' : i < xs.length := by omega
            obtain ⟨ds, h5, h6⟩ := g7 i hi'
            rw [get_lt hi'] at hz
            have hlen := TR.length h5
            have hsc := decOne_scalar hz
            have hysc : ∀ q ∈ y.cells, q.scalar = true := by
              intro q hq
              obtain ⟨k, hk⟩ := List.mem_iff_getElem?.1 hq
              have hk' := (List.getElem?_eq_some_iff.1 hk).1
              refine hsc q (List.mem_iff_getElem?.2 ⟨off + k, ?_⟩)
              rw [splice_at (by rw [toVs_length]; omega), if_pos (by omega), Nat.add_sub_cancel_left]; exact hk
            obtain ⟨hyc, hone⟩ := cells_one' hy hysc
            have hly := VRL.length hyc
            simp only [Array.length_toList] at hly
            have hel := el_lt hi' (show off + n - 1 < T.size by omega)
            have hmul : (i + 1) * T.size ≤ xs.length * T.size := Nat.mul_le_mul_right _ hi'
            rw [Nat.add_mul] at hmul
            obtain ⟨w', r1, r2, r3⟩ := storeVar_sound (P := P) (t := t) (g := A.g) (o := A.o + (i * A.sz + off)) hs (by omega) (fun j hj => by
              rw [g3]
              have := g6 (i * T.size + off + j) (by omega)
              rw [show A.o + (i * T.size + off) + j = A.o + (i * T.size + off + j) by omega]; exact this) hone
            rw [g3] at r2 r3
            refine ⟨w', π, r1, Pi.le_refl _, ?_⟩
            refine HR.turn hr hb rfl hA (r2.sub ?_) ?_ (by simp)
            · rintro g' o' ⟨rfl, h1, h2⟩; exact .inl ⟨rfl, by simp only [At.main]; omega, by simp only [At.main]; omega⟩
            · simp only [BR]
              refine ⟨g1, by simp only [W.set, List.length_set]; exact g2, g3, g4, by simp only [W.set, List.length_set]; exact g5, fun j hj => ?_, ?_⟩
              · obtain ⟨q, hq⟩ := g6 j hj; exact r2.ex _ _ _ hq
              · exact Els.set (ds := ds) (us := cy.cells.toList) g7 hi' (r2.sub (by rintro g' o' ⟨h1, h2, h3⟩; exact ⟨h1, h2, by simp; omega⟩)) r3 (by simp; omega) hlen h6
                  (decOne_sound (by simp) hz (VRL.splice off (TR.vs h5) hyc))
          · exact he.elim
        · exact he.elim
      · exact he.elim
    · exact he.elim
  · rename_i b n sz
    simp only [VR] at hx
    obtain ⟨A, hA, f1, f2, f3, f4, rfl⟩ := hx
    split at he
    · rename_i T xs m hb hs
      split at he
      · rename_i hl
        simp only [Bool.and_eq_true, beq_iff_eq] at hl
        obtain ⟨hl1, hl2, hl3⟩ := hl
        split at he
        · rename_i ys hys
          obtain ⟨rfl, rfl⟩ := he
          have hput : Upd.on (.put b T ys) h = h.set b (.row T ys) := by simp only [Upd.on, putH, hb]
          rw [hput]
          refine ⟨rfl, ?_⟩
          have h4 := hr.get hb (by simp) hA
          simp only [BR] at h4
          obtain ⟨g1, g2, g3, g4, g5, g6, g7⟩ := h4
          obtain ⟨hyc, hone⟩ := cells_one' hy (decMany_scalar hys)
          have hly := VRL.length hyc
          simp only [Array.length_toList] at hly
          obtain ⟨q1, q2, q3⟩ := decMany_sound (by simp) hys hyc
          obtain ⟨w', r1, r2, r3⟩ := storeVar_sound (P := P) (t := t) (g := A.g) (o := A.o) hs (by omega) (fun j hj => g6 j (by omega)) hone
          refine ⟨w', π, r1, Pi.le_refl _, ?_⟩
          refine HR.turn hr hb rfl hA (r2.sub ?_) ?_ (by simp)
          · rintro g' o' ⟨rfl, h1, h2⟩; exact .inl ⟨rfl, by simp only [At.main]; omega, by simp only [At.main]; omega⟩
          · simp only [BR]
            refine ⟨g1, by omega, g3, g4, by rw [q1, hl3]; exact f3, fun j hj => ?_, fun i hi => ?_⟩
            · obtain ⟨q, hq⟩ := g6 j hj; exact r2.ex _ _ _ hq
            · obtain ⟨ds, h5, h6⟩ := q3 i hi
              exact ⟨ds, h5, fun j u hu => r3 _ u (h6 j u hu)⟩
        · exact he.elim
      · exact he.elim
    · exact he.elim
  · rename_i b i
    simp only [VR] at hx
    obtain ⟨A, hA, hi, rfl⟩ := hx
    split at he
    · rename_i T xs b2 sz2 n2 hb hs
      split at he
      · rename_i T' ys hb2
        split at he
        · rename_i hT
          subst hT
          obtain ⟨h', hh', rfl, rfl⟩ := he
          dsimp only at hh'
          split at hh'
          · rename_i hcond
            simp only [Bool.and_eq_true, bne_iff_ne, ne_eq] at hcond
            obtain ⟨⟨⟨hfree, hn1⟩, hn2⟩, hn3⟩ := hcond
            replace hfree := isFree'_iff.1 hfree
            simp only [Option.some.injEq] at hh'
            subst hh'
            refine ⟨rfl, ?_⟩
            obtain ⟨A', hA', hlk⟩ := resB_sound hr 1000 b A hA
            generalize resB h 1000 b = b' at *
            simp only [VR] at hy
            obtain ⟨A2, a2, cap2, hA2, f1, f2, f3, f4, f5, f6, f7⟩ := hy
            have hB := hr.get hb (by simp) hA'
            have hB2 := hr.get hb2 (by simp) hA2
            have hB' := hB
            have hB2' := hB2
            simp only [BR] at hB hB2
            obtain ⟨g1, g2, g3, g4, g5, g6, g7, g8, g9⟩ := hB
            obtain ⟨k1, k2, k3, k4, k5, k6, k7⟩ := hB2
            have hown := hr.own b' _ A' hb rfl hA'
            have hown2 := hr.own b2 _ A2 hb2 rfl hA2
            have hap := hr.apart b' b2 _ _ A' A2 hb rfl hb2 rfl (fun e => hn3 e.symm) hA' hA2
            have hi' : i < xs.length := by rw [← g1, hlk.len]; exact hi
            have hone : cy.cells = #[cy] := by rw [f3]; rfl
            have esz : A.sz = 1 := by rw [← hlk.sz]; exact g2
            obtain ⟨w', r1, r2, r3⟩ := storeVar_sound (P := P) (t := t) (g := A.g) (o := A.o + i * A.sz) hs (by rw [hone]; rfl) (fun j hj => by
              have := g8 i (by omega)
              have hj0 : j = 0 := by omega
              subst hj0
              rw [← hlk.g, ← hlk.o, esz, Nat.mul_one, Nat.add_zero]; exact this) (by rw [hone]; intro c hc; simp at hc; subst hc; rw [f3]; rfl)
            rw [esz, Nat.mul_one, ← hlk.g, ← hlk.o] at r2
            have r3' := r3 0 cy (by rw [hone]; rfl)
            rw [esz, Nat.mul_one, Nat.add_zero, ← hlk.g, ← hlk.o] at r3'
            have hmain : ∀ off, off < A'.n → A'.has A'.g (A'.o + off) := fun off ho => .inl ⟨rfl, by simp [At.main], by simp only [At.main]; omega⟩
            let B : At := { A' with sub := A'.sub.set i (some A2.main, ys.length) }
            have hBsub : ∀ (j : Nat) (r : Rng) (m : Nat), B.sub[j]? = some (some r, m) → (j = i ∧ r = A2.main ∧ m = ys.length) ∨ (j ≠ i ∧ A'.sub[j]? = some (some r, m)) := by
              intro j r m hj
              show _ ∨ _
              have hj' : (A'.sub.set i (some A2.main, ys.length))[j]? = some (some r, m) := hj
              rw [List.getElem?_set] at hj'
              split at hj'
              · rename_i e; subst e
                split at hj'
                · simp only [Option.some.injEq, Prod.mk.injEq] at hj'
                  exact .inl ⟨rfl, hj'.1.symm, hj'.2.symm⟩
                · cases hj'
              · rename_i e; exact .inr ⟨fun e' => e e'.symm, hj'⟩
            have hBhas : ∀ g off, B.has g off → A'.has g off ∨ A2.has g off := by
              rintro g off (hm | ⟨j, r, m, hj, hrr⟩)
              · exact .inl (.inl hm)
              · rcases hBsub j r m hj with ⟨_, rfl, _⟩ | ⟨_, hj'⟩
                · exact .inr (.inl hrr)
                · exact .inl (.inr ⟨j, r, m, hj', hrr⟩)
            let π' : Pi := fun q => if q = slot then some B else π q
            have hpf := hr.free slot (.inr hfree)
            have hle : π.le π' := by
              intro q Q hq
              show (if q = slot then some B else π q) = some Q
              rw [if_neg (by intro e; subst e; rw [hpf] at hq; cases hq)]; exact hq
            have hps : π' slot = some B := if_pos rfl
            have hpo : ∀ q, q ≠ slot → π' q = π q := fun q hq => if_neg hq
            refine ⟨w', π', r1, hle, ?_⟩
            simp only [Upd.on]
            have hlb : b' < h.length := (List.getElem?_eq_some_iff.1 hb).1
            have hlb2 : b2 < h.length := (List.getElem?_eq_some_iff.1 hb2).1
            have hls : slot < h.length := (List.getElem?_eq_some_iff.1 hfree).1
            have hget : ∀ q, (((h.set b2 .dead).set slot (.rows T' (W.set xs i ys))).set b' (.fwd slot))[q]? = if q = b' then some (.fwd slot) else if q = slot then some (.rows T' (W.set xs i ys)) else if q = b2 then some .dead else h[q]? := by
              intro q
              by_cases e1 : q = b'
              · subst e1; rw [if_pos rfl, List.getElem?_set_self (by simpa using hlb)]
              · rw [if_neg e1, List.getElem?_set_ne (fun e => e1 e.symm)]
                by_cases e2 : q = slot
                · subst e2; rw [if_pos rfl, List.getElem?_set_self (by simpa using hls)]
                · rw [if_neg e2, List.getElem?_set_ne (fun e => e2 e.symm)]
                  by_cases e3 : q = b2
                  · subst e3; rw [if_pos rfl, List.getElem?_set_self hlb2]
                  · rw [if_neg e3, List.getElem?_set_ne (fun e => e3 e.symm)]
            have hS : ∀ g off, (g = A'.g ∧ A'.o + i ≤ off ∧ off < A'.o + i + 1) → A'.has g off := by
              rintro g off ⟨rfl, h1, h2⟩
              exact .inl ⟨rfl, by simp only [At.main]; omega, by simp only [At.main]; omega⟩
            refine hr.master r2 (fun g off e => (hown g off (hS g off e)).1) (hr.fzTurn r2 fun g off e => (hown g off (hS g off e)).2.2) (Fr.le_refl _) hle (fun q => q = b' ∨ q = slot ∨ q = b2) ?_ ?_ ?_ ?_ ?_ ?_ ?_
            · intro q hq
              simp only [not_or] at hq
              exact ⟨by rw [hget, if_neg hq.1, if_neg hq.2.1, if_neg hq.2.2], hpo q hq.2.1⟩
            · rintro q (rfl | rfl | rfl) hq
              · rw [hget, if_pos rfl] at hq; rcases hq with hq | hq <;> cases hq
              · rw [hget, if_neg hn2, if_pos rfl] at hq; rcases hq with hq | hq <;> cases hq
              · rw [hget, if_neg hn3, if_neg (fun e => hn1 e.symm), if_pos rfl] at hq; rcases hq with hq | hq <;> cases hq
            · rintro q blk (rfl | rfl | rfl) hq _
              · rw [hget, if_pos rfl] at hq; cases hq
                refine ⟨A', by rw [hpo _ (fun e => hn2 e.symm)]; exact hA', ?_⟩
                simp only [BR]
                exact ⟨B, hps, rfl, rfl, rfl, rfl, rfl⟩
              · rw [hget, if_neg hn2, if_pos rfl] at hq; cases hq
                refine ⟨B, hps, ?_⟩
                simp only [BR, W.set, List.length_set]
                refine ⟨g1, g2, g3, g4, g5, by show (A'.sub.set i _).length = _; simpa using g6, ⟨?_, ?_⟩, fun j hj => ?_, fun j hj => ?_⟩
                · intro j r m hj g off hm hrr
                  rcases hBsub j r m hj with ⟨_, rfl, _⟩ | ⟨_, hj'⟩
                  · exact hap g off (.inl hm) (.inl hrr)
                  · exact g7.main j r m hj' g off hm hrr
                · intro j j' r r' m m' hj hj' hne g off hrr hrr'
                  rcases hBsub j r m hj with ⟨e, rfl, _⟩ | ⟨e, hk⟩ <;> rcases hBsub j' r' m' hj' with ⟨e', rfl, _⟩ | ⟨e', hk'⟩
                  · omega
                  · exact hap g off (.inr ⟨j', r', m', hk', hrr'⟩) (.inl hrr)
                  · exact hap g off (.inr ⟨j, r, m, hk, hrr⟩) (.inl hrr')
                  · exact g7.subs j j' r r' m m' hk hk' hne g off hrr hrr'
                · obtain ⟨q', hq'⟩ := g8 j hj; exact r2.ex _ _ _ hq'
                · by_cases hij : i = j
                  · subst hij
                    refine ⟨some A2.main, cy, ?_, r3', a2, cap2, ?_⟩
                    · show (A'.sub.set i _)[i]? = _
                      rw [List.getElem?_set_self (by omega), List.getElem_set_self]
                    · rw [List.getElem_set_self]
                      rw [k2] at f2; subst f2
                      refine ⟨f3, f4, f5, fun h0 => ⟨A2.main, rfl, f7 (by omega), ?_, ?_⟩⟩
                      · exact k5
                      · refine k7.turn (Fr.le_refl _ false) r2 fun off h1 h2 e => ?_
                        exact hap _ off (hS _ _ e) (.inl ⟨rfl, h1, by simp only [At.main]; omega⟩)
                  · obtain ⟨r, c, g10, g11, a, cap, g12, g13, g14, g15⟩ := g9 j hj
                    refine ⟨r, c, ?_, ?_, a, cap, ?_⟩
                    · show (A'.sub.set i _)[j]? = _
                      rw [List.getElem?_set_ne hij, List.getElem_set_ne hij]; exact g10
                    · show wcell w' A'.g (A'.o + j) = _
                      rw [r2.wc _ _ (wcell_lt g11) (fun e => by omega)]; exact g11
                    · rw [List.getElem_set_ne hij]
                      refine ⟨g12, g13, g14, fun h0 => ?_⟩
                      obtain ⟨q, e1, e2, e3, e4⟩ := g15 h0
                      refine ⟨q, e1, e2, e3, e4.turn (Fr.le_refl _ false) r2 fun off h1 h2 e => ?_⟩
                      subst e1
                      exact g7.main j q _ g10 q.g off (by obtain ⟨e5, e6, e7⟩ := e; exact ⟨e5, by simp only [At.main]; omega, by simp only [At.main]; omega⟩) ⟨rfl, h1, by omega⟩
              · rw [hget, if_neg hn3, if_neg (fun e => hn1 e.symm), if_pos rfl] at hq; cases hq
                exact ⟨A2, by rw [hpo _ (fun e => hn1 e.symm)]; exact hA2, trivial⟩
            · rintro q blk Q (rfl | rfl | rfl) hq ho hQ
              · rw [hget, if_pos rfl] at hq; cases hq; cases ho
              · rw [hps] at hQ; cases hQ
                intro g off hh
                rcases hBhas g off hh with hh | hh
                · obtain ⟨q1, q2, q3⟩ := hown g off hh; exact ⟨q1, Nat.lt_of_lt_of_le q2 r2.size, q3⟩
                · obtain ⟨q1, q2, q3⟩ := hown2 g off hh; exact ⟨q1, Nat.lt_of_lt_of_le q2 r2.size, q3⟩
              · rw [hget, if_neg hn3, if_neg (fun e => hn1 e.symm), if_pos rfl] at hq; cases hq; cases ho
            · intro q q' blk blk' Q Q' hq hq' hne hb1 ho1 hb1' ho1' _ _
              exfalso
              have key : ∀ q blk, (q = b' ∨ q = slot ∨ q = b2) → (((h.set b2 .dead).set slot (.rows T' (W.set xs i ys))).set b' (.fwd slot))[q]? = some blk → blk.owns = true → q = slot := by
                rintro q blk (rfl | rfl | rfl) hq ho
                · rw [hget, if_pos rfl] at hq; cases hq; cases ho
                · rfl
                · rw [hget, if_neg hn3, if_neg (fun e => hn1 e.symm), if_pos rfl] at hq; cases hq; cases ho
              exact hne ((key q blk hq hb1 ho1).trans (key q' blk' hq' hb1' ho1').symm)
            · rintro q q' blk blk' Q Q' (rfl | rfl | rfl) hq' hb1 ho1 hb1' ho1' hQ hQ'
              · rw [hget, if_pos rfl] at hb1; cases hb1; cases ho1
              · simp only [not_or] at hq'
                rw [hps] at hQ; cases hQ
                intro g off hh hh'
                rcases hBhas g off hh with hh | hh
                · exact hr.apart b' q' _ _ A' Q' hb rfl hb1' ho1' (fun e => hq'.1 e.symm) hA' hQ' g off hh hh'
                · exact hr.apart b2 q' _ _ A2 Q' hb2 rfl hb1' ho1' (fun e => hq'.2.2 e.symm) hA2 hQ' g off hh hh'
              · rw [hget, if_neg hn3, if_neg (fun e => hn1 e.symm), if_pos rfl] at hb1; cases hb1; cases ho1
            · intro q blk Q hq hb1 ho1 hQ g off hh
              simp only [not_or] at hq
              exact ⟨fun e => hr.apart q b' _ _ Q A' hb1 ho1 hb rfl hq.1 hQ hA' g off hh (hS g off e), (hr.own q blk Q hb1 ho1 hQ g off hh).2.2⟩
          · cases hh'
        · exact he.elim
      · exact he.elim
    · exact he.elim
  · rename_i b i j off
    simp only [VR] at hx
    obtain ⟨A, r, m, hA, hs0, hj, rfl⟩ := hx
    split at he
    · rename_i T xs hb
      split at he
      · rename_i n hs
        split at he
        · rename_i hl
          simp only [Bool.and_eq_true, beq_iff_eq, decide_eq_true_eq] at hl
          split at he
          · rename_i z hz
            obtain ⟨h', hh', rfl, rfl⟩ := he
            simp only [Option.some.injEq] at hh'
            subst hh'
            refine ⟨rfl, ?_⟩
            have h4 := hr.get hb (by simp) hA
            simp only [BR] at h4
            obtain ⟨g1, g2, g3, g4, g5, g6, g7, g8, g9⟩ := h4
            have hi' : i < xs.length := by rw [← g6]; exact (List.getElem?_eq_some_iff.1 hs0).1
            obtain ⟨r', c, g10, g11, a, cap, g12, g13, g14, g15⟩ := g9 i hi'
            have g10' := g10
            rw [hs0] at g10
            simp only [Option.some.injEq, Prod.mk.injEq] at g10
            obtain ⟨rfl, rfl⟩ := g10
            obtain ⟨q, e1, e2, e3, e4⟩ := g15 (by omega)
            cases e1
            obtain ⟨ds, h5, h6⟩ := e4 j hj
            rw [get_lt hi', get_lt hj] at hz
            have hlen := TR.length h5
            have hsc := decOne_scalar hz
            have hysc : ∀ q ∈ y.cells, q.scalar = true := by
              intro q hq
              obtain ⟨k, hk⟩ := List.mem_iff_getElem?.1 hq
              have hk' := (List.getElem?_eq_some_iff.1 hk).1
              refine hsc q (List.mem_iff_getElem?.2 ⟨off + k, ?_⟩)
              rw [splice_at (by rw [toVs_length]; omega), if_pos (by omega), Nat.add_sub_cancel_left]; exact hk
            obtain ⟨hyc, hone⟩ := cells_one' hy hysc
            have hly := VRL.length hyc
            simp only [Array.length_toList] at hly
            have hmul : (j + 1) * T.size ≤ xs[i].length * T.size := Nat.mul_le_mul_right _ hj
            rw [Nat.add_mul] at hmul
            obtain ⟨w', r1, r2, r3⟩ := storeVar_sound (P := P) (t := t) (g := r.g) (o := r.o + (j * A.sz2 + off)) hs (by omega) (fun k hk => by
              rw [g3]
              have := h6 (off + k) _ (List.getElem?_eq_getElem (by omega))
              rw [show r.o + (j * T.size + off) + k = r.o + (j * T.size + (off + k)) by omega]; exact ⟨_, this⟩) hone
            rw [g3] at r2 r3
            refine ⟨w', π, r1, Pi.le_refl _, ?_⟩
            simp only [Upd.on]
            have hin : ∀ g' o', (g' = r.g ∧ r.o + (j * T.size + off) ≤ o' ∧ o' < r.o + (j * T.size + off) + n) → r.has g' o' := by
              rintro g' o' ⟨rfl, h1, h2⟩; exact ⟨rfl, by omega, by omega⟩
            refine HR.turn hr hb rfl hA (r2.sub fun g' o' e => .inr ⟨i, r, _, g10', hin g' o' e⟩) ?_ (by simp)
            simp only [BR, W.set, List.length_set]
            refine ⟨g1, g2, g3, g4, g5, g6, g7, fun k hk => ?_, fun k hk => ?_⟩
            · obtain ⟨q, hq⟩ := g8 k hk; exact r2.ex _ _ _ hq
            · obtain ⟨rk, ck, q10, q11, ak, capk, q12, q13, q14, q15⟩ := g9 k hk
              have hck : wcell w' A.g (A.o + k) = some ck := by
                rw [r2.wc _ _ (wcell_lt q11) (fun e => g7.main i r _ g10' A.g (A.o + k) ⟨rfl, by simp [At.main], by simp only [At.main]; omega⟩ (hin _ _ e))]
                exact q11
              by_cases hik : i = k
              · subst hik
                rw [List.getElem_set_self, get_lt hi', List.length_set]
                refine ⟨rk, ck, q10, hck, ak, capk, by rw [List.length_set]; exact q12, by rw [List.length_set]; exact q13, q14, fun h0 => ?_⟩
                rw [List.length_set] at h0 ⊢
                obtain ⟨q, f1, f2, f3, f4⟩ := q15 h0
                subst f1
                rw [g10'] at q10
                simp only [Option.some.injEq, Prod.mk.injEq, and_true] at q10
                subst q10
                refine ⟨_, rfl, f2, f3, ?_⟩
                exact Els.set (ds := ds) (us := cy.cells.toList) f4 hj (r2.sub (by rintro g' o' ⟨h1, h2, h3⟩; exact ⟨h1, h2, by simp; omega⟩)) r3 (by simp; omega) hlen h6
                  (decOne_sound (by simp) hz (VRL.splice off (TR.vs h5) hyc))
              · rw [List.getElem_set_ne hik]
                refine ⟨rk, ck, q10, hck, ak, capk, q12, q13, q14, fun h0 => ?_⟩
                obtain ⟨q, f1, f2, f3, f4⟩ := q15 h0
                refine ⟨q, f1, f2, f3, f4.turn (Fr.le_refl _ false) r2 fun o' h1 h2 e => ?_⟩
                subst f1
                exact g7.subs i k r q _ _ g10' q10 hik q.g o' (hin _ _ e) ⟨rfl, h1, by omega⟩
          · exact he.elim
        · exact he.elim
      · exact he.elim
    · exact he.elim
  · exact he.elim
end
end Go.Eng
