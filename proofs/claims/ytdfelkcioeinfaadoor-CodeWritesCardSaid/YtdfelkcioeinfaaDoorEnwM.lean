/- The engine, part M: append onto rows of rows; copy. -/
import Derived.Test.YtdfelkcioeinfaaDoorEnwL
set_option linter.unusedVariables false
set_option linter.unusedSimpArgs false
namespace Go.Eng
open Go Go.RowKit

section
variable {Φ : Fr} {w w' w1 : World} {π : Pi} {P : Program} {h : List Blk} {slot : Nat} {v : V} {u : Upd}

theorem Inner.turn {F : Fz} {T : Ty} {x : List T.D} {r : Option Rng} {c : Value} {S : Nat → Nat → Prop} (hi : Inner F w T x r c) (ht : Turn w w' S) (hs : ∀ q g off, r = some q → q.has g off → ¬ S g off) : Inner F w' T x r c := by
  obtain ⟨a, cap, h1, h2, h3, h4⟩ := hi
  refine ⟨a, cap, h1, h2, h3, fun h0 => ?_⟩
  obtain ⟨q, e1, e2, e3, e4⟩ := h4 h0
  exact ⟨q, e1, e2, e3, e4.turn (fun _ _ _ h => h) ht fun off h5 h6 => hs q q.g off e1 ⟨rfl, h5, by omega⟩⟩
/-- The headers of a row of rows. -/
theorem rows_cells {A : At} {T : Ty} {xs : List (List T.D)} (hB : BR Φ π w A (.rows T xs)) :
    ∃ cs : List Value, cs.length = xs.length ∧ (∀ j u, cs[j]? = some u → wcell w A.g (A.o + j) = some u) ∧ (∀ c ∈ cs, c.oneCell' = true) ∧
      ∀ i (h : i < xs.length), ∃ r c, A.sub[i]? = some (r, xs[i].length) ∧ cs[i]? = some c ∧ Inner (Φ false) w T xs[i] r c := by
  simp only [BR] at hB
  obtain ⟨g1, g2, g3, g4, g5, g6, g7, g8, g9⟩ := hB
  have hget : ∀ i, i < xs.length → ∃ c, ((List.range xs.length).map fun i => (wcell w A.g (A.o + i)).getD undef)[i]? = some c ∧ wcell w A.g (A.o + i) = some c := by
    intro i hi
    obtain ⟨r, c, _, h2, _⟩ := g9 i hi
    exact ⟨c, by simp [List.getElem?_map, List.getElem?_range hi, h2], h2⟩
  refine ⟨(List.range xs.length).map fun i => (wcell w A.g (A.o + i)).getD undef, by simp, fun j u hu => ?_, fun c hc => ?_, fun i hi => ?_⟩
  · have hj : j < xs.length := by have := (List.getElem?_eq_some_iff.1 hu).1; simpa using this
    obtain ⟨c, h1, h2⟩ := hget j hj
    rw [hu] at h1; cases h1; exact h2
  · obtain ⟨j, hj⟩ := List.mem_iff_getElem?.1 hc
    have hj' : j < xs.length := by have := (List.getElem?_eq_some_iff.1 hj).1; simpa using this
    obtain ⟨c', h1, h2⟩ := hget j hj'
    rw [hj] at h1; cases h1
    obtain ⟨r, c2, _, h4, a, cap, h5, _⟩ := g9 j hj'
    rw [h2] at h4; cases h4
    rw [h5]; rfl
  · obtain ⟨r, c, h1, h2, h3⟩ := g9 i hi
    obtain ⟨c', h4, h5⟩ := hget i hi
    rw [h2] at h5; cases h5
    exact ⟨r, c, h1, h4, h3⟩

theorem appendRows {t t2 e e2 ty : TypeId} {ts : Array TypeId} (ht : ts[0]? = some t) (ht2 : ts[1]? = some t2) (hu : P.underlying t = some (.slice e)) (hu2 : P.underlying t2 = some (.slice e2)) {i : TypeInfo} {z : Value} (hi : P.info? e = some i) (hz : i.zero = some z)
    (his : i.size = 1) (hzs : z.cells.size = 1) (hby0 : i.bytes ≠ 0) (hr : HR Φ w1 π h w) (hfree : h[slot]? = some .free) {T : Ty} {ys : List (List T.D)} {b2 m : Nat} {A2 : At} {ax : Option Addr} {cxx : Nat} (hb2 : h[b2]? = some (.rows T ys)) (hA2 : π b2 = some A2) (hm : m = ys.length) (hm2 : m ≤ cxx)
    (hax : 0 < cxx → ax = some ⟨A2.g, A2.o, none⟩) {base : Option Addr} {n cap : Nat} (hnc : n ≤ cap) (hcm : cap ≤ maxLen) {xs : List (List T.D)} (hxs : xs.length = n) (olds : List Nat) (A : At)
    (hA : (olds = [b2] ∧ n = 0 ∧ cap = 0) ∨ ∃ b, olds = [b2, b] ∧ b ≠ b2 ∧ π b = some A ∧ h[b]? = some (.rows T xs) ∧ cap ≤ A.n ∧ (0 < cap → base = some ⟨A.g, A.o, none⟩))
    (hbytes : (n + m) * i.bytes ≤ 140737488355328) :
    ∃ cv w' π', (Builtin.append_ ts ty #[.slice base n cap, .slice ax m cxx]).run P w = .ok cv w' ∧ π.le π' ∧ HR Φ w1 π' ((killB h olds).set slot (.rows T (W.app xs ys))) w' ∧ VR Φ π' (.sl slot 1 (n + m)) cv := by
  have hB2 := hr.get hb2 (by simp) hA2
  have hB2' := hB2
  simp only [BR] at hB2'
  obtain ⟨k1, k2, k3, k4, k5, k6, k7, k8, k9⟩ := hB2'
  obtain ⟨news, f1, f2, f3, f4⟩ := rows_cells hB2
  have hx' : 0 < news.length → ∃ g o, ax = some ⟨g, o, none⟩ ∧ ∀ j u, news[j]? = some u → w.cell? ⟨g, o + j, none⟩ = some u := fun h0 =>
    ⟨A2.g, A2.o, hax (by omega), fun j u hu => wcell_cell (f2 j u hu)⟩
  have hown2 := hr.own b2 _ A2 hb2 rfl hA2
  obtain ⟨cs, hcl, hcell, hinner⟩ : ∃ cs : List Value, cs.length = n ∧ (0 < n → ∀ j u, cs[j]? = some u → wcell w A.g (A.o + j) = some u) ∧
      ∀ i (h : i < xs.length), ∃ r c, A.sub[i]? = some (r, xs[i].length) ∧ cs[i]? = some c ∧ Inner (Φ false) w T xs[i] r c := by
    rcases hA with ⟨_, h0, _⟩ | ⟨b, _, _, hAb, hb, _, _⟩
    · exact ⟨[], by simp [h0], fun h => by omega, fun i h => by omega⟩
    · obtain ⟨cs, g1, g2, _, g4⟩ := rows_cells (hr.get hb (by simp) hAb)
      exact ⟨cs, by omega, fun _ => g2, g4⟩
  have hb : 0 < cs.length → ∃ g o, base = some ⟨g, o, none⟩ ∧ ∀ j u, cs[j]? = some u → w.cell? ⟨g, o + j, none⟩ = some u := fun h0 => by
    rcases hA with ⟨_, h1, _⟩ | ⟨b, _, _, _, _, _, h2⟩
    · omega
    · exact ⟨A.g, A.o, h2 (by omega), fun j u hu => wcell_cell (hcell (by omega) j u hu)⟩
  have hroom : n + m ≤ cap → 0 < news.length → ∃ g o, base = some ⟨g, o, none⟩ ∧ ∀ j, j < news.length → ∃ u, wcell w g (o + n * 1 + j) = some u := fun hrm h0 => by
    rcases hA with ⟨_, h1, h2⟩ | ⟨b, _, _, hAb, hb, h3, h2⟩
    · omega
    · have hB := hr.get hb (by simp) hAb
      simp only [BR] at hB
      refine ⟨A.g, A.o, h2 (by omega), fun j hj => ?_⟩
      rw [Nat.mul_one, Nat.add_assoc]
      exact hB.2.2.2.2.2.2.2.1 _ (by omega)
  have hlapp : (W.app xs ys).length = n + m := by simp [W.app, hxs, hm]
  have hold : ∀ b ∈ olds, ∃ blk A', h[b]? = some blk ∧ blk.owns = true ∧ π b = some A' := by
    intro b hb
    rcases hA with ⟨h0, _⟩ | ⟨b', h0, _, h1, h2, _⟩
    · subst h0; simp at hb; subst hb; exact ⟨_, A2, hb2, rfl, hA2⟩
    · subst h0; simp at hb
      rcases hb with rfl | rfl
      · exact ⟨_, A2, hb2, rfl, hA2⟩
      · exact ⟨_, A, h2, rfl, h1⟩
  -- what the new block is
  have hsubA : ∀ (i : Nat) (r : Option Rng) (k : Nat), n ≠ 0 → A.sub[i]? = some (r, k) → ∃ b, olds = [b2, b] ∧ b ≠ b2 ∧ π b = some A ∧ h[b]? = some (.rows T xs) := by
    intro i r k hn _
    rcases hA with ⟨_, h0, _⟩ | ⟨b, h0, h1, h2, h3, _⟩
    · exact absurd h0 hn
    · exact ⟨b, h0, h1, h2, h3⟩
  have finish : ∀ (w' : World) (S : Nat → Nat → Prop) (q : Rng) (cap' : Nat) (addr : Option Addr), Turn w w' S → (∀ g off, S g off → q.has g off) → n + m ≤ cap' → cap' ≤ q.n → cap' ≤ maxLen → (0 < cap' → addr = some ⟨q.g, q.o, none⟩) →
      ((∃ b, olds = [b2, b] ∧ b ≠ b2 ∧ π b = some A ∧ h[b]? = some (.rows T xs) ∧ q = A.main) ∨ (q.g = w.heap.size ∧ w.heap.size < w'.heap.size ∧ ∀ g off, ¬ S g off) ∨ (q.n = 0 ∧ n = 0 ∧ m = 0 ∧ ∀ g off, ¬ S g off)) →
      (∀ j, j < q.n → ∃ u, wcell w' q.g (q.o + j) = some u) → (∀ (j : Nat) u, (cs ++ news)[j]? = some u → wcell w' q.g (q.o + j) = some u) →
      ∃ π', π.le π' ∧ HR Φ w1 π' ((killB h olds).set slot (.rows T (W.app xs ys))) w' ∧ VR Φ π' (.sl slot 1 (n + m)) (.slice addr (n + m) cap') := by
    intro w' S q cap' addr hT hSq hc1 hc2 hc3 haddr hq hex hcells
    let subA := A.sub.take n
    let B : At := ⟨q.g, q.o, q.n, n + m, 1, T.size, subA ++ A2.sub⟩
    have hsl : subA.length = n := by
      rcases Nat.eq_zero_or_pos n with h0 | h0
      · show (A.sub.take n).length = n; rw [h0]; simp
      · rcases hA with ⟨_, h1, _⟩ | ⟨b, _, _, h1, h2, _⟩
        · omega
        · have hB := hr.get h2 (by simp) h1
          simp only [BR] at hB
          show (A.sub.take n).length = n
          rw [List.length_take, hB.2.2.2.2.2.1, hxs, Nat.min_self]
    have hBsub : ∀ (j : Nat) (r : Rng) (k : Nat), B.sub[j]? = some (some r, k) → (j < n ∧ A.sub[j]? = some (some r, k)) ∨ (n ≤ j ∧ A2.sub[j - n]? = some (some r, k)) := by
      intro j r k hj
      have hj' : (subA ++ A2.sub)[j]? = some (some r, k) := hj
      rcases Nat.lt_or_ge j n with hl | hl
      · rw [List.getElem?_append_left (by omega)] at hj'
        refine .inl ⟨hl, ?_⟩
        have : (A.sub.take n)[j]? = some (some r, k) := hj'
        rwa [List.getElem?_take, if_pos hl] at this
      · rw [List.getElem?_append_right (by omega), hsl] at hj'
        exact .inr ⟨hl, hj'⟩
    -- what meets what
    have hA2S : ∀ g off, A2.has g off → ¬ q.has g off := by
      intro g off hh hq'
      rcases hq with ⟨b, _, hne, hAb, hb, rfl⟩ | ⟨e, _, _⟩ | ⟨e, _⟩
      · exact hr.apart b2 b _ _ A2 A hb2 rfl hb rfl (fun e => hne e.symm) hA2 hAb g off hh (.inl hq')
      · have := (hown2 g off hh).2.1; have : g = q.g := hq'.1; omega
      · have := hq'.2.1; have := hq'.2.2; omega
    have hAsub : ∀ (j : Nat) (r : Rng) (k : Nat), j < n → A.sub[j]? = some (some r, k) → (∀ g off, r.has g off → ¬ q.has g off) ∧ (∀ g off, r.has g off → ¬ A2.has g off) ∧ (∃ b ∈ olds, ∃ A', π b = some A' ∧ ∀ g off, r.has g off → A'.has g off) ∧
        ∀ (j' : Nat) (r' : Rng) (k' : Nat), A.sub[j']? = some (some r', k') → j ≠ j' → r.apart r' := by
      intro j r k hj hs
      obtain ⟨b, h0, h1, h2, h3⟩ := hsubA j _ _ (by omega) hs
      have hB := hr.get h3 (by simp) h2
      simp only [BR] at hB
      have hok := hB.2.2.2.2.2.2.1
      refine ⟨fun g off hrr hq' => ?_, fun g off hrr hh => hr.apart b b2 _ _ A A2 h3 rfl hb2 rfl h1 h2 hA2 g off (.inr ⟨j, r, k, hs, hrr⟩) hh, ⟨b, by rw [h0]; simp, A, h2, fun g off hrr => .inr ⟨j, r, k, hs, hrr⟩⟩, fun j' r' k' hs' hne => hok.subs j j' r r' k k' hs hs' hne⟩
      rcases hq with ⟨b', e0, _, hAb, hb, rfl⟩ | ⟨e, _, _⟩ | ⟨e, _⟩
      · exact hok.main j r k hs g off hq' hrr
      · have := (hr.own b _ A h3 rfl h2 g off (.inr ⟨j, r, k, hs, hrr⟩)).2.1; have : g = q.g := hq'.1; omega
      · have := hq'.2.1; have := hq'.2.2; omega
    obtain ⟨π', q1, q2, q3⟩ := hr.move (S := S) hT hfree olds hold
      (by
        intro g off hs
        rcases hq with ⟨b, e0, _, hAb, _, rfl⟩ | ⟨_, _, e⟩ | ⟨_, _, _, e⟩
        · exact ⟨b, by rw [e0]; simp, A, hAb, .inl (hSq g off hs)⟩
        · exact absurd hs (e g off)
        · exact absurd hs (e g off)) B (.rows T (W.app xs ys)) rfl
      (by
        intro π' _ _
        simp only [BR]
        refine ⟨hlapp.symm, rfl, rfl, k4, by rw [hlapp]; exact Nat.le_trans hc1 hc2, ?_, ⟨?_, ?_⟩, hex, fun j hj => ?_⟩
        · show (subA ++ A2.sub).length = _
          rw [List.length_append, hsl, k6, hlapp, hm]
        · intro j r k hj g off hmn hrr
          rcases hBsub j r k hj with ⟨hl, hs⟩ | ⟨hl, hs⟩
          · exact (hAsub j r k hl hs).1 g off hrr hmn
          · exact hA2S g off (.inr ⟨_, r, k, hs, hrr⟩) hmn
        · intro j j' r r' k k' hj hj' hne g off hrr hrr'
          rcases hBsub j r k hj with ⟨hl, hs⟩ | ⟨hl, hs⟩ <;> rcases hBsub j' r' k' hj' with ⟨hl', hs'⟩ | ⟨hl', hs'⟩
          · exact (hAsub j r k hl hs).2.2.2 j' r' k' hs' hne g off hrr hrr'
          · exact (hAsub j r k hl hs).2.1 g off hrr (.inr ⟨_, r', k', hs', hrr'⟩)
          · exact (hAsub j' r' k' hl' hs').2.1 g off hrr' (.inr ⟨_, r, k, hs, hrr⟩)
          · exact k7.subs _ _ r r' k k' hs hs' (by omega) g off hrr hrr'
        · rw [hlapp] at hj
          have hj' : j < (xs ++ ys).length := by simp [hxs, ← hm]; exact hj
          rcases Nat.lt_or_ge j n with hl | hl
          · have hlx : j < xs.length := by omega
            obtain ⟨r, c, h1, h2, h3⟩ := hinner j hlx
            have e1 : (W.app xs ys)[j]'(by rw [hlapp]; exact hj) = xs[j] := by simp only [W.app]; rw [List.getElem_append_left hlx]
            rw [e1]
            refine ⟨r, c, ?_, hcells j c (by rw [List.getElem?_append_left (by omega)]; exact h2), h3.turn hT fun q' g off hq' hh hs => ?_⟩
            · show (subA ++ A2.sub)[j]? = _
              rw [List.getElem?_append_left (by omega)]
              show (A.sub.take n)[j]? = _
              rw [List.getElem?_take, if_pos hl]; exact h1
            · subst hq'
              exact (hAsub j q' _ hl h1).1 g off hh (hSq g off hs)
          · have hly : j - n < ys.length := by omega
            obtain ⟨r, c, h1, h2, h3⟩ := f4 (j - n) hly
            have e1 : (W.app xs ys)[j]'(by rw [hlapp]; exact hj) = ys[j - n] := by
              simp only [W.app]; rw [List.getElem_append_right (by omega)]; congr 1; omega
            rw [e1]
            refine ⟨r, c, ?_, hcells j c (by rw [List.getElem?_append_right (by omega), hcl]; exact h2), h3.turn hT fun q' g off hq' hh hs => ?_⟩
            · show (subA ++ A2.sub)[j]? = _
              rw [List.getElem?_append_right (by omega), hsl]; exact h1
            · subst hq'
              exact hA2S g off (.inr ⟨_, q', _, h1, hh⟩) (hSq g off hs))
      (by
        intro g off hh
        rcases hh with hmn | ⟨j, r, k, hj, hrr⟩
        · rcases hq with ⟨b, e0, _, hAb, _, rfl⟩ | ⟨e, e2, _⟩ | ⟨e, _⟩
          · exact .inl ⟨b, by rw [e0]; simp, A, hAb, .inl hmn⟩
          · right; have : g = q.g := hmn.1; omega
          · have h1 : q.o ≤ off := hmn.2.1
            have h2 : off < q.o + q.n := hmn.2.2
            omega
        · rcases hBsub j r k hj with ⟨hl, hs⟩ | ⟨hl, hs⟩
          · obtain ⟨b, hb, A', hA', hin⟩ := (hAsub j r k hl hs).2.2.1
            exact .inl ⟨b, hb, A', hA', hin g off hrr⟩
          · refine .inl ⟨b2, ?_, A2, hA2, .inr ⟨_, r, k, hs, hrr⟩⟩
            rcases hA with ⟨h0, _⟩ | ⟨b', h0, _⟩ <;> rw [h0] <;> simp)
    refine ⟨π', q1, q2, ?_⟩
    simp only [VR]
    exact ⟨B, addr, cap', q3, rfl, rfl, rfl, hc1, hc3, by rw [Nat.mul_one]; exact hc2, haddr⟩
  have hnl : news.length = m := by omega
  have hcl1 : cs.length = n * 1 := by rw [Nat.mul_one]; exact hcl
  have hnl1 : news.length = m * 1 := by rw [Nat.mul_one]; exact hnl
  have hbz : 1 ≤ i.bytes := Nat.one_le_iff_ne_zero.2 hby0
  rcases append_run (P := P) (ty := ty) ht ht2 hu hu2 hi hz his hzs hnc hcl1 hb hnl1 hx' f3 hbz hbytes hroom with ⟨hr1, w', r1, r2⟩ | ⟨hr1, w', cells, cap', r1, r2, r3, r4, r5, r6⟩
  · rcases hA with ⟨rfl, rfl, rfl⟩ | ⟨b, rfl, hne, hAb, hb, hcn, hbase⟩
    · have hm0 : m = 0 := by omega
      have hT0 : Turn w w' (fun _ _ => False) := by
        rcases r2 with ⟨_, e⟩ | ⟨g, o, e1, r2, _⟩
        · rw [e]; exact Turn.refl _ _
        · exact r2.sub (by rintro g' o' ⟨_, h1, h2⟩; rw [hnl, hm0] at h2; omega)
      have hcs0 : cs ++ news = [] := by
        have : (cs ++ news).length = 0 := by rw [List.length_append, hcl, hnl, hm0]
        exact List.length_eq_zero_iff.1 this
      obtain ⟨π', q1, q2, q3⟩ := finish w' (fun _ _ => False) ⟨0, 0, 0⟩ 0 base hT0 (fun _ _ h => h.elim) (by omega) (by simp) (by simp) (fun h => by omega) (.inr (.inr ⟨rfl, rfl, hm0, fun _ _ h => h⟩)) (fun j hj => by simp at hj) (fun j u hu => by rw [hcs0] at hu; simp at hu)
      exact ⟨_, w', π', r1, q1, q2, q3⟩
    · have hT2 : Turn w w' (fun g' o' => g' = A.g ∧ A.o + n ≤ o' ∧ o' < A.o + n + m) ∧ ∀ j u, news[j]? = some u → wcell w' A.g (A.o + n + j) = some u := by
        rcases r2 with ⟨hn0, rfl⟩ | ⟨g, o, e1, r2, r3⟩
        · subst hn0; exact ⟨Turn.refl _ _, fun j u hu => by simp at hu⟩
        · rcases Nat.eq_zero_or_pos news.length with h0 | h0
          · refine ⟨r2.sub (by rintro g' o' ⟨_, h1, h2⟩; omega), fun j u hu => ?_⟩
            have := (List.getElem?_eq_some_iff.1 hu).1; omega
          · have := hbase (by omega)
            rw [e1] at this
            simp only [Option.some.injEq, Addr.mk.injEq] at this
            obtain ⟨rfl, rfl, _⟩ := this
            rw [Nat.mul_one] at r2 r3
            exact ⟨r2.sub (by rintro g' o' ⟨h1, h2, h3⟩; exact ⟨h1, h2, by omega⟩), r3⟩
      obtain ⟨hT2, hnew⟩ := hT2
      have hB := hr.get hb (by simp) hAb
      simp only [BR] at hB
      obtain ⟨π', q1, q2, q3⟩ := finish w' _ A.main cap base hT2 (by rintro g off ⟨h1, h2, h3⟩; exact ⟨h1, by simp only [At.main]; omega, by simp only [At.main]; omega⟩) hr1 hcn hcm hbase (.inl ⟨b, rfl, hne, hAb, hb, rfl⟩)
        (fun j hj => by obtain ⟨u, hu⟩ := hB.2.2.2.2.2.2.2.1 j hj; exact hT2.ex _ _ _ hu)
        (fun j u hu => by
          rcases Nat.lt_or_ge j cs.length with hl | hl
          · rw [List.getElem?_append_left hl] at hu
            have h1 := hcell (by omega) j u hu
            show wcell w' A.g (A.o + j) = some u
            rw [hT2.wc _ _ (wcell_lt h1) (fun e => by omega)]; exact h1
          · rw [List.getElem?_append_right hl] at hu
            have := hnew _ u hu
            show wcell w' A.g (A.o + j) = some u
            rw [Nat.add_assoc, show n + (j - cs.length) = j by omega] at this
            exact this)
      exact ⟨_, w', π', r1, q1, q2, q3⟩
  · subst r2
    have hwc : ∀ (j : Nat), wcell { w with drawn := w.drawn + 1, heap := w.heap.push (.cells cells e) } w.heap.size j = cells[j]? := fun j => wcell_some (c := cells) (e := e) (by simp) j
    obtain ⟨π', q1, q2, q3⟩ := finish _ (fun _ _ => False) ⟨w.heap.size, 0, cap'⟩ cap' (some ⟨w.heap.size, 0, none⟩) (turn_grown (cells := cells) (e := e) _) (fun _ _ h => h.elim) r3 (Nat.le_refl _) r4 (fun _ => rfl) (.inr (.inl ⟨rfl, by simp, fun _ _ h => h⟩))
      (fun j hj => by dsimp only; rw [hwc, Nat.zero_add]; exact ⟨_, Array.getElem?_eq_getElem (by rw [r5, Nat.mul_one]; exact hj)⟩)
      (fun j u hu => by dsimp only; rw [hwc, Nat.zero_add]; exact r6 j u hu)
    exact ⟨_, _, π', r1, q1, q2, q3⟩
end
end Go.Eng
