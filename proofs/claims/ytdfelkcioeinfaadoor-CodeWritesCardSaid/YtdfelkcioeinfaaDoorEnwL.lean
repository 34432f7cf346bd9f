/- The engine, part L: append, copy. -/
import Derived.Test.YtdfelkcioeinfaaDoorEnwK
set_option linter.unusedVariables false
set_option linter.unusedSimpArgs false
namespace Go.Eng
open Go Go.RowKit

section
variable {Φ : Fr} {w w' w1 : World} {π : Pi} {P : Program} {h : List Blk} {slot : Nat} {v : V} {u : Upd}

theorem addr_add {g o n : Nat} : (⟨g, o, none⟩ : Addr).add n = ⟨g, o + n, none⟩ := by unfold Addr.add; split <;> simp_all
/-- The first cells of a slice. -/
theorem first_run {size n len cap : Nat} {a : Option Addr} {cs : List Value} (hl : cs.length = n * size) (hc : 0 < cs.length → ∃ g o, a = some ⟨g, o, none⟩ ∧ ∀ j u, cs[j]? = some u → w.cell? ⟨g, o + j, none⟩ = some u) :
    (Builtin.firstCells size n (.slice a len cap)).run P w = .ok cs.toArray w := by
  rcases Nat.eq_zero_or_pos cs.length with h0 | h0
  · have : cs = [] := List.length_eq_zero_iff.1 h0
    subst this
    cases a with
    | none => simp [Builtin.firstCells]
    | some ad => exact run_firstCells_some (P := P) w size n ad len cap [] hl (fun j v hj => by simp at hj)
  · obtain ⟨g, o, rfl, h1⟩ := hc h0
    exact run_firstCells_some (P := P) w size n ⟨g, o, none⟩ len cap cs hl (fun j v hj => by rw [addr_add]; exact h1 j v hj)

theorem append_run {t t2 e e2 ty : TypeId} {i : TypeInfo} {z : Value} {size : Nat} {ts : Array TypeId} (ht : ts[0]? = some t) (ht2 : ts[1]? = some t2) (hu : P.underlying t = some (.slice e)) (hu2 : P.underlying t2 = some (.slice e2)) (hi : P.info? e = some i) (hz : i.zero = some z) (hsz : i.size = size)
    (hzs : z.cells.size = size) {base : Option Addr} {n cap : Nat} (hnc : n ≤ cap) {olds : List Value} (hol : olds.length = n * size)
    (hb : 0 < olds.length → ∃ g o, base = some ⟨g, o, none⟩ ∧ ∀ j u, olds[j]? = some u → w.cell? ⟨g, o + j, none⟩ = some u) {ax : Option Addr} {m cx : Nat} {news : List Value} (hnl : news.length = m * size)
    (hx : 0 < news.length → ∃ g o, ax = some ⟨g, o, none⟩ ∧ ∀ j u, news[j]? = some u → w.cell? ⟨g, o + j, none⟩ = some u) (hone : ∀ c ∈ news, c.oneCell' = true) (hb1 : 1 ≤ i.bytes) (hbytes : (n + m) * i.bytes ≤ 140737488355328)
    (hroom : n + m ≤ cap → 0 < news.length → ∃ g o, base = some ⟨g, o, none⟩ ∧ ∀ j, j < news.length → ∃ u, wcell w g (o + n * size + j) = some u) :
    (n + m ≤ cap ∧ ∃ w', (Builtin.append_ ts ty #[.slice base n cap, .slice ax m cx]).run P w = .ok (.slice base (n + m) cap) w' ∧
      ((news = [] ∧ w' = w) ∨ ∃ g o, base = some ⟨g, o, none⟩ ∧ Turn w w' (fun g' o' => g' = g ∧ o + n * size ≤ o' ∧ o' < o + n * size + news.length) ∧ ∀ j u, news[j]? = some u → wcell w' g (o + n * size + j) = some u)) ∨
    (cap < n + m ∧ ∃ w' cells cap', (Builtin.append_ ts ty #[.slice base n cap, .slice ax m cx]).run P w = .ok (.slice (some ⟨w.heap.size, 0, none⟩) (n + m) cap') w' ∧ w' = { w with drawn := w.drawn + 1, heap := w.heap.push (.cells cells e) } ∧
      n + m ≤ cap' ∧ cap' ≤ maxLen ∧ cells.size = cap' * size ∧ ∀ (j : Nat) u, (olds ++ news)[j]? = some u → cells[j]? = some u) := by
  subst hsz
  have hfn := first_run (P := P) (len := m) (cap := cx) hnl hx
  have hfo := first_run (P := P) (len := n) (cap := cap) hol hb
  have hnm : n + m ≤ 140737488355328 := Nat.le_trans (Nat.le_mul_of_pos_right _ hb1) hbytes
  by_cases hr : n + m ≤ cap
  · refine .inl ⟨hr, ?_⟩
    cases hbase : base with
    | none =>
      have hn0 : news = [] := by
        rcases Nat.eq_zero_or_pos news.length with h0 | h0
        · exact List.length_eq_zero_iff.1 h0
        · obtain ⟨g, o, e1, _⟩ := hroom hr h0; rw [hbase] at e1; cases e1
      refine ⟨w, ?_, .inl ⟨hn0, rfl⟩⟩
      simp [Builtin.append_, ht, ht2, run_underlying hu, run_underlying hu2, sizeOf, typeInfo, hi, Builtin.lenOf, hr, hfn]
    | some ad =>
      rcases Nat.eq_zero_or_pos news.length with h0 | h0
      · have hn0 : news = [] := List.length_eq_zero_iff.1 h0
        subst hn0
        refine ⟨w, ?_, .inl ⟨rfl, rfl⟩⟩
        simp [Builtin.append_, ht, ht2, run_underlying hu, run_underlying hu2, sizeOf, typeInfo, hi, Builtin.lenOf, hr, hfn, storeCells]
      · obtain ⟨g, o, e1, hcl⟩ := hroom hr h0
        rw [hbase] at e1
        simp only [Option.some.injEq] at e1
        subst e1
        obtain ⟨w', r1, r2, r3, r4⟩ := run_storeCells (P := P) (g := g) news (o + n * i.size) 0 w (fun j hj => by rw [Nat.add_zero]; exact hcl j hj) hone
        refine ⟨w', ?_, .inr ⟨g, o, rfl, r2.sub (by rintro g' o' ⟨h1, h2, h3⟩; exact ⟨h1, by omega, by omega⟩), fun j u hu => by have := r3 j u hu; simpa using this⟩⟩
        simp [Builtin.append_, ht, ht2, run_underlying hu, run_underlying hu2, sizeOf, typeInfo, hi, Builtin.lenOf, hr, hfn, addr_add, r1]
  · refine .inr ⟨by omega, ?_⟩
    have hge := grownCap_ge w (n + m) cap e
    have hcm := grownCap_le_maxLen w (n + m) cap e (by simp only [maxLen]; omega)
    have hfit := growslice_fits (show cap < n + m by omega) hbytes
    have hcap : (Question.appendCap (n + m) cap e).cut (w.tape w.drawn (.appendCap (n + m) cap e)) = grownCap w (n + m) cap e := rfl
    refine ⟨_, olds.toArray ++ news.toArray ++ Builtin.zeroCells z.cells (grownCap w (n + m) cap e - (n + m)), grownCap w (n + m) cap e, ?_, rfl, hge, hcm, ?_, fun j u hu => ?_⟩
    · have h1 : ¬ (((n + m : Nat) : Int) > IntKind.i64.max ∧ ((false = true) ∨ i.bytes = 0)) := by
        rintro ⟨_, h2⟩; rcases h2 with h2 | h2
        · cases h2
        · omega
      have h2 : ¬ Builtin.nextslicecap (n + m) cap * i.bytes > 2 ^ 48 := by omega
      have hfo' : (Builtin.firstCells i.size n (.slice base n cap)).run P { w with drawn := w.drawn + 1 } = .ok olds.toArray { w with drawn := w.drawn + 1 } :=
        first_run (w := { w with drawn := w.drawn + 1 }) hol hb
      have hfn' : (Builtin.firstCells i.size m (.slice ax m cx)).run P { w with drawn := w.drawn + 1 } = .ok news.toArray { w with drawn := w.drawn + 1 } :=
        first_run (w := { w with drawn := w.drawn + 1 }) hnl hx
      have hch : (choose (.appendCap (n + m) cap e)).run P w = .ok (grownCap w (n + m) cap e) { w with drawn := w.drawn + 1 } := by
        simp [choose, Sem.run, Question.forced, hcap]
      simp only [Builtin.append_, ht, ht2, List.getElem?_toArray, List.getElem?_cons_zero, List.getElem?_cons_succ, Sem.run_bind, run_underlying hu, run_underlying hu2, Result.andThen_ok, sizeOf, typeInfo, hi, run_program, Sem.run_pure, Builtin.lenOf, Bool.false_eq_true, false_or, if_false]
      rw [if_neg hr]
      simp only [Sem.run_bind, Sem.run_pure, Result.andThen_ok, run_program, hi]
      rw [if_neg (by rintro ⟨_, h3⟩; omega)]
      simp only [Sem.run_bind, Sem.run_pure, Result.andThen_ok, run_program, hi]
      rw [if_neg h2]
      simp only [Sem.run_bind, Sem.run_pure, Result.andThen_ok, hch, run_room, hfo', hfn', zeroValue, typeInfo, run_program, hi, hz, newRow]
      have hfn'' : (Builtin.firstCells i.size m (.slice ax m cx)).run P w.drew = .ok news.toArray w.drew := hfn'
      simp [hfn'']
      have ha : olds.toArray ++ (news.toArray ++ Builtin.zeroCells z.cells (grownCap w (n + m) cap e - (n + m))) = (olds ++ news).toArray ++ Builtin.zeroCells z.cells (grownCap w (n + m) cap e - (n + m)) := by
        rw [← Array.append_assoc]; congr 1; simp
      rw [ha]; rfl
    · simp only [Array.size_append, List.size_toArray, size_zeroCells, hzs, hol, hnl, ← Nat.add_mul]
      congr 1; omega
    · have : (olds.toArray ++ news.toArray ++ Builtin.zeroCells z.cells (grownCap w (n + m) cap e - (n + m)))[j]? = (olds ++ news)[j]? := by
        have hj := (List.getElem?_eq_some_iff.1 hu).1
        rw [← Array.getElem?_toList]
        simp only [Array.toList_append, List.toList_toArray]
        rw [List.getElem?_append_left hj]
      rw [this]; exact hu

/-- Blocks behind an append that made a new row. -/
theorem turn_grown {cells : Array Value} {e : TypeId} (S : Nat → Nat → Prop) : Turn w { w with drawn := w.drawn + 1, heap := w.heap.push (.cells cells e) } S :=
  Turn.of_heap (w := w) (w' := { w with drawn := w.drawn + 1, heap := w.heap.push (.cells cells e) }) rfl rfl rfl (by simp) (fun g hg => by simp [Array.getElem?_push, Nat.ne_of_lt hg]) S

theorem Els.of_cells {F : Fz} {g o : Nat} {t : Ty} {xs : List t.D} {cs : List Value} (hs : Seg F t xs cs) (hc : ∀ j u, cs[j]? = some u → wcell w g (o + j) = some u) : Els F w g o t xs := hs.els hc
theorem info_of {e : TypeId} {n : Nat} (hs : sizeB P e = some n) : ∃ i, P.info? e = some i ∧ i.size = n ∧ bytesB P e = i.bytes := by
  cases hi : P.info? e with
  | none => simp [sizeB, hi] at hs
  | some i => exact ⟨i, rfl, by simpa [sizeB, hi] using hs, by simp [bytesB, hi]⟩

/-- Onto a row: one's own, or none. -/
theorem appendRow {t t2 e e2 ty : TypeId} {ts : Array TypeId} (ht : ts[0]? = some t) (ht2 : ts[1]? = some t2) (hu : P.underlying t = some (.slice e)) (hu2 : P.underlying t2 = some (.slice e2)) {T : Ty} (hT : elemT P e = some T) {x0 : T.D} (hx0 : zeroT P e T = some x0)
    (hby0 : bytesB P e ≠ 0) (hr : HR Φ w1 π h w) (hfree : h[slot]? = some .free) {ys : List T.D} {cx : Value} (hx : Holds' (Φ false) w T ys cx) {base : Option Addr} {n cap : Nat} (hnc : n ≤ cap) (hcm : cap ≤ maxLen) {xs : List T.D} (hxs : xs.length = n)
    (olds : List Nat) (A : At)
    (hA : (olds = [] ∧ n = 0 ∧ cap = 0) ∨ ∃ b blk, olds = [b] ∧ π b = some A ∧ h[b]? = some blk ∧ blk.owns = true ∧ A.sub = [] ∧ cap * T.size ≤ A.n ∧ (0 < cap → base = some ⟨A.g, A.o, none⟩) ∧ (∀ j, j < A.n → ∃ u, wcell w A.g (A.o + j) = some u) ∧ Els (Φ false) w A.g A.o T xs)
    (hbytes : (n + ys.length) * bytesB P e ≤ 140737488355328) :
    ∃ cv w' π', (Builtin.append_ ts ty #[.slice base n cap, cx]).run P w = .ok cv w' ∧ π.le π' ∧ HR Φ w1 π' ((killB h olds).set slot (.row T (W.app xs ys))) w' ∧ VR Φ π' (.sl slot T.size (n + ys.length)) cv := by
  obtain ⟨hTs, hsz⟩ := elemT_sound hT
  obtain ⟨i, hi, his, hby⟩ := info_of hsz
  obtain ⟨i', z, hi', hz, hTR⟩ := zeroT_sound hx0
  rw [hi] at hi'; cases hi'
  have hzs : z.cells.size = T.size := by have := TR.length (hTR (Φ false)); simpa using this
  rw [hby] at hbytes hby0
  obtain ⟨ax, cxx, rfl, g1, g2, news, g3, g4⟩ := hx
  have hone := g3.one' hTs
  have hx' : 0 < news.length → ∃ g o, ax = some ⟨g, o, none⟩ ∧ ∀ j u, news[j]? = some u → w.cell? ⟨g, o + j, none⟩ = some u := fun h0 => g4 (by
    rcases Nat.eq_zero_or_pos ys.length with e | e
    · rw [g3.1, e] at h0; simp at h0
    · exact e)
  obtain ⟨cs, hcs, hcell⟩ : ∃ cs, Seg (Φ false) T xs cs ∧ (0 < n → ∀ j u, cs[j]? = some u → wcell w A.g (A.o + j) = some u) := by
    rcases hA with ⟨_, h0, _⟩ | ⟨b, blk, _, _, _, _, _, _, _, _, hE⟩
    · have : xs = [] := List.length_eq_zero_iff.1 (by omega)
      subst this
      exact ⟨[], Seg.nil, fun h => by omega⟩
    · obtain ⟨cs, h5, h6⟩ := els_seg (C := fun g o => wcell w g o) (o := A.o) hE
      exact ⟨cs, h5, fun _ => h6⟩
  have hol : cs.length = n * T.size := by rw [hcs.1, hxs]
  have hpos : 0 < cs.length → 0 < n := fun h0 => by
    rcases Nat.eq_zero_or_pos n with e | e
    · rw [hol, e] at h0; simp at h0
    · exact e
  have hb : 0 < cs.length → ∃ g o, base = some ⟨g, o, none⟩ ∧ ∀ j u, cs[j]? = some u → w.cell? ⟨g, o + j, none⟩ = some u := fun h0 => by
    have hn0 := hpos h0
    rcases hA with ⟨_, h1, _⟩ | ⟨b, blk, _, _, _, _, _, _, h2, _⟩
    · omega
    · exact ⟨A.g, A.o, h2 (by omega), fun j u hu => wcell_cell (hcell hn0 j u hu)⟩
  have hroom : n + ys.length ≤ cap → 0 < news.length → ∃ g o, base = some ⟨g, o, none⟩ ∧ ∀ j, j < news.length → ∃ u, wcell w g (o + n * T.size + j) = some u := fun hr h0 => by
    have hy0 : 0 < ys.length := by
      rcases Nat.eq_zero_or_pos ys.length with e | e
      · rw [g3.1, e] at h0; simp at h0
      · exact e
    rcases hA with ⟨_, _, h1⟩ | ⟨b, blk, _, _, _, _, _, h3, h2, h4, _⟩
    · omega
    · refine ⟨A.g, A.o, h2 (by omega), fun j hj => ?_⟩
      rw [Nat.add_assoc]
      refine h4 _ ?_
      rw [g3.1] at hj
      have : (n + ys.length) * T.size ≤ cap * T.size := Nat.mul_le_mul_right _ hr
      rw [Nat.add_mul] at this
      omega
  have hown : ∀ b ∈ olds, ∃ blk A', h[b]? = some blk ∧ blk.owns = true ∧ π b = some A' := by
    intro b hb
    rcases hA with ⟨h0, _⟩ | ⟨b', blk, h0, h1, h2, h3, _⟩
    · subst h0; simp at hb
    · subst h0; simp at hb; subst hb; exact ⟨blk, A, h2, h3, h1⟩
  have happ := hcs.append g3
  have hlapp : (W.app xs ys).length = n + ys.length := by simp [W.app, hxs]
  rcases append_run (P := P) (ty := ty) ht ht2 hu hu2 hi hz his hzs hnc hol hb g3.1 hx' hone (by omega) hbytes hroom with ⟨hr1, w', r1, r2⟩ | ⟨hr1, w', cells, cap', r1, r2, r3, r4, r5, r6⟩
  · -- in place
    rcases hA with ⟨rfl, rfl, rfl⟩ | ⟨b, blk, rfl, hAb, hbb, hbo, hsub, hcapn, hbase, hex, hE⟩
    · have hy0 : ys = [] := List.length_eq_zero_iff.1 (by omega)
      have hx0' : xs = [] := List.length_eq_zero_iff.1 hxs
      subst hy0; subst hx0'
      have hT0 : Turn w w' (fun _ _ => False) := by
        rcases r2 with ⟨_, e⟩ | ⟨g, o, e1, r2, _⟩
        · rw [e]; exact Turn.refl _ _
        · have : news.length = 0 := by rw [g3.1]; simp
          exact r2.sub (by rintro g' o' ⟨_, h1, h2⟩; omega)
      obtain ⟨π', q1, q2, q3⟩ := hr.move (S := fun _ _ => False) hT0 hfree [] (by simp) (by simp) ⟨0, 0, 0, 0, T.size, 0, []⟩ (.row T (W.app [] [])) rfl
        (by
          intro π' _ _
          simp only [BR, W.app, List.append_nil, List.length_nil, true_and]
          exact ⟨hTs, by simp, fun j hj => by omega, fun i hi => by simp at hi⟩)
        (by
          intro g off hh
          rcases hh with ⟨_, h1, h2⟩ | ⟨i, r, m, hi, _⟩
          · simp only [At.main] at h1 h2; omega
          · simp at hi)
      refine ⟨_, _, π', r1, q1, q2, ?_⟩
      simp only [VR]
      exact ⟨_, _, _, q3, rfl, rfl, rfl, by simp, by simp, by simp, fun h => by omega⟩
    · have hT2 : Turn w w' A.has ∧ ∀ j u, news[j]? = some u → wcell w' A.g (A.o + n * T.size + j) = some u := by
        rcases r2 with ⟨hn0, rfl⟩ | ⟨g, o, e1, r2, r3⟩
        · subst hn0; exact ⟨Turn.refl _ _, fun j u hu => by simp at hu⟩
        · rcases Nat.eq_zero_or_pos news.length with h0 | h0
          · refine ⟨r2.sub (by rintro g' o' ⟨_, h1, h2⟩; omega), fun j u hu => ?_⟩
            have := (List.getElem?_eq_some_iff.1 hu).1; omega
          · have hy0 : 0 < ys.length := by
              rcases Nat.eq_zero_or_pos ys.length with e | e
              · rw [g3.1, e] at h0; simp at h0
              · exact e
            have := hbase (by omega)
            rw [e1] at this
            simp only [Option.some.injEq, Addr.mk.injEq] at this
            obtain ⟨rfl, rfl, _⟩ := this
            refine ⟨r2.sub ?_, r3⟩
            rintro g' o' ⟨rfl, h1, h2⟩
            have h3 : (n + ys.length) * T.size ≤ cap * T.size := Nat.mul_le_mul_right _ hr1
            rw [Nat.add_mul, ← g3.1] at h3
            exact .inl ⟨rfl, by simp only [At.main]; omega, by simp only [At.main]; omega⟩
      obtain ⟨hT2, hnew⟩ := hT2
      have hcap2 : (n + ys.length) * T.size ≤ A.n := Nat.le_trans (Nat.mul_le_mul_right _ hr1) hcapn
      have hkeep : ∀ j u, cs[j]? = some u → wcell w' A.g (A.o + j) = some u := by
        intro j u hu
        have hj := (List.getElem?_eq_some_iff.1 hu).1
        have h1 := hcell (hpos (by omega)) j u hu
        rcases r2 with ⟨_, rfl⟩ | ⟨g, o, e1, r2, _⟩
        · exact h1
        · rw [r2.wc _ _ (wcell_lt h1) (fun e => ?_)]
          · exact h1
          · obtain ⟨e2, e3, e4⟩ := e
            have := hbase (by have := hpos (by omega); omega)
            rw [e1] at this
            simp only [Option.some.injEq, Addr.mk.injEq] at this
            obtain ⟨rfl, rfl, _⟩ := this
            omega
      obtain ⟨π', q1, q2, q3⟩ := hr.move (S := A.has) hT2 hfree [b] hown (fun g off hs => ⟨b, by simp, A, hAb, hs⟩) { A with len := n + ys.length, sz := T.size } (.row T (W.app xs ys)) rfl
        (by
          intro π' _ _
          simp only [BR]
          refine ⟨hsub, hlapp.symm, trivial, hTs, by rw [hlapp]; exact hcap2, fun j hj => ?_, Els.of_cells happ fun j u hu => ?_⟩
          · obtain ⟨u, hu⟩ := hex j hj; exact hT2.ex _ _ _ hu
          · rcases Nat.lt_or_ge j cs.length with hl | hl
            · rw [List.getElem?_append_left hl] at hu; exact hkeep j u hu
            · rw [List.getElem?_append_right hl] at hu
              have := hnew _ u hu
              rw [← hol, Nat.add_assoc, show cs.length + (j - cs.length) = j by omega] at this
              exact this)
        (by
          intro g off hh
          exact .inl ⟨b, by simp, A, hAb, hh⟩)
      refine ⟨_, _, π', r1, q1, q2, ?_⟩
      simp only [VR]
      exact ⟨_, _, _, q3, rfl, rfl, rfl, hr1, hcm, hcapn, hbase⟩
  · subst r2
    obtain ⟨π', q1, q2, q3⟩ := hr.move (S := fun _ _ => False) (turn_grown (cells := cells) (e := e) _) hfree olds hown (fun _ _ h => h.elim) ⟨w.heap.size, 0, cap' * T.size, n + ys.length, T.size, 0, []⟩ (.row T (W.app xs ys)) rfl
      (by
        intro π' _ _
        have hwc : ∀ (j : Nat), wcell { w with drawn := w.drawn + 1, heap := w.heap.push (.cells cells e) } w.heap.size j = cells[j]? := fun j => wcell_some (c := cells) (e := e) (by simp) j
        simp only [BR]
        refine ⟨trivial, hlapp.symm, trivial, hTs, by rw [hlapp]; exact Nat.mul_le_mul_right _ r3, fun j hj => ?_, Els.of_cells happ fun j u hu => ?_⟩
        · rw [hwc, Nat.zero_add]; exact ⟨_, Array.getElem?_eq_getElem (by rw [r5]; exact hj)⟩
        · rw [hwc, Nat.zero_add]; exact r6 j u hu)
      (by
        intro g off hh
        rcases hh with ⟨h3, _⟩ | ⟨i, r, m, hi, _⟩
        · right; rw [h3]; simp [At.main]
        · simp at hi)
    refine ⟨_, _, π', r1, q1, q2, ?_⟩
    simp only [VR]
    exact ⟨_, _, _, q3, rfl, rfl, rfl, r3, r4, Nat.le_refl _, fun _ => rfl⟩
end
end Go.Eng
