/- The engine, part N: append and copy as the operations ask; maps; values behind interfaces. -/
import Derived.Test.YtdfelkcioeinfaaDoorEnwM
set_option linter.unusedVariables false
set_option linter.unusedSimpArgs false
namespace Go.Eng
open Go Go.RowKit

section
variable {Φ : Fr} {w w' w1 : World} {π : Pi} {P : Program} {h : List Blk} {slot : Nat} {v : V} {u : Upd}

theorem append_sound {t t2 ty : TypeId} {ts : Array TypeId} (ht : ts[0]? = some t) (ht2 : ts[1]? = some t2) {s x : V} {cs cx : Value} (hr : HR Φ w1 π h w) (hs : VR Φ π s cs) (hx : VR Φ π x cx) (he : EffTo P slot h (appendAct P t t2 s x h) v u) :
    ∃ cv w', (Builtin.append_ ts ty #[cs, cx]).run P w = .ok cv w' ∧ Post Φ w1 π h v u cv w' := by
  unfold appendAct at he
  split at he
  · rename_i e e2 hu hu2
    split at he
    · exact he.elim
    rename_i hby0
    have hby0 : bytesB P e ≠ 0 := by simpa using hby0
    split at he
    · rename_i T hT
      split at he
      · rename_i b2 sz2 m hsz hz1
        split at he
        · rename_i T2 ys hb2
          split at he
          · rename_i hTT; subst hTT
            obtain ⟨i, hi, his, hby⟩ := info_of hsz
            unfold zeroB at hz1
            rw [hi] at hz1
            cases hzz : i.zero with
            | none => simp [hzz] at hz1
            | some z =>
              simp only [hzz, Option.bind_some, Option.map_some, Option.some.injEq] at hz1
              have hzv : z = .slice none 0 0 := by
                have := ofConst_sound (Φ := Φ) (π := π) z
                rw [hz1] at this
                simpa [VR] using this
              subst hzv
              rw [hby] at hby0
              simp only [VR] at hx
              obtain ⟨A2, ax, cxx, hA2, f1, f2, rfl, f4, f5, f6, f7⟩ := hx
              have hB2 := hr.get hb2 (by simp) hA2
              simp only [BR] at hB2
              have hm : m = ys.length := by rw [← f2]; exact hB2.1
              have nilCase : ∀ {a : Option Addr}, cs = .slice a 0 0 → EffTo P slot h (.ite (W.leN (W.mulN m (bytesB P e)) roomA) (.mod (fun slot => if isFree' h slot && slot != b2 then some ((h.set b2 .dead).set slot (.rows T2 ys)) else none) (fun slot => .sl slot 1 m)) .fail) v u →
                  ∃ cv w', (Builtin.append_ ts ty #[cs, .slice ax m cxx]).run P w = .ok cv w' ∧ Post Φ w1 π h v u cv w' := by
                intro a hcs he
                rcases he with ⟨hb, h', hh', rfl, rfl⟩ | ⟨_, hf⟩
                · simp only [W.leN_t, W.mulN, roomA] at hb
                  dsimp only at hh'
                  split at hh'
                  · rename_i hcond
                    simp only [Bool.and_eq_true, bne_iff_ne, ne_eq] at hcond
                    simp only [Option.some.injEq] at hh'
                    subst hh'
                    obtain ⟨cv, w', π', r1, r2, r3, r4⟩ := appendRows (P := P) (ty := ty) (xs := []) ht ht2 hu hu2 hi hzz his rfl hby0 hr (isFree'_iff.1 hcond.1) hb2 hA2 hm f4 f7 (base := a) (n := 0) (cap := 0) (by simp) (by simp) rfl [b2] ⟨0, 0, 0, 0, 0, 0, []⟩ (.inl ⟨rfl, rfl, rfl⟩) (by rw [Nat.zero_add, ← hby]; exact hb)
                    rw [Nat.zero_add] at r4
                    rw [hcs]
                    exact ⟨cv, w', r1, Post.mk r2 (by simpa [Upd.on, killB, W.app] using r3) r4⟩
                  · cases hh'
                · exact hf.elim
              split at he
              · simp only [VR] at hs
                exact nilCase hs he
              · simp only [VR] at hs
                obtain ⟨a, hs⟩ := hs
                exact nilCase hs he
              · rename_i b sz n
                simp only [VR] at hs
                obtain ⟨A, a, cap, hA, e1, e2', rfl, e4, e5, e6, e7⟩ := hs
                split at he
                · rename_i T1 xs hb1
                  split at he
                  · rename_i hTT; subst hTT
                    obtain ⟨A', hA', hlk⟩ := resB_sound hr 1000 b A hA
                    have hB := hr.get hb1 (by simp) hA'
                    simp only [BR] at hB
                    rcases he with ⟨hb, h', hh', rfl, rfl⟩ | ⟨_, hf⟩
                    · simp only [W.leN_t, W.mulN, W.addN, roomA] at hb
                      dsimp only at hh'
                      split at hh'
                      · rename_i hcond
                        simp only [Bool.and_eq_true, bne_iff_ne, ne_eq] at hcond
                        simp only [Option.some.injEq] at hh'
                        subst hh'
                        have hsz1 : sz = 1 := by rw [← e1, ← hlk.sz]; exact hB.2.1
                        subst hsz1
                        obtain ⟨cv, w', π', r1, r2, r3, r4⟩ := appendRows (P := P) (ty := ty) (xs := xs) ht ht2 hu hu2 hi hzz his rfl hby0 hr (isFree'_iff.1 hcond.1.1.1) hb2 hA2 hm f4 f7 (base := a) (n := n) (cap := cap) e4 e5 (by rw [← hB.1, hlk.len, e2']) [b2, resB h 1000 b] A'
                          (.inr ⟨_, rfl, fun e => hcond.2 e.symm, hA', hb1, by rw [hlk.n]; omega, fun h0 => by rw [hlk.g, hlk.o]; exact e7 h0⟩) (by rw [← hby]; exact hb)
                        exact ⟨cv, w', r1, Post.mk r2 (by simpa [Upd.on, killB] using r3) (by simpa only [W.addN] using r4)⟩
                      · cases hh'
                    · exact hf.elim
                  · exact he.elim
                · exact he.elim
              · exact he.elim
          · exact he.elim
        · exact he.elim
      · exact he.elim
    · split at he
      · rename_i T hT
        split at he
        · exact he.elim
        rename_i hz0
        obtain ⟨x0, hx0⟩ : ∃ x0, zeroT P e T = some x0 := by
          cases hq : zeroT P e T with
          | none => rw [hq] at hz0; exact absurd rfl hz0
          | some x0 => exact ⟨x0, rfl⟩
        split at he
        · rename_i ys m hys hm
          obtain ⟨hhold, hlen⟩ := elems_sound hr hx hys
          have hm' := hlen m hm
          have nilCase : ∀ {a : Option Addr}, cs = .slice a 0 0 → EffTo P slot h (.ite (W.leN (W.mulN m (bytesB P e)) roomA) (.new [.row T ys] (fun slot => .sl slot T.size m)) .fail) v u →
              ∃ cv w', (Builtin.append_ ts ty #[cs, cx]).run P w = .ok cv w' ∧ Post Φ w1 π h v u cv w' := by
            intro a hcs he
            rcases he with ⟨hb, hf, rfl, rfl⟩ | ⟨_, hf⟩
            · simp only [W.leN_t, W.mulN, roomA] at hb
              have hfree : h[slot]? = some .free := isFree_all hf
              obtain ⟨cv, w', π', r1, r2, r3, r4⟩ := appendRow (P := P) (ty := ty) (xs := []) ht ht2 hu hu2 hT hx0 hby0 hr hfree hhold (base := a) (n := 0) (cap := 0) (by simp) (by simp) rfl [] ⟨0, 0, 0, 0, 0, 0, []⟩ (.inl ⟨rfl, rfl, rfl⟩) (by rw [Nat.zero_add, ← hm']; exact hb)
              rw [Nat.zero_add, ← hm'] at r4
              rw [hcs]
              exact ⟨cv, w', r1, Post.mk r2 (by simpa [Upd.on, setN_one, killB, W.app] using r3) r4⟩
            · exact hf.elim
          split at he
          · simp only [VR] at hs
            exact nilCase hs he
          · simp only [VR] at hs
            obtain ⟨a, hs⟩ := hs
            exact nilCase hs he
          · rename_i b sz n
            simp only [VR] at hs
            obtain ⟨A, a, cap, hA, e1, e2', rfl, e4, e5, e6, e7⟩ := hs
            split at he
            · rename_i T1 xs hb1
              split at he
              · rename_i hTT; subst hTT
                have hB := hr.get hb1 (by simp) hA
                simp only [BR] at hB
                obtain ⟨g1, g2, g3, g4, g5, g6, g7⟩ := hB
                rcases he with ⟨hb, h', hh', rfl, rfl⟩ | ⟨_, hf⟩
                · simp only [W.leN_t, W.mulN, W.addN, roomA] at hb
                  dsimp only at hh'
                  split at hh'
                  · rename_i hcond
                    simp only [Bool.and_eq_true, bne_iff_ne, ne_eq] at hcond
                    simp only [Option.some.injEq] at hh'
                    subst hh'
                    have hsz1 : sz = T1.size := by rw [← e1, g3]
                    subst hsz1
                    obtain ⟨cv, w', π', r1, r2, r3, r4⟩ := appendRow (P := P) (ty := ty) (xs := xs) ht ht2 hu hu2 hT hx0 hby0 hr (isFree'_iff.1 hcond.1) hhold (base := a) (n := n) (cap := cap) e4 e5 (by rw [← g2, e2']) [b] A
                      (.inr ⟨b, _, rfl, hA, hb1, rfl, g1, e6, e7, g6, g7⟩) (by rw [← hm']; exact hb)
                    exact ⟨cv, w', r1, Post.mk r2 (by simpa [Upd.on, killB] using r3) (by rw [← hm'] at r4; simpa only [W.addN] using r4)⟩
                  · cases hh'
                · exact hf.elim
              · exact he.elim
            · exact he.elim
          · exact he.elim
        · exact he.elim
      · exact he.elim
  · exact he.elim

/-! ### copy -/
theorem over_length {α : Type} {l s : List α} {i : Nat} (h : i + s.length ≤ l.length) : (W.over l i s).length = l.length := by
  simp [W.over]; omega
theorem over_get {α : Type} {l s : List α} {i q : Nat} (h : i + s.length ≤ l.length) : (W.over l i s)[q]? = if i ≤ q ∧ q < i + s.length then s[q - i]? else l[q]? := by
  simp only [W.over]
  rcases Nat.lt_or_ge q i with h1 | h1
  · rw [List.getElem?_append_left (by simp; omega), if_neg (by omega), List.getElem?_take, if_pos h1]
  · rw [List.getElem?_append_right (by simp; omega)]
    simp only [List.length_take, Nat.min_eq_left (show i ≤ l.length by omega)]
    rcases Nat.lt_or_ge q (i + s.length) with h2 | h2
    · rw [List.getElem?_append_left (by omega), if_pos ⟨h1, h2⟩]
    · rw [List.getElem?_append_right (by omega), if_neg (by omega), List.getElem?_drop]
      congr 1; omega
theorem Els.over {F : Fz} {g o i : Nat} {t : Ty} {xs ys : List t.D} {news : List Value} (he : Els F w g o t xs) (hi : i + ys.length ≤ xs.length) (ht : Turn w w' (fun g' o' => g' = g ∧ o + i * t.size ≤ o' ∧ o' < o + i * t.size + news.length)) (hs : Seg F t ys news)
    (hw : ∀ j u, news[j]? = some u → wcell w' g (o + i * t.size + j) = some u) : Els F w' g o t (W.over xs i ys) := by
  intro q hq
  have hq' := hq
  rw [over_length hi] at hq'
  have hget : (W.over xs i ys)[q]? = some (W.over xs i ys)[q] := List.getElem?_eq_getElem hq
  rw [over_get hi] at hget
  split at hget
  · rename_i hin
    have hqi : q - i < ys.length := by omega
    rw [List.getElem?_eq_getElem hqi] at hget
    simp only [Option.some.injEq] at hget
    obtain ⟨ds, h1, h2⟩ := hs.2 (q - i) hqi
    refine ⟨ds, by rw [← hget]; exact h1, fun j u hu => ?_⟩
    have h3 := hw _ u (h2 j u hu)
    have e : (q - i) * t.size + i * t.size = q * t.size := by rw [← Nat.add_mul]; congr 1; omega
    rw [show o + i * t.size + ((q - i) * t.size + j) = o + (q * t.size + j) by omega] at h3
    exact h3
  · rename_i hout
    rw [List.getElem?_eq_getElem hq'] at hget
    simp only [Option.some.injEq] at hget
    obtain ⟨ds, h1, h2⟩ := he q hq'
    refine ⟨ds, by rw [← hget]; exact h1, fun j u hu => ?_⟩
    have h3 := h2 j u hu
    have hj : j < t.size := by rw [← TR.length h1]; exact (List.getElem?_eq_some_iff.1 hu).1
    rw [ht.wc _ _ (wcell_lt h3) (fun e => ?_)]
    · exact h3
    · obtain ⟨_, e1, e2⟩ := e
      rw [hs.1] at e2
      rcases Nat.lt_or_ge q i with hlt | hge
      · have : (q + 1) * t.size ≤ i * t.size := Nat.mul_le_mul_right _ hlt
        rw [Nat.add_mul] at this; omega
      · have : (i + ys.length) * t.size ≤ q * t.size := Nat.mul_le_mul_right _ (by omega)
        rw [Nat.add_mul] at this; omega
theorem copy_run {t e ty : TypeId} {ts : Array TypeId} {size : Nat} (ht : ts[0]? = some t) (hu : P.underlying t = some (.slice e)) (hs : sizeB P e = some size) {base : Option Addr} {n cap : Nat} {ax : Option Addr} {m cx k : Nat} (hk : k = W.minN m n) {news : List Value} (hnl : news.length = k * size)
    (hx : 0 < news.length → ∃ g o, ax = some ⟨g, o, none⟩ ∧ ∀ j u, news[j]? = some u → w.cell? ⟨g, o + j, none⟩ = some u) (hone : ∀ c ∈ news, c.oneCell' = true) {g o : Nat}
    (hb : 0 < news.length → base = some ⟨g, o, none⟩ ∧ ∀ j, j < news.length → ∃ u, wcell w g (o + j) = some u) :
    ∃ w', (Builtin.copy_ ts ty #[.slice base n cap, .slice ax m cx]).run P w = .ok (.int .i64 (W.ofNat k)) w' ∧ Turn w w' (fun g' o' => g' = g ∧ o ≤ o' ∧ o' < o + news.length) ∧ ∀ j u, news[j]? = some u → wcell w' g (o + j) = some u := by
  have hmin : Nat.min m n = k := by rw [hk]; rfl
  have hfn := first_run (P := P) (len := m) (cap := cx) hnl hx
  rcases Nat.eq_zero_or_pos news.length with h0 | h0
  · have : news = [] := List.length_eq_zero_iff.1 h0
    subst this
    refine ⟨w, ?_, Turn.refl _ _, fun j u hu => by simp at hu⟩
    cases base with
    | none => simp [Builtin.copy_, ht, run_underlying hu, Builtin.lenOf, hmin, sizeB_run hs, hfn, goInt, W.ofNat]
    | some ad => simp [Builtin.copy_, ht, run_underlying hu, Builtin.lenOf, hmin, sizeB_run hs, hfn, storeCells, goInt, W.ofNat]
  · obtain ⟨rfl, hc⟩ := hb h0
    obtain ⟨w', r1, r2, r3, r4⟩ := run_storeCells (P := P) (g := g) news o 0 w (fun j hj => by rw [Nat.add_zero]; exact hc j hj) hone
    refine ⟨w', ?_, r2.sub (by rintro g' o' ⟨h1, h2, h3⟩; exact ⟨h1, by omega, by omega⟩), fun j u hu => by have := r3 j u hu; simpa using this⟩
    simp [Builtin.copy_, ht, run_underlying hu, Builtin.lenOf, hmin, sizeB_run hs, hfn, r1, goInt, W.ofNat]
theorem minN_le {a b : Nat} : W.minN a b ≤ a ∧ W.minN a b ≤ b := by unfold W.minN; split <;> omega
theorem copy_sound {t ty : TypeId} {ts : Array TypeId} (ht : ts[0]? = some t) {d x : V} {cd cx : Value} (hr : HR Φ w1 π h w) (hd : VR Φ π d cd) (hx : VR Φ π x cx) (he : EffTo P slot h (copyAct P t d x h) v u) :
    ∃ cv w', (Builtin.copy_ ts ty #[cd, cx]).run P w = .ok cv w' ∧ Post Φ w1 π h v u cv w' := by
  unfold copyAct at he
  split at he
  · rename_i e n m hu hn hm
    split at he
    · exact he.elim
    rename_i T hT
    obtain ⟨hTs, hsz⟩ := elemT_sound hT
    split at he
    · exact he.elim
    rename_i ys hys
    obtain ⟨hhold, hlen⟩ := elems_sound hr hx hys
    have hm' := hlen m hm
    obtain ⟨ax, cxx, rfl, q1, q2, cs, q3, q4⟩ := hhold
    obtain ⟨hk1, hk2⟩ := minN_le (a := m) (b := n)
    dsimp only at he
    have hsl : (W.slice ys 0 (W.minN m n)).length = W.minN m n := slice_length (by omega)
    have hseg : Seg (Φ false) T (W.slice ys 0 (W.minN m n)) ((cs.drop (0 * T.size)).take (W.minN m n * T.size)) := q3.slice (by omega)
    have hnl := hseg.1
    rw [hsl] at hnl
    rw [Nat.zero_mul, List.drop_zero] at hseg hnl
    generalize hnews : cs.take (W.minN m n * T.size) = news at hseg hnl
    have hone := hseg.one' hTs
    have hx' : 0 < news.length → ∃ g o, ax = some ⟨g, o, none⟩ ∧ ∀ j u, news[j]? = some u → w.cell? ⟨g, o + j, none⟩ = some u := fun h0 => by
      have hk0 : 0 < W.minN m n := by
        rcases Nat.eq_zero_or_pos (W.minN m n) with e | e
        · rw [hnl, e] at h0; simp at h0
        · exact e
      obtain ⟨g, o, e1, e2⟩ := q4 (by omega)
      refine ⟨g, o, e1, fun j u hu => e2 j u ?_⟩
      rw [← hnews, List.getElem?_take] at hu
      split at hu
      · exact hu
      · cases hu
    have hk0 : 0 < news.length → 0 < W.minN m n := fun h0 => by
      rcases Nat.eq_zero_or_pos (W.minN m n) with e | e
      · rw [hnl, e] at h0; simp at h0
      · exact e
    rw [← hm']
    have hVi : ∀ {Φ π}, VR Φ π (.int .i64 (W.ofNat (W.minN m n))) (.int .i64 (W.ofNat (W.minN m n))) := VR.int' (wfI_nat _ (by omega))
    have nilCase : ∀ {a : Option Addr}, cd = .slice a 0 0 → n = 0 → EffTo P slot h (.val (.int .i64 (W.ofNat 0))) v u → ∃ cv w', (Builtin.copy_ ts ty #[cd, .slice ax m cxx]).run P w = .ok cv w' ∧ Post Φ w1 π h v u cv w' := by
      intro a hcd hn0 he
      obtain ⟨rfl, rfl⟩ := he
      have hz : W.minN m n = 0 := by omega
      have hn1 : news.length = 0 := by rw [hnl, hz]; simp
      obtain ⟨w', r1, r2, r3⟩ := copy_run (P := P) (ty := ty) (base := a) (n := n) (cap := 0) (ax := ax) (m := m) (cx := cxx) (g := 0) (o := 0) ht hu hsz rfl hnl hx' hone (fun h0 => by omega)
      refine ⟨_, w', by rw [hcd]; rw [hz, hn0] at r1; exact r1, ?_⟩
      have hT0 : Turn w w' (fun _ _ => False) := r2.sub (by rintro g' o' ⟨_, h1, h2⟩; omega)
      have hhr : HR Φ w1 π h w' := hr.master hT0 (fun _ _ e => e.elim) (hr.fzTurn hT0 fun _ _ e => e.elim) (Fr.le_refl _) (Pi.le_refl _) (fun _ => False) (fun _ _ => ⟨rfl, rfl⟩)
        (fun _ e => e.elim) (fun _ _ e => e.elim) (fun _ _ _ e => e.elim) (fun _ _ _ _ _ _ e => e.elim) (fun _ _ _ _ _ _ e => e.elim) (fun j blk A _ hb ho hA g off hh => ⟨fun e => e, (hr.own j blk A hb ho hA g off hh).2.2⟩)
      refine Post.mk (Pi.le_refl _) hhr ?_
      exact VR.int' (wfI_nat 0 (by simp))
    split at he
    · simp only [VR] at hd
      exact nilCase hd (by simp only [sliceLen, Option.some.injEq] at hn; exact hn.symm) he
    · simp only [VR] at hd
      obtain ⟨a, hd⟩ := hd
      exact nilCase hd (by simp only [sliceLen, Option.some.injEq] at hn; exact hn.symm) he
    · rename_i b sz n'
      simp only [sliceLen, Option.some.injEq] at hn; subst hn
      simp only [VR] at hd
      obtain ⟨A, a, cap, hA, e1, e2, rfl, e4, e5, e6, e7⟩ := hd
      split at he
      · rename_i T1 xs hb
        split at he
        · rename_i hTT; subst hTT
          obtain ⟨h', hh', rfl, rfl⟩ := he
          simp only [Option.some.injEq] at hh'; subst hh'
          have hB := hr.get hb (by simp) hA
          simp only [BR] at hB
          obtain ⟨g1, g2, g3, g4, g5, g6, g7⟩ := hB
          have hfit : 0 + (W.slice ys 0 (W.minN m n')).length ≤ xs.length := by rw [hsl]; omega
          have hmul : W.minN m n' * T1.size ≤ xs.length * T1.size := Nat.mul_le_mul_right _ (by omega)
          obtain ⟨w', r1, r2, r3⟩ := copy_run (P := P) (ty := ty) (base := a) (n := n') (cap := cap) (ax := ax) (m := m) (cx := cxx) (g := A.g) (o := A.o) ht hu hsz rfl hnl hx' hone
            (fun h0 => ⟨e7 (by have := hk0 h0; omega), fun j hj => g6 j (by omega)⟩)
          refine ⟨_, w', r1, Post.mk (Pi.le_refl _) ?_ hVi⟩
          simp only [Upd.on]
          refine HR.turn hr hb rfl hA (r2.sub ?_) ?_ (by simp)
          · rintro g' o' ⟨rfl, h1, h2⟩; exact .inl ⟨rfl, by simp only [At.main]; omega, by simp only [At.main]; omega⟩
          · simp only [BR]
            refine ⟨g1, by rw [over_length hfit]; exact g2, g3, g4, by rw [over_length hfit]; exact g5, fun j hj => ?_, ?_⟩
            · obtain ⟨u, hu⟩ := g6 j hj; exact r2.ex _ _ _ hu
            · exact g7.over hfit (by simpa using r2) hseg (by simpa using r3)
        · exact he.elim
      · exact he.elim
    · rename_i b sz i n'
      simp only [sliceLen, Option.some.injEq] at hn; subst hn
      simp only [VR] at hd
      obtain ⟨A, a, cap, hA, e1, e2, rfl, e4, e5, e7⟩ := hd
      split at he
      · rename_i T1 xs hb
        split at he
        · rename_i hTT; subst hTT
          obtain ⟨h', hh', rfl, rfl⟩ := he
          simp only [Option.some.injEq] at hh'; subst hh'
          have hB := hr.get hb (by simp) hA
          simp only [BR] at hB
          obtain ⟨g1, g2, g3, g4, g5, g6, g7⟩ := hB
          have hfit : i + (W.slice ys 0 (W.minN m n')).length ≤ xs.length := by rw [hsl]; omega
          have hmul : (i + W.minN m n') * T1.size ≤ xs.length * T1.size := Nat.mul_le_mul_right _ (by omega)
          rw [Nat.add_mul] at hmul
          have hsz1 : sz = T1.size := by rw [← e1, g3]
          subst hsz1
          obtain ⟨w', r1, r2, r3⟩ := copy_run (P := P) (ty := ty) (base := a) (n := n') (cap := cap) (ax := ax) (m := m) (cx := cxx) (g := A.g) (o := A.o + i * T1.size) ht hu hsz rfl hnl hx' hone
            (fun h0 => ⟨(e7 (by have := hk0 h0; omega)).2, fun j hj => by rw [Nat.add_assoc]; exact g6 _ (by omega)⟩)
          refine ⟨_, w', r1, Post.mk (Pi.le_refl _) ?_ hVi⟩
          simp only [Upd.on]
          refine HR.turn hr hb rfl hA (r2.sub ?_) ?_ (by simp)
          · rintro g' o' ⟨rfl, h1, h2⟩; exact .inl ⟨rfl, by simp only [At.main]; omega, by simp only [At.main]; omega⟩
          · simp only [BR]
            refine ⟨g1, by rw [over_length hfit]; exact g2, g3, g4, by rw [over_length hfit]; exact g5, fun j hj => ?_, ?_⟩
            · obtain ⟨u, hu⟩ := g6 j hj; exact r2.ex _ _ _ hu
            · exact g7.over hfit r2 hseg r3
        · exact he.elim
      · exact he.elim
    · rename_i b sz i o n'
      simp only [sliceLen, Option.some.injEq] at hn; subst hn
      simp only [VR] at hd
      obtain ⟨A, r, mm, a, cap, hA, e1, e2, e3, rfl, e4, e5, e7⟩ := hd
      split at he
      · rename_i T1 xs hb
        split at he
        · rename_i hTT; subst hTT
          obtain ⟨h', hh', rfl, rfl⟩ := he
          simp only [Option.some.injEq] at hh'; subst hh'
          have hB := hr.get hb (by simp) hA
          simp only [BR] at hB
          obtain ⟨g1, g2, g3, g4, g5, g6, g7, g8, g9⟩ := hB
          have hi' : i < xs.length := by rw [← g6]; exact (List.getElem?_eq_some_iff.1 e2).1
          obtain ⟨r', c, g10, g11, a', cap', g12, g13, g14, g15⟩ := g9 i hi'
          have g10' := g10
          rw [e2] at g10
          simp only [Option.some.injEq, Prod.mk.injEq] at g10
          obtain ⟨rfl, rfl⟩ := g10
          have hfit : o + (W.slice ys 0 (W.minN m n')).length ≤ xs[i].length := by rw [hsl]; omega
          have hmul : (o + W.minN m n') * T1.size ≤ xs[i].length * T1.size := Nat.mul_le_mul_right _ (by omega)
          rw [Nat.add_mul] at hmul
          have hsz1 : sz = T1.size := by rw [← e1, g3]
          subst hsz1
          -- where it lies
          obtain ⟨q, hq⟩ : ∃ q : Rng, 0 < n' → r = some q ∧ a = some ⟨q.g, q.o + o * T1.size, none⟩ := by
            rcases Nat.eq_zero_or_pos n' with h0 | h0
            · exact ⟨⟨0, 0, 0⟩, fun h => by omega⟩
            · obtain ⟨q, h1, h2⟩ := e7 h0; exact ⟨q, fun _ => ⟨h1, h2⟩⟩
          have hin : 0 < n' → xs[i].length * T1.size ≤ q.n ∧ Els (Φ false) w q.g q.o T1 xs[i] := fun h0 => by
            obtain ⟨q', h1, h2, h3, h4⟩ := g15 (by omega)
            rw [(hq h0).1] at h1; cases h1
            exact ⟨h3, h4⟩
          obtain ⟨w', r1, r2, r3⟩ := copy_run (P := P) (ty := ty) (base := a) (n := n') (cap := cap) (ax := ax) (m := m) (cx := cxx) (g := q.g) (o := q.o + o * T1.size) ht hu hsz rfl hnl hx' hone
            (fun h0 => by
              have hk := hk0 h0
              refine ⟨(hq (by omega)).2, fun j hj => ?_⟩
              obtain ⟨hqn, hE⟩ := hin (by omega)
              obtain ⟨cs', h5, h6⟩ := els_seg (C := fun g o => wcell w g o) (o := q.o) hE
              have hjl : o * T1.size + j < cs'.length := by rw [h5.1]; omega
              exact ⟨_, by have := h6 _ _ (List.getElem?_eq_getElem hjl); rw [← Nat.add_assoc] at this; exact this⟩)
          refine ⟨_, w', r1, Post.mk (Pi.le_refl _) ?_ hVi⟩
          simp only [Upd.on]
          have hrange : ∀ g' o', (g' = q.g ∧ q.o + o * T1.size ≤ o' ∧ o' < q.o + o * T1.size + news.length) → r = some q ∧ q.has g' o' := by
            rintro g' o' ⟨rfl, h1, h2⟩
            have hk := hk0 (by omega)
            obtain ⟨hqn, _⟩ := hin (by omega)
            exact ⟨(hq (by omega)).1, rfl, by omega, by omega⟩
          refine HR.turn hr hb rfl hA (r2.sub ?_) ?_ (by simp)
          · intro g' o' e
            obtain ⟨rfl, h2⟩ := hrange g' o' e
            exact .inr ⟨i, q, _, g10', h2⟩
          · simp only [BR, W.set, List.length_set]
            refine ⟨g1, g2, g3, g4, g5, g6, g7, fun k hk => ?_, fun k hk => ?_⟩
            · obtain ⟨q, hq⟩ := g8 k hk; exact r2.ex _ _ _ hq
            · obtain ⟨rk, ck, q10, q11, hI⟩ := g9 k hk
              have hck : wcell w' A.g (A.o + k) = some ck := by
                rw [r2.wc _ _ (wcell_lt q11) (fun e => ?_)]
                · exact q11
                · obtain ⟨rfl, h2⟩ := hrange _ _ e
                  exact g7.main i q _ g10' A.g (A.o + k) ⟨rfl, by simp [At.main], by simp only [At.main]; omega⟩ h2
              by_cases hik : i = k
              · subst hik
                rw [List.getElem_set_self, get_lt hi', over_length hfit]
                obtain ⟨ak, capk, p1, p2, p3, p4⟩ := hI
                refine ⟨rk, ck, q10, hck, ak, capk, by rw [over_length hfit]; exact p1, by rw [over_length hfit]; exact p2, p3, fun h0 => ?_⟩
                rw [over_length hfit] at h0 ⊢
                obtain ⟨q', f1, f2, f3, f4⟩ := p4 h0
                refine ⟨q', f1, f2, f3, ?_⟩
                rcases Nat.eq_zero_or_pos news.length with hz | hz
                · have hk0' : W.minN m n' = 0 := by
                    rcases Nat.eq_zero_or_pos (W.minN m n') with e | e
                    · exact e
                    · have : W.minN m n' * T1.size ≠ 0 := Nat.ne_of_gt (Nat.mul_pos e hTs); omega
                  have : W.slice ys 0 (W.minN m n') = [] := by rw [hk0']; simp [W.slice]
                  rw [this]
                  have hov : W.over xs[i] o ([] : List T1.D) = xs[i] := by simp [W.over]
                  rw [hov]
                  exact f4.turn (Fr.le_refl _ false) r2 fun off h1 h2 e => by omega
                · have hk := hk0 hz
                  have hrq := (hq (by omega)).1
                  subst hrq
                  rw [g10'] at q10
                  simp only [Option.some.injEq, Prod.mk.injEq, and_true] at q10
                  subst q10
                  cases f1
                  exact f4.over hfit r2 hseg r3
              · rw [List.getElem_set_ne hik]
                refine ⟨rk, ck, q10, hck, hI.turn r2 fun q' g off hq' hh e => ?_⟩
                obtain ⟨rfl, h2⟩ := hrange _ _ e
                subst hq'
                exact g7.subs i k q q' _ _ g10' q10 hik g off h2 hh
        · exact he.elim
      · exact he.elim
    · exact he.elim
  · exact he.elim
end
end Go.Eng
