import Derived.Test.YtokedpogofnenaaLawC
set_option linter.unusedVariables false
set_option linter.unusedSimpArgs false
set_option maxHeartbeats 4000000
set_option maxRecDepth 100000
namespace Go.Proofs.Ytokedpogofnenaa
open Go Go.Eng
variable {R : Type}
/-! ### what is cleared, what is set -/
noncomputable def clr (l : List Kn) (a b : Nat) : List Kn := (List.range l.length).map fun i => if a ≤ i ∧ i < b then z0 else kn l i
noncomputable def mrk (l : List Bool) (a b : Nat) : List Bool := (List.range l.length).map fun i => if a ≤ i ∧ i < b then true else bl l i
theorem clr_len (l : List Kn) (a b : Nat) : (clr l a b).length = l.length := by simp [clr]
theorem mrk_len (l : List Bool) (a b : Nat) : (mrk l a b).length = l.length := by simp [mrk]
theorem kn_out {l : List Kn} {i : Nat} (h : l.length ≤ i) : kn l i = z0 := by unfold kn; rw [List.getD_eq_getElem?_getD, List.getElem?_eq_none h]; rfl
theorem kn_in {l : List Kn} {i : Nat} (h : i < l.length) : l[i]? = some (kn l i) := by unfold kn; rw [List.getD_eq_getElem?_getD, List.getElem?_eq_getElem h]; rfl
theorem bl_in {l : List Bool} {i : Nat} (h : i < l.length) : l[i]? = some (bl l i) := by unfold bl; rw [List.getD_eq_getElem?_getD, List.getElem?_eq_getElem h]; rfl
theorem clr_get (l : List Kn) (a b i : Nat) : kn (clr l a b) i = if a ≤ i ∧ i < b then z0 else kn l i := by
  rcases Nat.lt_or_ge i l.length with h | h
  · unfold kn
    rw [List.getD_eq_getElem?_getD]
    simp [clr, List.getElem?_range h, kn]
  · rw [kn_out (by rw [clr_len]; exact h), kn_out h]; split <;> rfl
theorem mrk_get {l : List Bool} (a b : Nat) {i : Nat} (h : i < l.length) : bl (mrk l a b) i = if a ≤ i ∧ i < b then true else bl l i := by
  unfold bl
  rw [List.getD_eq_getElem?_getD]
  simp [mrk, List.getElem?_range h, bl]
theorem kn_ext {l m : List Kn} (h : l.length = m.length) (hi : ∀ i, i < l.length → kn l i = kn m i) : l = m := by
  apply List.ext_getElem?
  intro i
  rcases Nat.lt_or_ge i l.length with h1 | h1
  · rw [kn_in h1, kn_in (h ▸ h1), hi i h1]
  · rw [List.getElem?_eq_none h1, List.getElem?_eq_none (h ▸ h1)]
theorem bl_ext {l m : List Bool} (h : l.length = m.length) (hi : ∀ i, i < l.length → bl l i = bl m i) : l = m := by
  apply List.ext_getElem?
  intro i
  rcases Nat.lt_or_ge i l.length with h1 | h1
  · rw [bl_in h1, bl_in (h ▸ h1), hi i h1]
  · rw [List.getElem?_eq_none h1, List.getElem?_eq_none (h ▸ h1)]
theorem kn_set (l : List Kn) (i j : Nat) (x : Kn) : kn (l.set i x) j = if i = j ∧ j < l.length then x else kn l j := by
  unfold kn
  rw [List.getD_eq_getElem?_getD, List.getD_eq_getElem?_getD, List.getElem?_set]
  by_cases h : i = j
  · subst h
    by_cases h2 : i < l.length
    · simp [h2]
    · simp [h2]
  · simp [h]
theorem bl_set (l : List Bool) (i j : Nat) (x : Bool) : bl (l.set i x) j = if i = j ∧ j < l.length then x else bl l j := by
  unfold bl
  rw [List.getD_eq_getElem?_getD, List.getD_eq_getElem?_getD, List.getElem?_set]
  by_cases h : i = j
  · subst h
    by_cases h2 : i < l.length
    · simp [h2]
    · simp [h2]
  · simp [h]
theorem clr_none {l : List Kn} {a b : Nat} (h : b ≤ a) : clr l a b = l := kn_ext (clr_len _ _ _) fun i _ => by rw [clr_get, if_neg (by omega)]
theorem mrk_none {l : List Bool} {a b : Nat} (h : b ≤ a) : mrk l a b = l := bl_ext (mrk_len _ _ _) fun i hi => by rw [mrk_len] at hi; rw [mrk_get _ _ hi, if_neg (by omega)]
theorem clr_set {l : List Kn} {a t : Nat} (h : a ≤ t) : (clr l a t).set t z0 = clr l a (t + 1) := kn_ext (by simp [clr_len]) fun i hi => by
  rw [List.length_set] at hi
  rw [kn_set, clr_get, clr_get]
  by_cases hit : t = i
  · subst hit; rw [if_pos ⟨rfl, hi⟩, if_pos (by omega)]
  · rw [if_neg (by omega)]
    by_cases hc : a ≤ i ∧ i < t
    · rw [if_pos hc, if_pos (by omega)]
    · rw [if_neg hc, if_neg (by omega)]
theorem clr_in {l : List Kn} {a b t : Nat} (h : a ≤ t) (h' : t < b) : (clr l a b).set t z0 = clr l a b := kn_ext (by simp [clr_len]) fun i hi => by
  rw [kn_set, clr_get]
  by_cases hit : t = i
  · subst hit; rw [if_pos (show a ≤ t ∧ t < b from ⟨h, h'⟩)]; split <;> rfl
  · rw [if_neg (by omega)]
theorem mrk_set {l : List Bool} {a t : Nat} (h : a ≤ t) : (mrk l a t).set t true = mrk l a (t + 1) := bl_ext (by simp [mrk_len]) fun i hi => by
  rw [List.length_set, mrk_len] at hi
  rw [bl_set, mrk_get _ _ hi, mrk_get _ _ hi, mrk_len]
  by_cases hit : t = i
  · subst hit; rw [if_pos ⟨rfl, hi⟩, if_pos (by omega)]
  · rw [if_neg (by omega)]
    by_cases hc : a ≤ i ∧ i < t
    · rw [if_pos hc, if_pos (by omega)]
    · rw [if_neg hc, if_neg (by omega)]
/-- A loop over numbers that carries something on. -/
theorem loop_fold {α β : Type} {P : Nat → Int → α → β} {N : Nat} {g : Nat → α} {kt : β} {a : Nat}
    (hs : ∀ n t, a ≤ t → t < N → P (n + 1) (t : Int) (g t) = P n ((t + 1 : Nat) : Int) (g (t + 1))) (he : ∀ n, P (n + 1) (N : Int) (g N) = kt) :
    ∀ (m f t : Nat), t + m = N → m < f → a ≤ t → P f (t : Int) (g t) = kt
  | 0, f, t, ht, hf, ha => by
    obtain ⟨n, rfl⟩ : ∃ n, f = n + 1 := ⟨f - 1, by omega⟩
    have : t = N := by omega
    subst this
    exact he n
  | m + 1, f, t, ht, hf, ha => by
    obtain ⟨n, rfl⟩ : ∃ n, f = n + 1 := ⟨f - 1, by omega⟩
    rw [hs n t ha (by omega)]
    exact loop_fold hs he m n (t + 1) (by omega) (by omega) (by omega)
open Classical in
noncomputable def storeS (s : St) (l h n : Int) (x : Kn) : St :=
  if placesP s l h n ∧ rightP x then
    (s.1, if l = h then mrk s.2.1 l.toNat (l + n).toNat else s.2.1,
      if exP l h n then (clr s.2.2 (l / 8).toNat ((h + n - 1) / 8 + 1).toNat).set (l / 8).toNat x else clr s.2.2 (l / 8).toNat ((h + n - 1) / 8 + 1).toNat)
  else s
theorem small (s : St) (hs : s.1.length * 64 ≤ 140737488351232 ∧ s.2.1.length * 1 ≤ 140737488351232 ∧ s.2.2.length * 64 ≤ 140737488351232) {α : Type} (x : Option α) :
    br (W.and2 (W.le 0 (W.ofNat (W.len s.1))) (W.le (W.mul (W.ofNat 64) (W.ofNat (W.len s.1))) 281474976710656))
      (br (W.and2 (W.le 0 (W.ofNat (W.len s.2.1))) (W.le (W.mul (W.ofNat 1) (W.ofNat (W.len s.2.1))) 281474976710656))
        (br (W.and2 (W.le 0 (W.ofNat (W.len s.2.2))) (W.le (W.mul (W.ofNat 64) (W.ofNat (W.len s.2.2))) 281474976710656)) x none) none) none = x := by
  have e : ∀ (c n : Nat), n * c ≤ 140737488351232 → W.and2 (W.le 0 (W.ofNat n)) (W.le (W.mul (W.ofNat c) (W.ofNat n)) 281474976710656) = true := by
    intro c n h
    rw [W.and2_t, W.le_t, W.le_t, W.ofNat_eq, W.ofNat_eq, W.mul_eq]
    refine ⟨by omega, ?_⟩
    have : ((c : Int) * (n : Int)) = ((n * c : Nat) : Int) := by rw [Nat.mul_comm]; simp
    omega
  simp only [W.len_eq]
  rw [e 64 _ hs.1, e 1 _ hs.2.1, e 64 _ hs.2.2, br_t, br_t, br_t]
noncomputable def smallS (s : St) : Prop := s.1.length * 64 ≤ 140737488351232 ∧ s.2.1.length * 1 ≤ 140737488351232 ∧ s.2.2.length * 64 ≤ 140737488351232
open Classical in
theorem store_eq (x : PTs.D ps_state_Store) (hs : smallS x.1) (k : PTs.D qs_state_Store → Option R) : F_state_Store R x k = k (storeS x.1 x.2.1 x.2.2.1 x.2.2.2.1 x.2.2.2.2) := by
  obtain ⟨⟨a, t, b⟩, (l : Int), (h : Int), (n : Int), (y0 : Int), ⟨(y1 : Int), (y2 : Int), (y3 : Int), (y4 : Int), (y5 : Int), (y6 : Int)⟩, (y7 : Int)⟩ := x
  simp only [F_state_Store, N_state_Store]
  rw [small (a, t, b) hs]
  simp only [places_eq, right_eq, W.not_eq, Bool.not_not, br_d, copy_over, W.pick_eq, cond_false, br_nd]
  by_cases hp : placesP (a, t, b) l h n
  · obtain ⟨hc, q1, q2, q3, q4⟩ := id hp
    have hlb : b.length = 64 := hc.2.2.1
    have hlt : t.length = 512 := hc.2.1
    rw [if_pos hp]
    by_cases hr : rightP (y0, (y1, y2, y3, y4, y5, y6), y7)
    · rw [if_pos hr]
      simp only [storeS, if_pos (And.intro hp hr)]
      obtain ⟨l', hl'⟩ : ∃ x : Nat, l = x := ⟨l.toNat, by omega⟩
      obtain ⟨n', hn'⟩ : ∃ x : Nat, n = x := ⟨n.toNat, by omega⟩
      obtain ⟨m, hm⟩ : ∃ x : Nat, (h + n - 1) / 8 = x := ⟨((h + n - 1) / 8).toNat, by omega⟩
      have e1 : W.wrap .i64 (W.quo (W.wrap .i64 (W.sub (W.wrap .i64 (W.add h n)) 1)) 8) = (m : Int) := by
        rw [W.add_eq, W.sub_eq, W.wi64_id (z := h + n) (by omega) (by omega), W.wi64_id (z := h + n - 1) (by omega) (by omega), quo8 (by omega) (by omega), hm]
      have e2 : W.wrap .i64 (W.quo l 8) = ((l / 8).toNat : Int) := by rw [quo8 (by omega) (by omega)]; omega
      have e3 : W.toNat (W.ofNat (W.len b)) = 64 := by rw [W.ofNat_eq, W.toNat_nat, W.len_eq, hlb]
      have e4 : W.toNat (W.ofNat (W.len t)) = 512 := by rw [W.ofNat_eq, W.toNat_nat, W.len_eq, hlt]
      -- behind the loops
      have fin : ∀ (s' : List Bool), F_state_exact R (l, h, n) (fun y =>
          br y (br (W.and2 (W.le 0 (W.wrap IntKind.i64 (W.quo l 8))) (W.lt (W.wrap IntKind.i64 (W.quo l 8)) (W.ofNat 64)))
            (k (a, s', W.set (clr b (l / 8).toNat (m + 1)) (W.toNat (W.wrap IntKind.i64 (W.quo l 8))) (y0, (y1, y2, y3, y4, y5, y6), y7))) none) (k (a, s', clr b (l / 8).toNat (m + 1)))) =
          k (a, s', if exP l h n then (clr b (l / 8).toNat (m + 1)).set (l / 8).toNat (y0, (y1, y2, y3, y4, y5, y6), y7) else clr b (l / 8).toNat (m + 1)) := by
        intro s'
        rw [exact_eq, br_d, e2, inb0 (by omega) (by omega), br_t, W.toNat_nat, W.set_eq]
        by_cases he : exP l h n
        · rw [if_pos he, if_pos he]
        · rw [if_neg he, if_neg he]
      have loop2 : ∀ (f : Nat), n' < f → l = h → P_state_Store_10_0 F_state_right F_state_places F_state_exact W.big f R l h n n ((0 : Nat) : Int) y0 y1 y2 y3 y4 y5 y6 y7 (W.toNat (W.ofNat (W.len a))) 512 64 a (mrk t l' (l' + 0)) (clr b (l / 8).toNat (m + 1)) k =
          k (a, mrk t l' (l' + n'), if exP l h n then (clr b (l / 8).toNat (m + 1)).set (l / 8).toNat (y0, (y1, y2, y3, y4, y5, y6), y7) else clr b (l / 8).toNat (m + 1)) := by
        intro f hf hlh
        refine loop_fold (P := fun f i s' => P_state_Store_10_0 F_state_right F_state_places F_state_exact W.big f R l h n n i y0 y1 y2 y3 y4 y5 y6 y7 (W.toNat (W.ofNat (W.len a))) 512 64 a s' (clr b (l / 8).toNat (m + 1)) k)
          (N := n') (g := fun i => mrk t l' (l' + i)) (a := 0) (fun f i _ hi => ?_) (fun f => ?_) n' f 0 (by omega) (by omega) (Nat.le_refl _)
        · rw [P_state_Store_10_0_s, br_pos (W.lt_t.2 (by omega))]
          have e5 : W.wrap .i64 (W.add l (i : Int)) = ((l' + i : Nat) : Int) := by rw [W.add_eq, W.wi64_id (by omega) (by omega)]; omega
          rw [e5, br_pos (inb (by omega)), W.toNat_nat, W.succ64 (by omega), W.set_eq, mrk_set (by omega)]
          rfl
        · rw [P_state_Store_10_0_s, hn', br_neg (W.lt_irr _), ← hn']
          exact fin _
      have loop1 : ∀ (f : Nat), 100 < f → P_state_Store_5_0 F_state_right F_state_places F_state_exact W.big f R l h n (((l / 8).toNat : Nat) : Int) y0 y1 y2 y3 y4 y5 y6 y7 (W.toNat (W.ofNat (W.len a))) 512 64 a t (clr b (l / 8).toNat (l / 8).toNat) k =
          k (a, if l = h then mrk t l' (l' + n') else t, if exP l h n then (clr b (l / 8).toNat (m + 1)).set (l / 8).toNat (y0, (y1, y2, y3, y4, y5, y6), y7) else clr b (l / 8).toNat (m + 1)) := by
        intro f hf
        refine loop_fold (P := fun f i s' => P_state_Store_5_0 F_state_right F_state_places F_state_exact W.big f R l h n i y0 y1 y2 y3 y4 y5 y6 y7 (W.toNat (W.ofNat (W.len a))) 512 64 a t s' k)
          (N := m + 1) (g := fun i => clr b (l / 8).toNat i) (a := (l / 8).toNat) (fun f i hai hi => ?_) (fun f => ?_) (m + 1 - (l / 8).toNat) f (l / 8).toNat (by omega) (by omega) (Nat.le_refl _)
        · rw [P_state_Store_5_0_s, e1, br_pos (W.le_t.2 (by omega)), br_pos (inb (by omega)), W.toNat_nat, W.succ64 (by omega), W.set_eq]
          rw [show ((0, (0, 0, 0, 0, 0, 0), 0) : Kn) = z0 from rfl, clr_set hai]
        · rw [P_state_Store_5_0_s, e1, br_neg (by rw [W.le_d]; exact decide_eq_false (by omega))]
          by_cases hlh : l = h
          · rw [br_pos (W.eq_t.2 hlh), if_pos hlh]
            have := loop2 W.big (big_lt (by omega)) hlh
            rw [mrk_none (by omega)] at this
            exact this
          · rw [br_neg (by rw [W.eq_d]; simp [hlh]), if_neg hlh]
            exact fin _
      have := loop1 W.big (big_lt (by omega))
      rw [clr_none (Nat.le_refl _)] at this
      rw [e2, e3, e4, this]
      rw [hm, hl', hn']
      rw [show (((l' : Nat) : Int) + ((n' : Nat) : Int)).toNat = l' + n' by omega, show ((l' : Nat) : Int).toNat = l' by omega, show (((m : Nat) : Int) + 1).toNat = m + 1 by omega]
    · rw [if_neg hr]
      simp only [storeS, hr, and_false, if_false]
  · rw [if_neg hp]
    simp only [storeS, hp, false_and, if_false]
end Go.Proofs.Ytokedpogofnenaa
