import Derived.Test.YtokedpogofnenaaLawF
set_option linter.unusedVariables false
set_option linter.unusedSimpArgs false
set_option maxHeartbeats 4000000
set_option maxRecDepth 100000
namespace Go.Proofs.Ytokedpogofnenaa
open Go Go.Eng
variable {R : Type}
open Classical
/-! ### stores and loads as such -/
theorem store_if {s : St} {l h n : Int} {x : Kn} (hp : placesP s l h n) (hx : rightP x) : storeS s l h n x =
    (s.1, if l = h then mrk s.2.1 l.toNat (l + n).toNat else s.2.1,
      if exP l h n then (clr s.2.2 (l / 8).toNat ((h + n - 1) / 8 + 1).toNat).set (l / 8).toNat x else clr s.2.2 (l / 8).toNat ((h + n - 1) / 8 + 1).toNat) := by
  unfold storeS; rw [if_pos ⟨hp, hx⟩]
theorem rightP_z : rightP z0 := .inl ⟨rfl, rfl⟩
theorem ex_mod {l h n : Int} (hl : 0 ≤ l) (he : exP l h n) : l = h ∧ n = 8 ∧ l % 8 = 0 := by
  obtain ⟨h1, h2, h3⟩ := he
  rw [Int.tmod_eq_emod_of_nonneg hl] at h3
  exact ⟨h1, h2, h3⟩
theorem ex_of {l n : Int} (hl : 0 ≤ l) (hn : n = 8) (h3 : l % 8 = 0) : exP l l n := ⟨rfl, hn, by rw [Int.tmod_eq_emod_of_nonneg hl]; exact h3⟩
theorem store_saved {s : St} {l h n : Int} {x : Kn} (hp : placesP s l h n) (hx : rightP x) (i : Nat) : kn (storeS s l h n x).2.2 i =
    if l / 8 ≤ i ∧ (i : Int) ≤ (h + n - 1) / 8 then (if exP l h n then x else z0) else kn s.2.2 i := by
  obtain ⟨hc, q1, q2, q3, q4⟩ := id hp
  rw [store_if hp hx]
  dsimp only
  have hl : s.2.2.length = 64 := hc.2.2.1
  by_cases he : exP l h n
  · obtain ⟨e1, e2, e3⟩ := ex_mod q1 he
    rw [if_pos he, if_pos he, kn_set, clr_len, clr_get]
    by_cases hi : l / 8 ≤ i ∧ (i : Int) ≤ (h + n - 1) / 8
    · rw [if_pos hi, if_pos (by omega)]
    · rw [if_neg hi, if_neg (by omega), if_neg (by omega)]
  · rw [if_neg he, if_neg he, clr_get]
    by_cases hi : l / 8 ≤ i ∧ (i : Int) ≤ (h + n - 1) / 8
    · rw [if_pos hi, if_pos (by omega)]
    · rw [if_neg hi, if_neg (by omega)]
theorem store_set {s : St} {l h n : Int} {x : Kn} (hp : placesP s l h n) (hx : rightP x) {i : Nat} (hi : i < 512) : bl (storeS s l h n x).2.1 i = true ↔
    (l = h ∧ l ≤ i ∧ (i : Int) < l + n) ∨ bl s.2.1 i = true := by
  obtain ⟨hc, q1, q2, q3, q4⟩ := id hp
  rw [store_if hp hx]
  dsimp only
  have hl : s.2.1.length = 512 := hc.2.1
  by_cases he : l = h
  · rw [if_pos he, mrk_get _ _ (by omega)]
    by_cases hr : l ≤ i ∧ (i : Int) < l + n
    · rw [if_pos (by omega)]; exact ⟨fun _ => .inl ⟨he, hr⟩, fun _ => rfl⟩
    · rw [if_neg (by omega)]
      constructor
      · exact .inr
      · rintro (⟨_, h1, h2⟩ | h)
        · exact absurd ⟨h1, h2⟩ hr
        · exact h
  · rw [if_neg he]
    constructor
    · exact .inr
    · rintro (⟨h1, _⟩ | h)
      · exact absurd h1 he
      · exact h
theorem store_check {s : St} {l h n : Int} {x : Kn} (hc : checkP s) : checkP (storeS s l h n x) := by
  by_cases hp : placesP s l h n ∧ rightP x
  · obtain ⟨hp, hx⟩ := hp
    have hs := store_if hp hx
    obtain ⟨_, q1, q2, q3, q4⟩ := id hp
    refine ⟨?_, ?_, ?_, ?_, ?_⟩
    · rw [hs]; exact hc.1
    · rw [hs]; dsimp only; split
      · rw [mrk_len]; exact hc.2.1
      · exact hc.2.1
    · rw [hs]; dsimp only; split
      · rw [List.length_set, clr_len]; exact hc.2.2.1
      · rw [clr_len]; exact hc.2.2.1
    · rw [hs]; exact hc.2.2.2.1
    · intro i hi
      have h1 := hc.2.2.2.2 i hi
      unfold savedP
      rw [store_saved hp hx]
      by_cases hr : l / 8 ≤ i ∧ (i : Int) ≤ (h + n - 1) / 8
      · rw [if_pos hr]
        by_cases he : exP l h n
        · rw [if_pos he]
          obtain ⟨e1, e2, e3⟩ := ex_mod q1 he
          exact ⟨hx, .inr fun j h1 h2 => (store_set hp hx (by omega)).2 (.inl ⟨e1, by omega, by omega⟩)⟩
        · rw [if_neg he]; exact ⟨rightP_z, .inl rfl⟩
      · rw [if_neg hr]
        refine ⟨h1.1, h1.2.imp id fun h j h2 h3 => (store_set hp hx (by omega)).2 (.inr (h j h2 h3))⟩
  · unfold storeS; rw [if_neg hp]; exact hc
theorem ready_mono {s t : St} {l h : Int} (ht : checkP t) (hm : ∀ i : Nat, i < 512 → l ≤ (i : Int) → (i : Int) < h → bl s.2.1 i = true → bl t.2.1 i = true) (hr : readyP s l h) : readyP t l h :=
  ⟨ht, hr.2.1, hr.2.2.1, hr.2.2.2.1, fun i h1 h2 => hm i (by have := hr.2.2.2.1; omega) h1 h2 (hr.2.2.2.2 i h1 h2)⟩
theorem load_if {s : St} {l h n : Int} (hp : placesP s l h n) (hr : readyP s l (h + n)) : loadS s l h n = (if exP l h n ∧ (slot s l).1 ≠ 0 then (slot s l, true) else ((1, szB n, 0), true)) := by
  unfold loadS; rw [if_pos ⟨hp, hr⟩]
theorem load_no {s : St} {l h n : Int} (hr : ¬ readyP s l (h + n)) : loadS s l h n = (z0, false) := by
  unfold loadS; rw [if_neg (fun h => hr h.2)]
theorem ready_stored {s : St} {l n : Int} {x : Kn} (hp : placesP s l l n) (hx : rightP x) : readyP (storeS s l l n x) l (l + n) := by
  obtain ⟨hc, q1, q2, q3, q4⟩ := id hp
  exact ⟨store_check hc, q1, by omega, q4, fun i h1 h2 => (store_set hp hx (by omega)).2 (.inl ⟨rfl, h1, h2⟩)⟩
theorem places_store {s : St} {l h n : Int} {x : Kn} {l' h' n' : Int} (hp : placesP s l' h' n') : placesP (storeS s l h n x) l' h' n' := ⟨store_check hp.1, hp.2⟩
theorem load_back {s : St} (hc : checkP s) {x : Kn} (hx : rightP x) {i : Nat} (hi : i < 64) :
    loadS (storeS s (8 * i) (8 * i) 8 x) (8 * i) (8 * i) 8 = (if x.1 = 0 then (1, szB 8, 0) else x, true) := by
  have hp : placesP s (8 * i) (8 * i) 8 := ⟨hc, by omega, by omega, by omega, by omega⟩
  rw [load_if (places_store hp) (ready_stored hp hx)]
  have he : exP (8 * (i : Int)) (8 * i) 8 := ex_of (by omega) rfl (by omega)
  have hs : slot (storeS s (8 * i) (8 * i) 8 x) (8 * i) = x := by
    unfold slot
    rw [store_saved hp hx, if_pos (by omega), if_pos he]
  rw [hs]
  by_cases h0 : x.1 = 0
  · rw [if_neg (fun h => h.2 h0), if_pos h0]
  · rw [if_pos ⟨he, h0⟩, if_neg h0]
theorem load_other {s : St} (hc : checkP s) {x : Kn} (hx : rightP x) {i j : Nat} (hi : i < 64) (hj : j < 64) (hij : j ≠ i) :
    loadS (storeS s (8 * i) (8 * i) 8 x) (8 * j) (8 * j) 8 = loadS s (8 * j) (8 * j) 8 := by
  have hp : placesP s (8 * i) (8 * i) 8 := ⟨hc, by omega, by omega, by omega, by omega⟩
  have hq : placesP s (8 * j) (8 * j) 8 := ⟨hc, by omega, by omega, by omega, by omega⟩
  have hset : ∀ k : Nat, k < 512 → (8 * (j : Int)) ≤ k → (k : Int) < 8 * j + 8 → (bl (storeS s (8 * i) (8 * i) 8 x).2.1 k = true ↔ bl s.2.1 k = true) := by
    intro k hk h1 h2
    rw [store_set hp hx hk]
    constructor
    · rintro (⟨_, h3, h4⟩ | h)
      · omega
      · exact h
    · exact .inr
  have hs : slot (storeS s (8 * i) (8 * i) 8 x) (8 * j) = slot s (8 * j) := by
    unfold slot
    rw [store_saved hp hx, if_neg (by omega)]
  by_cases hr : readyP s (8 * j) (8 * j + 8)
  · rw [load_if (places_store hq) (ready_mono (store_check hc) (fun k hk h1 h2 h3 => (hset k hk h1 h2).2 h3) hr), load_if hq hr, hs]
  · rw [load_no hr, load_no (fun h => hr (ready_mono hc (fun k hk h1 h2 h3 => (hset k hk h1 h2).1 h3) h))]
theorem load_small {s : St} (hc : checkP s) {x : Kn} (hx : rightP x) {l n : Int} (hp : placesP s l l n) (hn : n ≠ 8) : loadS (storeS s l l n x) l l n = ((1, szB n, 0), true) := by
  rw [load_if (places_store hp) (ready_stored hp hx), if_neg (fun h => hn (ex_mod hp.2.1 h.1).2.1)]
theorem load_slot {s : St} (hc : checkP s) {x : Kn} (hx : rightP x) {l n : Int} (hp : placesP s l l n) (hn : n ≠ 8) :
    loadS (storeS s l l n x) (8 * (l / 8)) (8 * (l / 8)) 8 = ((1, szB 8, 0), true) ∨ loadS (storeS s l l n x) (8 * (l / 8)) (8 * (l / 8)) 8 = (z0, false) := by
  obtain ⟨_, q1, q2, q3, q4⟩ := id hp
  have hq : placesP (storeS s l l n x) (8 * (l / 8)) (8 * (l / 8)) 8 := ⟨store_check hc, by omega, by omega, by omega, by omega⟩
  by_cases hr : readyP (storeS s l l n x) (8 * (l / 8)) (8 * (l / 8) + 8)
  · left
    rw [load_if hq hr]
    have hs : slot (storeS s l l n x) (8 * (l / 8)) = z0 := by
      unfold slot
      rw [store_saved hp hx, if_pos (by omega), if_neg (fun h => hn (ex_mod q1 h).2.1)]
    rw [hs, if_neg (fun h => h.2 rfl)]
  · exact .inr (load_no hr)
/-! ### heads -/
noncomputable def five : Kn := (1, (5, 5, 5, 5, 5, 0), 0)
noncomputable def beginS : St := (((List.replicate 11 z0).set 1 (2, (0, 0, 0, 0, 0, 0), 1)).set 10 (2, (512, 512, 512, 512, 512, 0), 2), List.replicate 512 false, List.replicate 64 z0)
theorem begin_eq (k : PTs.D qs_state_Begin → Option R) : F_state_Begin R () k = k beginS := by kernel_rfl
theorem const_eq (k : PTs.D qs_clevisref08Const → Option R) : F_clevisref08Const R (5 : Int) k = k (5, 5, 5, 5, 5, 0) := by kernel_rfl
theorem kn_rep (n i : Nat) : kn (List.replicate n z0) i = z0 := by
  unfold kn
  rw [List.getD_eq_getElem?_getD, List.getElem?_replicate]
  split <;> rfl
theorem bl_rep (n i : Nat) : bl (List.replicate n false) i = false := by
  unfold bl
  rw [List.getD_eq_getElem?_getD, List.getElem?_replicate]
  split <;> rfl
theorem chk_const {v : Int} (h : wfI .u64 v) : chkP (v, v, v, v, v, 0) := by
  refine ⟨Int.le_refl _, Int.le_refl _, ?_⟩
  have e : B64 v &&& ~~~(B64 0) = B64 v := by
    have : B64 0 = 0#64 := rfl
    rw [this]
    show B64 v &&& BitVec.allOnes 64 = B64 v
    exact BitVec.and_allOnes
  rw [e, U_B64 h]
theorem five_right : rightP five := .inr (.inl ⟨rfl, rfl, chk_const rfl⟩)
theorem begin_reg (i : Nat) : kn beginS.1 i = if i = 10 then (2, (512, 512, 512, 512, 512, 0), 2) else if i = 1 then (2, (0, 0, 0, 0, 0, 0), 1) else z0 := by
  unfold beginS
  rw [kn_set, kn_set, kn_rep]
  by_cases h10 : i = 10
  · subst h10; simp
  · rw [if_neg (by omega), if_neg h10]
    by_cases h1 : i = 1
    · subst h1; simp
    · rw [if_neg (by omega), if_neg h1]
theorem begin_check : checkP beginS := by
  refine ⟨by simp [beginS], by simp [beginS], by simp [beginS], fun i hi => ?_, fun i hi => ?_⟩
  · rw [begin_reg]
    by_cases h10 : i = 10
    · rw [if_pos h10]; exact .inr (.inr ⟨rfl, ⟨by decide, by decide⟩, chk_const rfl⟩)
    · rw [if_neg h10]
      by_cases h1 : i = 1
      · rw [if_pos h1]; exact .inr (.inr ⟨rfl, ⟨by decide, by decide⟩, chk_const rfl⟩)
      · rw [if_neg h1]; exact rightP_z
  · unfold savedP
    rw [show kn beginS.2.2 i = z0 from kn_rep 64 i]
    exact ⟨rightP_z, .inl rfl⟩
theorem begin_small : smallS beginS := by
  refine ⟨?_, ?_, ?_⟩ <;> simp [beginS]
theorem begin_wf : wfS beginS := by
  constructor
  · intro i
    rw [begin_reg]
    by_cases h10 : i = 10
    · rw [if_pos h10]; refine ⟨?_, ⟨?_, ?_, ?_, ?_, ?_, ?_⟩, ?_⟩ <;> rfl
    · rw [if_neg h10]
      by_cases h1 : i = 1
      · rw [if_pos h1]; refine ⟨?_, ⟨?_, ?_, ?_, ?_, ?_, ?_⟩, ?_⟩ <;> rfl
      · rw [if_neg h1]; exact wfK_z
  · intro i
    rw [show kn beginS.2.2 i = z0 from kn_rep 64 i]
    exact wfK_z
theorem one_refl {x : Kn} (h : rightP x) (hw : wfK x) : oneP x x := by
  by_cases h0 : x.1 = 0
  · exact .inl h0
  · right
    refine ⟨rfl, rfl, ?_⟩
    have hc : chkP x.2.1 := by
      rcases h with ⟨h, _⟩ | ⟨_, _, h⟩ | ⟨_, _, h⟩
      · exact absurd h h0
      · exact h
      · exact h
    obtain ⟨h1, h2, h3⟩ := hc
    refine ⟨⟨Int.le_refl _, h1⟩, ⟨h1, Int.le_refl _⟩, ⟨Int.le_refl _, h2⟩, ⟨h2, Int.le_refl _⟩, ?_, h3.symm⟩
    rw [BitVec.or_self, U_B64 hw.2.1.2.2.2.2.2]
theorem within_refl {s : St} (hc : checkP s) (hw : wfS s) : stWithinP s s :=
  ⟨hc, hc, fun i hi => one_refl (hc.2.2.2.1 i hi) (hw.1 i), fun _ _ h => h, fun i hi => one_refl (hc.2.2.2.2 i hi).1 (hw.2 i)⟩
theorem heads_eq (k : Bool → Option R) : F_clevislaw11heads R () k = k true := by
  have hp : placesP beginS 504 504 8 := ⟨begin_check, by decide, by decide, by decide, by decide⟩
  have hst : smallS beginS := begin_small
  have b1 : loadS (storeS beginS 504 504 8 five) 504 504 8 = (five, true) := load_back begin_check five_right (i := 63) (by decide)
  have b2 : loadS (storeS beginS 504 504 8 five) 504 504 4 = ((1, szB 4, 0), true) := by
    rw [load_if ⟨store_check begin_check, by decide, by decide, by decide, by decide⟩, if_neg (fun h => absurd h.1.2.1 (by decide))]
    exact ready_mono (store_check begin_check) (fun i _ _ _ h => h) ⟨store_check begin_check, by decide, by decide, by decide, fun i h1 h2 => (ready_stored hp five_right).2.2.2.2 i h1 (by omega)⟩
  have nb : ∀ i, bl beginS.2.1 i = false := fun i => bl_rep 512 i
  have b3 : loadS beginS 504 504 8 = (z0, false) := load_no fun h => by
    have := h.2.2.2.2 504 (by decide) (by decide)
    rw [nb] at this; cases this
  have b4 : readyP (storeS beginS 504 504 8 five) 504 512 := ready_stored hp five_right
  have b5 : ¬ readyP (storeS beginS 504 504 8 five) 503 512 := fun h => by
    have := h.2.2.2.2 503 (by decide) (by decide)
    rw [store_set hp five_right (by decide)] at this
    rcases this with ⟨_, h, _⟩ | h
    · revert h; decide
    · rw [nb] at h; cases h
  have b6 : holdsP (kn beginS.1 1) 4294967296 := by
    rw [begin_reg, if_neg (by decide), if_pos rfl]
    refine ⟨fun _ => ?_, fun h => by revert h; decide⟩
    refine ⟨⟨by decide, by decide⟩, ⟨by decide +kernel, by decide +kernel⟩, by decide +kernel⟩
  have b7 : stWithinP beginS (storeS beginS 504 504 8 five) := by
    have hs := store_if hp five_right
    refine ⟨begin_check, store_check begin_check, fun i hi => ?_, ?_, fun i hi => ?_⟩
    rotate_left
    · intro i hi h
      rw [nb] at h; cases h
    rotate_left
    · rw [hs]; exact one_refl (begin_check.2.2.2.1 i hi) (begin_wf.1 i)
    · rw [show kn beginS.2.2 i = z0 from kn_rep 64 i]; exact .inl rfl
  have b8 : ¬ stWithinP (storeS beginS 504 504 8 five) beginS := fun h => by
    have := h.2.2.2.1 504 (by decide) ((store_set hp five_right (by decide)).2 (.inl ⟨rfl, by decide, by decide⟩))
    rw [nb] at this; cases this
  simp only [F_clevislaw11heads, N_clevislaw11heads]
  rw [begin_eq]
  simp only [eta2]
  rw [const_eq]
  rw [store_eq _ hst]
  simp only [load_eq, check_eq, ready_eq, holds_eq, stWithin_eq, eta2, kn_get]
  change br _ _ _ = _
  have e : storeS beginS 504 504 8 (1, (5, 5, 5, 5, 5, 0), 0) = storeS beginS 504 504 8 five := rfl
  simp only [e, b1, b2, b3]
  simp only [begin_check, b4, b5, b6, b7, b8, decide_true, decide_false]
  refine Eq.trans (b := k true) ?_ rfl
  kernel_rfl
end Go.Proofs.Ytokedpogofnenaa
