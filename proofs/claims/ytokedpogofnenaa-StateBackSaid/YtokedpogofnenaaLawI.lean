import Derived.Test.YtokedpogofnenaaLawH
set_option linter.unusedVariables false
set_option linter.unusedSimpArgs false
set_option maxHeartbeats 4000000
set_option maxRecDepth 100000
namespace Go.Proofs.Ytokedpogofnenaa
open Go Go.Eng
open Classical
theorem small_put {s : St} (h : smallS s) (r : Int) (x : Kn) : smallS (putS s r x) := by
  unfold putS
  split
  · exact ⟨by simpa using h.1, h.2.1, h.2.2⟩
  · exact h
theorem small_store {s : St} (hs : smallS s) (l h n : Int) (x : Kn) : smallS (storeS s l h n x) := by
  unfold storeS
  split
  · refine ⟨hs.1, ?_, ?_⟩
    · dsimp only; split
      · rw [mrk_len]; exact hs.2.1
      · exact hs.2.1
    · dsimp only; split
      · rw [List.length_set, clr_len]; exact hs.2.2
      · rw [clr_len]; exact hs.2.2
  · exact hs
theorem zero_right : wfK z0 := wfK_z
theorem check_small {s : St} (h : checkP s) : smallS s := by
  refine ⟨?_, ?_, ?_⟩
  · rw [h.1]; decide
  · rw [h.2.1]; decide
  · rw [h.2.2.1]; decide
theorem rAny_eq' {R : Type} (k : PTs.D qs_clevisref08Any → Option R) : F_clevisref08Any R () k = k (szB 8) := rAny_eq k
theorem back_pure (x : PTs.D ps_clevislaw11StateBack) (hw : WfL ps_clevislaw11StateBack x) :
    L_clevislaw11StateBack F_state_Check F_clevisref11Right F_state_Store F_state_Load F_clevislaw11heads F_clevisref08Any x = some () := by
  obtain ⟨⟨a, t, b⟩, ⟨(y0 : Int), ⟨(y1 : Int), (y2 : Int), (y3 : Int), (y4 : Int), (y5 : Int), (y6 : Int)⟩, (y7 : Int)⟩, (l : Int), (h : Int)⟩ := x
  have hk : wfK (y0, (y1, y2, y3, y4, y5, y6), y7) := hw.2.1
  simp only [L_clevislaw11StateBack]
  rw [check_eq]
  by_cases hc : checkP (a, t, b)
  · rw [br_pos (by simp [hc, W.not_eq]), rright_eq _ hk]
    by_cases hg : rightP (y0, (y1, y2, y3, y4, y5, y6), y7) ∧ (0 ≤ l ∧ l ≤ 63) ∧ (0 ≤ h ∧ h ≤ 63) ∧ h ≠ l
    · obtain ⟨hr, hl, hh, hne⟩ := hg
      rw [br_neg (by simp [W.pick_eq, W.lt_d, W.gt_d, W.eq_d, W.not_eq, hr, hne]; omega)]
      obtain ⟨i, hi⟩ : ∃ i : Nat, l = i := ⟨l.toNat, by omega⟩
      obtain ⟨j, hj⟩ : ∃ j : Nat, h = j := ⟨h.toNat, by omega⟩
      subst hi hj
      have e1 : W.wrap .i64 (W.mul 8 (i : Int)) = 8 * (i : Int) := by rw [W.mul_eq, W.wi64_id (by omega) (by omega)]
      have e2 : W.wrap .i64 (W.mul 8 (j : Int)) = 8 * (j : Int) := by rw [W.mul_eq, W.wi64_id (by omega) (by omega)]
      rw [e1, e2, store_eq _ (check_small hc)]
      simp only [eta2]
      rw [load_eq, load_eq, load_eq]
      dsimp only
      rw [load_back hc hr (by omega), load_other hc hr (i := i) (j := j) (by omega) (by omega) (by omega), check_eq, heads_eq]
      have hck := store_check (l := 8 * (i : Int)) (h := 8 * (i : Int)) (n := 8) (x := (y0, (y1, y2, y3, y4, y5, y6), y7)) hc
      dsimp only
      by_cases h0 : y0 = 0
      · subst h0
        rw [br_pos (weq_self _), rAny_eq, check_eq]
        simp only [if_true, hck, decide_true, weq_self, eqB_self, W.and2, Bool.and_self, W.pick_eq, cond_true, br_t, heads_eq]
      · rw [br_neg (by simp [W.eq_d, h0])]
        simp only [if_neg h0, hck, decide_true, weq_self, eqB_self, W.and2, Bool.and_self, W.pick_eq, cond_true, br_t]
    · rw [br_pos, heads_eq, br_t]
      simp only [W.pick_eq, W.lt_d, W.gt_d, W.eq_d, W.not_eq]
      by_cases hr : rightP (y0, (y1, y2, y3, y4, y5, y6), y7)
      · simp [hr]
        have : ¬ ((0 ≤ l ∧ l ≤ 63) ∧ (0 ≤ h ∧ h ≤ 63) ∧ h ≠ l) := fun q => hg ⟨hr, q⟩
        omega
      · simp [hr]
  · rw [br_neg (by simp [hc, W.not_eq]), br_pos (by simp [W.pick_eq]), heads_eq, br_t]
theorem backLaw (x : PTs.D ps_clevislaw11StateBack) (hw : WfL ps_clevislaw11StateBack x) (hz : SzL ps_clevislaw11StateBack x) :
    ∃ (C : Cfg) (fl d : Nat), CfgOk C ∧ C.P = Try.prog ∧ call C fl d 4 (encL false ps_clevislaw11StateBack x) [] getL = some () :=
  E_clevislaw11StateBack ok_state_Check ok_clevisref11Right ok_state_Store ok_state_Load ok_clevislaw11heads ok_clevisref08Any x (back_pure x hw)
theorem small_pure (x : PTs.D ps_clevislaw11StateSmall) (hw : WfL ps_clevislaw11StateSmall x) :
    L_clevislaw11StateSmall F_state_Check F_clevisref11Right F_state_Store F_state_Load F_clevislaw11heads F_clevisref08Any F_clevisref08Size x = some () := by
  obtain ⟨⟨a, t, b⟩, ⟨(y0 : Int), ⟨(y1 : Int), (y2 : Int), (y3 : Int), (y4 : Int), (y5 : Int), (y6 : Int)⟩, (y7 : Int)⟩, (l : Int), (n : Int)⟩ := x
  have hk : wfK (y0, (y1, y2, y3, y4, y5, y6), y7) := hw.2.1
  have hwn : wfI .i64 n := hw.2.2.2
  simp only [L_clevislaw11StateSmall]
  rw [check_eq]
  by_cases hc : checkP (a, t, b)
  · rw [br_pos (by simp [hc, W.not_eq]), rright_eq _ hk]
    have e512 : (1 ≤ n ∧ n ≤ 4) → W.wrap .i64 (W.sub 512 n) = 512 - n := fun h => by rw [W.sub_eq, W.wi64_id (by omega) (by omega)]
    by_cases hg : rightP (y0, (y1, y2, y3, y4, y5, y6), y7) ∧ 0 ≤ l ∧ (1 ≤ n ∧ n ≤ 4) ∧ n ≠ 3 ∧ l ≤ 512 - n
    · obtain ⟨hr, hl, hn, hn3, hln⟩ := hg
      rw [br_neg (by rw [e512 hn]; simp [W.pick_eq, W.lt_d, W.gt_d, W.eq_d, W.not_eq, hr, hn3]; omega)]
      have hp : placesP (a, t, b) l l n := ⟨hc, hl, by omega, by omega, by omega⟩
      have e1 : W.wrap .i64 (W.mul 8 (W.wrap .i64 (W.quo l 8))) = 8 * (l / 8) := by rw [quo8 (by omega) (by omega), W.mul_eq, W.wi64_id (by omega) (by omega)]
      rw [e1, store_eq _ (check_small hc)]
      simp only [eta2]
      rw [load_eq, check_eq]
      dsimp only
      have hck := store_check (l := l) (h := l) (n := n) (x := (y0, (y1, y2, y3, y4, y5, y6), y7)) hc
      rw [load_small hc hr hp (by omega), br_pos (by simp [hck, W.pick_eq, W.not_eq]), rsize_eq]
      rw [br_neg (by simp [weq_self, W.and2, W.pick_eq, W.not_eq]), load_eq]
      dsimp only
      rcases load_slot hc hr hp (by omega) with e | e
      · rw [e, br_pos (by simp [W.not_eq]), rAny_eq, heads_eq]
        simp only [weq_self, eqB_self, W.and2, Bool.and_self, W.pick_eq, cond_true, cond_false, br_t]
      · rw [e, br_neg (by simp [W.not_eq]), heads_eq]
        rfl
    · rw [br_pos, heads_eq, br_t]
      simp only [W.pick_eq, W.lt_d, W.gt_d, W.eq_d, W.not_eq]
      by_cases hr : rightP (y0, (y1, y2, y3, y4, y5, y6), y7)
      · by_cases hn : 1 ≤ n ∧ n ≤ 4
        · rw [e512 hn]
          simp [hr]
          have : ¬ (0 ≤ l ∧ (1 ≤ n ∧ n ≤ 4) ∧ n ≠ 3 ∧ l ≤ 512 - n) := fun q => hg ⟨hr, q⟩
          omega
        · simp [hr]
          omega
      · simp [hr]
  · rw [br_neg (by simp [hc, W.not_eq]), br_pos (by simp [W.pick_eq]), heads_eq, br_t]
theorem smallLaw (x : PTs.D ps_clevislaw11StateSmall) (hw : WfL ps_clevislaw11StateSmall x) (hz : SzL ps_clevislaw11StateSmall x) :
    ∃ (C : Cfg) (fl d : Nat), CfgOk C ∧ C.P = Try.prog ∧ call C fl d 3 (encL false ps_clevislaw11StateSmall x) [] getL = some () :=
  E_clevislaw11StateSmall ok_state_Check ok_clevisref11Right ok_state_Store ok_state_Load ok_clevislaw11heads ok_clevisref08Any ok_clevisref08Size x (small_pure x hw)
end Go.Proofs.Ytokedpogofnenaa
