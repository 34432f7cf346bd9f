import Derived.Test.YtdfelkcioeinfaaDoorEnwM03g
set_option linter.unusedVariables false
set_option linter.unusedSimpArgs false
set_option maxHeartbeats 4000000
set_option maxRecDepth 100000
namespace Go.Proofs.YtdfelkcioeinfaaDoor
open Go Go.Eng
theorem ins_w {l : List In6} (h : WfT (.slice (.prod (.int .i64) (.prod (.int .i64) (.prod (.int .i64) (.prod (.int .i64) (.prod (.int .i64) (.int .u64))))))) l) : ∀ x ∈ l, wOk x := by
  intro x hx
  have := h.2 x hx
  exact u64_lo this.2.2.2.2.2
theorem enc_yes {l : List In6} (h : (encC l).2 = 0) : l.length ≠ 0 ∧ l.length ≤ 4096 ∧ encF l = some (encC l).1 := by
  unfold encC at h ⊢
  split at h
  · exact absurd h (by decide)
  · rename_i h0
    rw [if_neg h0]
    cases e : encF l with
    | none => rw [e] at h; exact absurd h (by decide)
    | some r => exact ⟨by omega, by omega, rfl⟩
theorem enc_no {l : List In6} (h : (encC l).2 ≠ 0) : (encC l).1 = [] := by
  unfold encC at h ⊢
  split
  · rfl
  · rename_i h0
    rw [if_neg h0] at h
    cases e : encF l with
    | none => rfl
    | some r => rw [e] at h; exact absurd rfl h
theorem dec_no {l : List Int} (h : (decC l).2 ≠ 0) : (decC l).1 = [] := by
  unfold decC at h ⊢
  split
  · rfl
  · rename_i h0
    rw [if_neg h0] at h
    split
    · rfl
    · rename_i h1
      rw [if_neg h1] at h
      cases e : decF (l.length / 8) l with
      | none => rfl
      | some r => rw [e] at h; exact absurd rfl h
theorem wide_w (i j : In6) : wOk (wide i j) := by
  have h1 := u32i_lt i.2.2.2.2.1
  have h2 := u32i_lt j.2.2.2.2.1
  show 0 ≤ u32i j.2.2.2.2.1 * 4294967296 + u32i i.2.2.2.2.1 ∧ u32i j.2.2.2.2.1 * 4294967296 + u32i i.2.2.2.2.1 < 18446744073709551616
  omega
theorem rd_w (l : List Int) : wOk (rd l) := by
  show (0 : Int) ≤ 0 ∧ (0 : Int) < 18446744073709551616; decide
theorem zi_w : wOk zi := by
  show (0 : Int) ≤ 0 ∧ (0 : Int) < 18446744073709551616; decide
theorem dec_w : ∀ (m : Nat) (a : List Int) (r : List In6), decF m a = some r → ∀ x ∈ r, wOk x
  | 0, a, r, h => by
    simp only [decF, Option.some.injEq] at h; subst h
    intro x hx; cases hx
  | 1, a, r, h => by
    simp only [decF] at h; split at h
    · cases h
    · obtain rfl := Option.some.inj h
      intro x hx
      rw [List.mem_singleton.1 hx]; exact rd_w _
  | m + 2, a, r, h => by
    simp only [decF] at h
    split at h
    · split at h
      · obtain ⟨r', h3, rfl⟩ := Option.map_eq_some_iff.1 h
        have := dec_w m _ _ h3
        intro x hx
        rcases List.mem_cons.1 hx with rfl | hx
        · exact wide_w _ _
        rcases List.mem_cons.1 hx with rfl | hx
        · exact zi_w
        exact this x hx
      · cases h
    · obtain ⟨r', h3, rfl⟩ := Option.map_eq_some_iff.1 h
      have := dec_w (m + 1) _ _ h3
      intro x hx
      rcases List.mem_cons.1 hx with rfl | hx
      · exact rd_w _
      exact this x hx
theorem CodeBack_pure (x : PTs.D ps_clevislaw03CodeBack) (hw : WfL ps_clevislaw03CodeBack x) (hz : SzL ps_clevislaw03CodeBack x) :
    L_clevislaw03CodeBack F_code_Decode F_clevisref03Same F_clevislaw03heads F_code_Encode x = some () := by
  have ww := ins_w hw
  unfold L_clevislaw03CodeBack
  try dsimp only
  rw [enc_eq x ww]; (try dsimp only)
  by_cases h : (encC x).2 = 0
  · refine brf (cF q9 (fun c => c h)) ?_
    obtain ⟨h1, h2, h3⟩ := enc_yes h
    obtain ⟨d1, d2, d3⟩ := enc_dec x _ ww h3
    rw [dec_eq _ d2 (by omega)]; (try dsimp only)
    have e : decC (encC x).1 = (x, 0) := by
      unfold decC
      rw [if_neg (by omega), if_neg (by omega), show (encC x).1.length / 8 = List.length x by omega, d3]
    rw [e]; (try dsimp only)
    refine brt (by rfl) ?_
    rw [sames_eq _ _ (by omega) (by omega)]; (try dsimp only)
    refine brt ?_ ?_
    · rw [decide_eq_true (Eq.refl _), ol, olI, W.mul_eq, W.wi64_id (by omega) (by omega)]
      show W.eq _ _ = true
      exact q1.2 (by omega)
    rw [heads_eq]; rfl
  · refine brt (cT q9 h) ?_
    rw [enc_no h]
    refine brt (by rfl) ?_
    rw [heads_eq]; rfl
theorem CodeBack_law (x : PTs.D ps_clevislaw03CodeBack) (hw : WfL ps_clevislaw03CodeBack x) (hz : SzL ps_clevislaw03CodeBack x) :
    ∃ (C : Cfg) (fl d : Nat), CfgOk C ∧ C.P = Tryd.prog ∧ call C fl d 7 (encL false ps_clevislaw03CodeBack x) [] getL = some () :=
  E_clevislaw03CodeBack ok_code_Decode ok_clevisref03Same ok_clevislaw03heads ok_code_Encode x (CodeBack_pure x hw hz)
theorem CodeAgain_pure (x : PTs.D ps_clevislaw03CodeAgain) (hw : WfL ps_clevislaw03CodeAgain x) (hz : SzL ps_clevislaw03CodeAgain x) :
    L_clevislaw03CodeAgain F_code_Decode F_clevislaw03heads F_code_Encode F_clevisref01Same x = some () := by
  have hb := bytes_ok hw
  have hl := bytes_le hz
  unfold L_clevislaw03CodeAgain
  try dsimp only
  rw [dec_eq x hb hl]; (try dsimp only)
  by_cases h : (decC x).2 = 0
  · refine brf (cF q9 (fun c => c h)) ?_
    obtain ⟨h1, h2, h3⟩ := dec_yes h
    have ds := dec_small x
    have dl := dec_len _ _ _ h3
    have ee := dec_enc _ _ _ (by omega) hb h3
    rw [enc_eq _ (dec_w _ _ _ h3)]; (try dsimp only)
    have e : encC (decC x).1 = (x, 0) := by
      unfold encC
      rw [if_neg (by omega), ee]
    rw [e]; (try dsimp only)
    refine brt (by rfl) ?_
    rw [same_eq x x hl hl hb hb]; (try dsimp only)
    refine brt ?_ ?_
    · rw [decide_eq_true (Eq.refl _), ol, olI, W.mul_eq, W.wi64_id (by omega) (by omega)]
      show W.eq _ _ = true
      exact q1.2 (by omega)
    rw [heads_eq]; rfl
  · refine brt (cT q9 h) ?_
    rw [dec_no h]
    refine brt (by rfl) ?_
    rw [heads_eq]; rfl
theorem CodeAgain_law (x : PTs.D ps_clevislaw03CodeAgain) (hw : WfL ps_clevislaw03CodeAgain x) (hz : SzL ps_clevislaw03CodeAgain x) :
    ∃ (C : Cfg) (fl d : Nat), CfgOk C ∧ C.P = Tryd.prog ∧ call C fl d 8 (encL false ps_clevislaw03CodeAgain x) [] getL = some () :=
  E_clevislaw03CodeAgain ok_code_Decode ok_clevislaw03heads ok_code_Encode ok_clevisref01Same x (CodeAgain_pure x hw hz)
end Go.Proofs.YtdfelkcioeinfaaDoor
