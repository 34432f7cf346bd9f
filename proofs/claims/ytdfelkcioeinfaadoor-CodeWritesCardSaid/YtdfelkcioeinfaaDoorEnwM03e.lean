import Derived.Test.YtdfelkcioeinfaaDoorEnwM03d
set_option linter.unusedVariables false
set_option linter.unusedSimpArgs false
set_option maxHeartbeats 4000000
set_option maxRecDepth 100000
namespace Go.Proofs.YtdfelkcioeinfaaDoor
open Go Go.Eng
theorem eqs (a : Int) : W.eq a a = true := W.eq_t.2 (Eq.refl a)
theorem u8b {n : Int} (h : wfI .u8 n) : 0 ≤ n ∧ n < 256 := by
  simp [wfI, Lit.wf, IntKind.min, IntKind.max, IntKind.signed, IntKind.bits] at h; omega
theorem bytes_ok {l : List Int} (h : WfT (.slice (.int .u8)) l) : BtOk l := btok_of fun x hx => u8b (h.2 x hx)
theorem bytes_le {l : List Int} (h : SzT (.slice (.int .u8)) l) : l.length ≤ 140737488355328 := by
  have h0 : l.length * 1 ≤ 140737488351232 := h.1
  omega
theorem dec_small (l : List Int) : (decC l).1.length ≤ 4096 := by
  unfold decC
  split
  · exact Nat.zero_le _
  · split
    · exact Nat.zero_le _
    · rename_i h
      cases e : decF (l.length / 8) l with
      | none => exact Nat.zero_le _
      | some r =>
        have := dec_len _ _ _ e
        show r.length ≤ 4096
        omega
theorem CodeReads_pure (x : PTs.D ps_clevislaw03CodeReads) (hw : WfL ps_clevislaw03CodeReads x) (hz : SzL ps_clevislaw03CodeReads x) :
    L_clevislaw03CodeReads F_code_Decode F_clevisref03Decode F_clevisref03Same F_clevislaw03heads x = some () := by
  have hb := bytes_ok hw
  have hl := bytes_le hz
  unfold L_clevislaw03CodeReads
  try dsimp only
  rw [dec_eq x hb hl]; (try dsimp only)
  rw [rdec_eq x hb hl]; (try dsimp only)
  have := dec_small x
  rw [sames_eq _ _ (by omega) (by omega)]; (try dsimp only)
  refine brt ?_ ?_
  · rw [decide_eq_true (Eq.refl _), eqs]; rfl
  rw [heads_eq]; rfl
theorem CodeReads_law (x : PTs.D ps_clevislaw03CodeReads) (hw : WfL ps_clevislaw03CodeReads x) (hz : SzL ps_clevislaw03CodeReads x) :
    ∃ (C : Cfg) (fl d : Nat), CfgOk C ∧ C.P = Tryd.prog ∧ call C fl d 3 (encL false ps_clevislaw03CodeReads x) [] getL = some () :=
  E_clevislaw03CodeReads ok_code_Decode ok_clevisref03Decode ok_clevisref03Same ok_clevislaw03heads x (CodeReads_pure x hw hz)
theorem q33 {a b c d : Int} : W.pick (W.pick (W.pick (W.ne a 0) true (W.ne b 0)) true (W.gt c 1000)) true (W.gt d 1000) = true ↔ a ≠ 0 ∨ b ≠ 0 ∨ 1000 < c ∨ 1000 < d := by
  simp only [W.pick_eq, W.ne_d, W.gt_d]
  by_cases h1 : a = 0 <;> by_cases h2 : b = 0 <;> by_cases h3 : 1000 < c <;> simp [h1, h2, h3]
theorem dec_yes {l : List Int} (h : (decC l).2 = 0) : l.length ≠ 0 ∧ l.length % 8 = 0 ∧ decF (l.length / 8) l = some (decC l).1 := by
  unfold decC at h ⊢
  split at h
  · exact absurd h (by decide)
  · rename_i h0
    split at h
    · exact absurd h (by decide)
    · rename_i h1
      rw [if_neg h0, if_neg h1]
      cases e : decF (l.length / 8) l with
      | none => rw [e] at h; exact absurd h (by decide)
      | some r => exact ⟨by omega, by omega, rfl⟩
theorem CodeJoins_pure (x : PTs.D ps_clevislaw03CodeJoins) (hw : WfL ps_clevislaw03CodeJoins x) (hz : SzL ps_clevislaw03CodeJoins x) :
    L_clevislaw03CodeJoins F_code_Decode F_clevisref03Same F_clevislaw03heads x = some () := by
  obtain ⟨(a : List Int), (b : List Int)⟩ := x
  have ha := bytes_ok hw.1
  have hb := bytes_ok hw.2
  have la : a.length ≤ 140737488355328 := bytes_le hz.1
  have lb : b.length ≤ 140737488355328 := bytes_le hz.2
  have sa := dec_small a
  have sb := dec_small b
  unfold L_clevislaw03CodeJoins
  try dsimp only
  rw [dec_eq a ha la]; (try dsimp only)
  rw [dec_eq b hb lb]; (try dsimp only)
  simp only [ol]
  by_cases h : (decC a).2 ≠ 0 ∨ (decC b).2 ≠ 0 ∨ (1000 : Int) < a.length ∨ (1000 : Int) < b.length
  · refine brt (cT q33 h) ?_
    rw [heads_eq]; rfl
  refine brf (cF q33 h) ?_
  have ea : (decC a).2 = 0 := by omega
  have eb : (decC b).2 = 0 := by omega
  obtain ⟨a1, a2, a3⟩ := dec_yes ea
  obtain ⟨b1, b2, b3⟩ := dec_yes eb
  have hab : BtOk (a ++ b) := btok_of fun x hx => by
    rcases List.mem_append.1 hx with hx | hx
    · exact u8b (hw.1.2 x hx)
    · exact u8b (hw.2.2 x hx)
  refine brt (cT qn (by unfold W.mulN; rw [W.len_eq]; omega)) (brt (cT qn (by unfold W.mulN W.addN; rw [W.len_eq, W.len_eq]; omega)) ?_)
  have e : decC (a ++ b) = ((decC a).1 ++ (decC b).1, 0) := by
    have := dec_app (a.length / 8) (b.length / 8) a b _ _ (by omega) a3 b3
    unfold decC
    rw [if_neg (by rw [List.length_append]; omega), if_neg (by rw [List.length_append]; omega), show (a ++ b).length / 8 = a.length / 8 + b.length / 8 by rw [List.length_append]; omega, this]
    rfl
  show F_code_Decode Unit (a ++ b) _ = _
  rw [dec_eq (a ++ b) hab (by simp; omega), e]; (try dsimp only)
  refine brt (by rfl) (brt (cT qn (by unfold W.mulN; rw [W.len_eq]; omega)) (brt (cT qn (by unfold W.mulN W.addN; rw [W.len_eq, W.len_eq]; omega)) ?_))
  show F_clevisref03Same Unit ((decC a).1 ++ (decC b).1, (decC a).1 ++ (decC b).1) _ = _
  rw [sames_eq _ _ (by simp; omega) (by simp; omega)]
  refine brt (decide_eq_true (Eq.refl _)) ?_
  rw [heads_eq]; rfl
theorem CodeJoins_law (x : PTs.D ps_clevislaw03CodeJoins) (hw : WfL ps_clevislaw03CodeJoins x) (hz : SzL ps_clevislaw03CodeJoins x) :
    ∃ (C : Cfg) (fl d : Nat), CfgOk C ∧ C.P = Tryd.prog ∧ call C fl d 4 (encL false ps_clevislaw03CodeJoins x) [] getL = some () :=
  E_clevislaw03CodeJoins ok_code_Decode ok_clevisref03Same ok_clevislaw03heads x (CodeJoins_pure x hw hz)
end Go.Proofs.YtdfelkcioeinfaaDoor
