import Derived.Test.YtkgoajomlglkcaaLawK
set_option linter.unusedVariables false
set_option linter.unusedSimpArgs false
set_option maxHeartbeats 4000000
set_option maxRecDepth 100000
namespace Go.Proofs.Ytkgoajomlglkcaa
open Go Go.Eng
open Classical
theorem u64s_1 {a : Int} (ha : p64 a) : U64s [a] := by
  intro i
  rcases i with _ | i
  · exact ha
  · exact ⟨by simp, by simp⟩
theorem u64s_2 {a b : Int} (ha : p64 a) (hb : p64 b) : U64s [a, b] := by
  intro i
  rcases i with _ | _ | i
  · exact ha
  · exact hb
  · exact ⟨by simp, by simp⟩
theorem u64s_3 {a b c : Int} (ha : p64 a) (hb : p64 b) (hc : p64 c) : U64s [a, b, c] := by
  intro i
  rcases i with _ | _ | _ | i
  · exact ha
  · exact hb
  · exact hc
  · exact ⟨by simp, by simp⟩
theorem u64s_0 : U64s [] := fun i => ⟨by simp, by simp⟩
/-- When a helper does: all that was asked holds. -/
theorem do_ok {l : La} {m : Me} {n : Int} {args ans : List Int} (h : (doP l m n args ans).2.2.2 = 0) :
    okH n ∧ (tblA n).length ≤ args.length ∧ ((n = 3 ∨ n = 4) → 1 ≤ args.getD 1 0 ∧ args.getD 1 0 ≤ 64) ∧ (n = 3 → accP l (args.getD 0 0) (args.getD 1 0) false = 0) ∧
    (n = 4 → accP l (args.getD 0 0) (args.getD 1 0) true = 0) ∧ mayP l m ∧ doP l m n args ans = tlP l m n args (ans.getD 0 0) := by
  unfold doP at h ⊢
  by_cases h1 : ¬ okH n ∨ args.length < (tblA n).length
  · rw [if_pos h1] at h; exact absurd h (by decide)
  by_cases h2 : (n = 3 ∨ n = 4) ∧ (args.getD 1 0 < 1 ∨ 64 < args.getD 1 0)
  · rw [if_neg h1, if_pos h2] at h; exact absurd h (by decide)
  by_cases h3 : (n = 3 ∧ accP l (args.getD 0 0) (args.getD 1 0) false ≠ 0) ∨ (n = 4 ∧ accP l (args.getD 0 0) (args.getD 1 0) true ≠ 0)
  · rw [if_neg h1, if_neg h2, if_pos h3] at h; exact absurd h (by decide)
  by_cases h4 : ¬ mayP l m
  · rw [if_neg h1, if_neg h2, if_neg h3, if_pos h4] at h; exact absurd h (by decide)
  rw [if_neg h1, if_neg h2, if_neg h3, if_neg h4]
  have k1 : okH n := by by_cases c : okH n; exact c; exact absurd (.inl c) h1
  have k2 : (tblA n).length ≤ args.length := by by_cases c : args.length < (tblA n).length; exact absurd (.inr c) h1; omega
  refine ⟨k1, k2, fun c => ?_, fun c => ?_, fun c => ?_, Classical.not_not.1 h4, rfl⟩
  · have : ¬ (args.getD 1 0 < 1 ∨ 64 < args.getD 1 0) := fun d => h2 ⟨c, d⟩
    omega
  · by_cases d : accP l (args.getD 0 0) (args.getD 1 0) false = 0; exact d; exact absurd (.inl ⟨c, d⟩) h3
  · by_cases d : accP l (args.getD 0 0) (args.getD 1 0) true = 0; exact d; exact absurd (.inr ⟨c, d⟩) h3
theorem do_err {l : La} {m : Me} {n : Int} {args ans : List Int} (h : (doP l m n args ans).2.2.2 ≠ 0) : (doP l m n args ans).2.1 = [] ∧ (doP l m n args ans).2.2.1 = (0, [], []) := by
  rw [doP_fit] at h ⊢
  by_cases c1 : fitP l m n args = 50
  · rw [if_pos c1]; exact ⟨rfl, rfl⟩
  by_cases c2 : fitP l m n args = 2
  · rw [if_neg c1, if_pos c2]; exact ⟨rfl, rfl⟩
  rw [if_neg c1, if_neg c2] at h
  exfalso; apply h
  unfold tlP
  split; · rfl
  split; · rfl
  split <;> rfl
theorem HelperSends_pure (x : PTs.D ps_clevislaw05HelperSends) (hw : WfL ps_clevislaw05HelperSends x) (hz : SzL ps_clevislaw05HelperSends x) :
    L_clevislaw05HelperSends F_helper_Do F_clevislaw05heads F_clevisref02Bytes F_clevisref01Same x = some () := by
  obtain ⟨⟨⟨(c : Int), (cw : Bool)⟩, (ms : List Ar)⟩, (m : Me), (a : Int), (n : Int)⟩ := x
  have hs : meSz m := meSz_of hz.2.1
  have hm := meSz_le hs
  have ho : meOk m := meOk_of hw.2.1
  have ha : p64 a := u64_lo hw.2.2.1
  have hn : p64 n := u64_lo hw.2.2.2
  simp only [L_clevislaw05HelperSends]
  rw [do_eq _ m 3 [a, n] [] hm hs (u64s_2 ha hn) (by simp)]
  by_cases h : (doP ((c, cw), ms) m 3 [a, n] []).2.2.2 = 0
  · obtain ⟨k1, k2, k3, k4, k5, k6, k7⟩ := do_ok h
    have k3 : 1 ≤ n ∧ n ≤ 64 := k3 (.inl rfl)
    have k4 : accP ((c, cw), ms) a n false = 0 := k4 rfl
    have et : doP ((c, cw), ms) m 3 [a, n] [] = (0, m, (3, [0, n], (bytesP ((c, cw), ms) m a n).1), 0) := k7
    have e2 : (bytesP ((c, cw), ms) m a n).2 = 0 := by unfold bytesP; rw [if_neg (fun d => d k6), if_neg (fun d => d k4)]
    have hb := bytesP_ok (l := ((c, cw), ms)) (a := a) (n := n) ho
    have hl : (bytesP ((c, cw), ms) m a n).1.length ≤ 140737488355328 := by
      unfold bytesP
      rw [if_neg (fun d => d k6), if_neg (fun d => d k4)]
      simp only [List.length_take]; omega
    rw [et, W.wi64_id (by omega) (by omega), rbytes_eq _ _ _ _ hm ha, e2, heads5_eq, heads5_eq, same_eq _ _ hl hl hb hb, decide_eq_true (Eq.refl (bytesP ((c, cw), ms) m a n).1)]
    have g1 : W.ge n 1 = true := by rw [W.ge_d]; exact decide_eq_true (by omega)
    have g2 : W.le n 64 = true := by rw [W.le_d]; exact decide_eq_true (by omega)
    have g3 : W.eq (W.get [0, n] 1 0) n = true := W.eq_t.2 rfl
    have g4 : W.eq (W.get [0, n] 0 0) 0 = true := W.eq_t.2 rfl
    have g5 : W.eq (W.ofNat (W.len [0, n])) 2 = true := W.eq_t.2 rfl
    have g6 : W.lt 0 (W.ofNat (W.len [0, n])) = true := rfl
    have g7 : W.lt 1 (W.ofNat (W.len [0, n])) = true := rfl
    have g8 : W.ne 0 0 = false := by decide
    have g9 : W.eq 0 0 = true := by decide
    simp only [g1, g2, g3, g4, g5, g6, g7, g8, g9, pick_tl, and2_tl, or2_tr, br_t, br_f]
  · have g : W.ne (doP ((c, cw), ms) m 3 [a, n] []).2.2.2 0 = true := by rw [W.ne_d]; exact decide_eq_true h
    rw [g, br_t, heads5_eq, br_t]
theorem HelperSends_law (x : PTs.D ps_clevislaw05HelperSends) (hw : WfL ps_clevislaw05HelperSends x) (hz : SzL ps_clevislaw05HelperSends x) :
    ∃ (C : Cfg) (fl d : Nat), CfgOk C ∧ C.P = Try.prog ∧ call C fl d 7 (encL false ps_clevislaw05HelperSends x) [] getL = some () :=
  E_clevislaw05HelperSends ok_helper_Do ok_clevislaw05heads ok_clevisref02Bytes ok_clevisref01Same x (HelperSends_pure x hw hz)
end Go.Proofs.Ytkgoajomlglkcaa
