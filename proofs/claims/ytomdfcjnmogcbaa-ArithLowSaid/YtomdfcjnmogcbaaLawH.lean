import Derived.Test.YtomdfcjnmogcbaaLawG
set_option linter.unusedVariables false
set_option linter.unusedSimpArgs false
set_option maxHeartbeats 4000000
set_option maxRecDepth 100000
namespace Go.Proofs.Ytomdfcjnmogcbaa
open Go Go.Eng
variable {R : Type}

theorem and_31' (x : Int) : W.wrap .u64 (W.and .u64 x 31) = x % 32 := by rw [W.and_31, W.wu64_id (by omega) (by omega)]
open Classical in
theorem narG_eq (op : Int) (hop : isA op) (f : FT ps_arith_pair_add qs_arith_pair_add) (hf : ∀ (R : Type) (A B : Bd) (k : Bd → Option R), wfB A → wfB B → f R (A, B) k = k (opB op A B)) (a b : Bd) (wa : wfB a) (wb : wfB b) (ca : chkP a) (cb : chkP b) (y13 y14 y15 y16 y17 y18 y19 y20 y21 y22 y23 y24 y25 y26 y27 y28 y29 y30 y31 y32 y33 y34 y35 y36 y37 y38 y39 y40 y41 y42 : Int) (k : OT_arith_pair_narrow_1 → Option R) :
    arith_narrowG F_arith_tidy F_bound_Size F_bound_Low F_bound_Value F_bound_Const f F_arith_pair_rsh R (a.1, a.2.1, a.2.2.1, a.2.2.2.1, a.2.2.2.2.1, a.2.2.2.2.2, b.1, b.2.1, b.2.2.1, b.2.2.2.1, b.2.2.2.2.1, b.2.2.2.2.2, op, y13, y14, y15, y16, y17, y18, y19, y20, y21, y22, y23, y24, y25, y26, y27, y28, y29, y30, y31, y32, y33, y34, y35, y36, y37, y38, y39, y40, y41, y42, ()) k =
      k ((nar9 op a b).1, (nar9 op a b).2.1, (nar9 op a b).2.2.1, (nar9 op a b).2.2.2.1, (nar9 op a b).2.2.2.2.1, (nar9 op a b).2.2.2.2.2, y13, y14, y15, y16, y17, y18, y19, y20, y21, y22, y23, y24, y25, y26, y27, y28, y29, y30, y31, y32, y33, y34, y35, y36, y37, y38, y39, y40, y41, y42, ()) := by
  have la := low_wf wa ca
  have lb := low_wf wb cb
  obtain ⟨(a1 : Int), (a2 : Int), (a3 : Int), (a4 : Int), (a5 : Int), (a6 : Int)⟩ := a
  obtain ⟨(b1 : Int), (b2 : Int), (b3 : Int), (b4 : Int), (b5 : Int), (b6 : Int)⟩ := b
  simp only [arith_narrowG, Low_eq, Value_eq, Const_eq, Size4, aTidy_eq, pRsh_eq, eta6', and_31']
  unfold nar9
  generalize lowB (a1, a2, a3, a4, a5, a6) = A at la ⊢
  generalize lowB (b1, b2, b3, b4, b5, b6) = B at lb ⊢
  have pb : p64 B.1 := u64_lo lb.1.1
  have hfB := fun k => hf R A B k la.1 lb.1
  have wc : wfB (constB (B.1 % 32)) := wf_const ⟨by omega, by omega⟩
  have hfC := fun k => hf R A (constB (B.1 % 32)) k la.1 wc
  by_cases hs : shrun op
  rotate_left
  · have h1 : ¬ op = 96 := fun h => hs (.inl h)
    have h2 : ¬ op = 112 := fun h => hs (.inr (.inl h))
    have h3 : ¬ op = 192 := fun h => hs (.inr (.inr h))
    rw [if_neg hs, br_neg (by rw [W.eq_d]; simpa using h1), br_neg (by rw [W.eq_d]; simpa using h2), br_neg (by rw [W.eq_d]; simpa using h3), hfB]
  rw [if_pos hs]
  have hcond : ∀ one : Bool, W.pick (W.pick (W.ne op 112) (W.not one) false) true (W.pick (W.eq op 192) (W.gt A.2.1 2147483647) false) = true ↔ (op ≠ 112 ∧ one = false) ∨ (op = 192 ∧ 2147483647 < A.2.1) := by
    intro one
    rw [W.picko_t, W.pickf_t, W.pickf_t, W.not_t, W.ne_t, W.eq_t, W.gt_t]
  have hop2 : ∀ C : Bd, opB (if op = 192 then 112 else op) A C = if op = 192 then rshB A C else opB op A C := by
    intro C; by_cases h : op = 192
    · rw [if_pos h, if_pos h]; simp [opB]
    · rw [if_neg h, if_neg h]
  rw [hop2]
  by_cases h1 : B.1 = B.2.1
  · have ec : cntB B = constB (B.1 % 32) := by unfold cntB; rw [if_pos h1]
    rw [ec]
    simp only [if_pos h1, br_t, hfC]
    by_cases h2 : (op ≠ 112 ∧ ¬ B.1 = B.2.1) ∨ (op = 192 ∧ 2147483647 < A.2.1)
    · have hc := (hcond true).2 (by rcases h2 with h | h; exact absurd h1 h.2; exact .inr h)
      rw [if_pos h2]
      simp only [br_pos hc]
      rcases hs with e | e | e
      · have e1 : W.eq op 96 = true := W.eq_t.2 e
        have e2 : W.eq op 112 = false := by rw [e]; decide
        have e3 : W.eq op 192 = false := by rw [e]; decide
        have n : ¬ op = 192 := by omega
        simp only [e1, e2, e3, br_t, br_f, if_neg n]
      · have e1 : W.eq op 96 = false := by rw [e]; decide
        have e2 : W.eq op 112 = true := W.eq_t.2 e
        have e3 : W.eq op 192 = false := by rw [e]; decide
        have n : ¬ op = 192 := by omega
        simp only [e1, e2, e3, br_t, br_f, if_neg n]
      · have e1 : W.eq op 96 = false := by rw [e]; decide
        have e2 : W.eq op 112 = false := by rw [e]; decide
        have e3 : W.eq op 192 = true := W.eq_t.2 e
        simp only [e1, e2, e3, br_t, br_f, if_pos e]
    · have hc : _ = false := Bool.eq_false_iff.2 (fun h => by rcases (hcond true).1 h with h | h; cases h.2; exact h2 (.inr h))
      rw [if_neg h2]
      simp only [br_neg hc]
      rcases hs with e | e | e
      · have e1 : W.eq op 96 = true := W.eq_t.2 e
        have e2 : W.eq op 112 = false := by rw [e]; decide
        have e3 : W.eq op 192 = false := by rw [e]; decide
        have n : ¬ op = 192 := by omega
        simp only [e1, e2, e3, br_t, br_f, if_neg n]
      · have e1 : W.eq op 96 = false := by rw [e]; decide
        have e2 : W.eq op 112 = true := W.eq_t.2 e
        have e3 : W.eq op 192 = false := by rw [e]; decide
        have n : ¬ op = 192 := by omega
        simp only [e1, e2, e3, br_t, br_f, if_neg n]
      · have e1 : W.eq op 96 = false := by rw [e]; decide
        have e2 : W.eq op 112 = false := by rw [e]; decide
        have e3 : W.eq op 192 = true := W.eq_t.2 e
        simp only [e1, e2, e3, br_t, br_f, if_pos e]
  · have ec : cntB B = B := by unfold cntB; rw [if_neg h1]
    rw [ec]
    simp only [if_neg h1, br_f, hfB]
    by_cases h2 : (op ≠ 112 ∧ ¬ B.1 = B.2.1) ∨ (op = 192 ∧ 2147483647 < A.2.1)
    · have hc := (hcond false).2 (by rcases h2 with h | h; exact .inl ⟨h.1, rfl⟩; exact .inr h)
      rw [if_pos h2]
      simp only [br_pos hc]
      rcases hs with e | e | e
      · have e1 : W.eq op 96 = true := W.eq_t.2 e
        have e2 : W.eq op 112 = false := by rw [e]; decide
        have e3 : W.eq op 192 = false := by rw [e]; decide
        have n : ¬ op = 192 := by omega
        simp only [e1, e2, e3, br_t, br_f, if_neg n]
      · have e1 : W.eq op 96 = false := by rw [e]; decide
        have e2 : W.eq op 112 = true := W.eq_t.2 e
        have e3 : W.eq op 192 = false := by rw [e]; decide
        have n : ¬ op = 192 := by omega
        simp only [e1, e2, e3, br_t, br_f, if_neg n]
      · have e1 : W.eq op 96 = false := by rw [e]; decide
        have e2 : W.eq op 112 = false := by rw [e]; decide
        have e3 : W.eq op 192 = true := W.eq_t.2 e
        simp only [e1, e2, e3, br_t, br_f, if_pos e]
    · have hc : _ = false := Bool.eq_false_iff.2 (fun h => by rcases (hcond false).1 h with h | h; exact h2 (.inl ⟨h.1, h1⟩); exact h2 (.inr h))
      rw [if_neg h2]
      simp only [br_neg hc]
      rcases hs with e | e | e
      · have e1 : W.eq op 96 = true := W.eq_t.2 e
        have e2 : W.eq op 112 = false := by rw [e]; decide
        have e3 : W.eq op 192 = false := by rw [e]; decide
        have n : ¬ op = 192 := by omega
        simp only [e1, e2, e3, br_t, br_f, if_neg n]
      · have e1 : W.eq op 96 = false := by rw [e]; decide
        have e2 : W.eq op 112 = true := W.eq_t.2 e
        have e3 : W.eq op 192 = false := by rw [e]; decide
        have n : ¬ op = 192 := by omega
        simp only [e1, e2, e3, br_t, br_f, if_neg n]
      · have e1 : W.eq op 96 = false := by rw [e]; decide
        have e2 : W.eq op 112 = false := by rw [e]; decide
        have e3 : W.eq op 192 = true := W.eq_t.2 e
        simp only [e1, e2, e3, br_t, br_f, if_pos e]
end Go.Proofs.Ytomdfcjnmogcbaa
