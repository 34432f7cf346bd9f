import Derived.Test.YtomdfcjnmogcbaaLawH
set_option linter.unusedVariables false
set_option linter.unusedSimpArgs false
set_option maxHeartbeats 4000000
set_option maxRecDepth 100000
namespace Go.Proofs.Ytomdfcjnmogcbaa
open Go Go.Eng
variable {R : Type}

open Classical in
theorem arm_eq (op : Int) (hop : isA op) (f : FT ps_arith_pair_add qs_arith_pair_add) (hf : ∀ (R : Type) (A B : Bd) (k : Bd → Option R), wfB A → wfB B → f R (A, B) k = k (opB op A B)) (a1 a2 a3 a4 a5 a6 b1 b2 b3 b4 b5 b6 : Int) (wa : wfB (a1, a2, a3, a4, a5, a6)) (wb : wfB (b1, b2, b3, b4, b5, b6)) (w : Bool) (k : Bd × Bool → Option R)
    (E : (OT_arith_pair_narrow_1 → Option R) → Option R) (hE : ∀ k, E k = arith_narrowG F_arith_tidy F_bound_Size F_bound_Low F_bound_Value F_bound_Const f F_arith_pair_rsh R (a1, a2, a3, a4, a5, a6, b1, b2, b3, b4, b5, b6, op, a1, a2, a3, a4, a5, a6, b1, b2, b3, b4, b5, b6, 0, 0, 0, 0, 0, 0, a1, a2, a3, a4, a5, a6, b1, b2, b3, b4, b5, b6, ()) k) :
    (F_bound_Check R (a1, a2, a3, a4, a5, a6) fun y =>
      br (W.not (W.pick false true (W.not y)))
        (F_bound_Check R (b1, b2, b3, b4, b5, b6) fun y =>
          br (W.pick false true (W.not y)) (F_bound_Any R () fun y => k ((y.1, y.2.1, y.2.2.1, y.2.2.2.1, y.2.2.2.2.1, y.2.2.2.2.2), true))
            (br w
              (f R ((a1, a2, a3, a4, a5, a6), b1, b2, b3, b4, b5, b6) fun y => F_arith_tidy R (y.1, y.2.1, y.2.2.1, y.2.2.2.1, y.2.2.2.2.1, y.2.2.2.2.2) fun y => k ((y.1, y.2.1, y.2.2.1, y.2.2.2.1, y.2.2.2.2.1, y.2.2.2.2.2), true))
              (E fun z => F_arith_tidy R (z.1, z.2.1, z.2.2.1, z.2.2.2.1, z.2.2.2.2.1, z.2.2.2.2.2.1) fun y => k ((y.1, y.2.1, y.2.2.1, y.2.2.2.1, y.2.2.2.2.1, y.2.2.2.2.2), true))))
        (F_bound_Any R () fun y => k ((y.1, y.2.1, y.2.2.1, y.2.2.2.1, y.2.2.2.2.1, y.2.2.2.2.2), true))) =
      k (if ¬ (chkP (a1, a2, a3, a4, a5, a6) ∧ chkP (b1, b2, b3, b4, b5, b6)) then (anyB, true) else (tidy9 (if w = true then opB op (a1, a2, a3, a4, a5, a6) (b1, b2, b3, b4, b5, b6) else nar9 op (a1, a2, a3, a4, a5, a6) (b1, b2, b3, b4, b5, b6)), true)) := by
  have hfa := fun (k : Bd → Option R) => hf R (a1, a2, a3, a4, a5, a6) (b1, b2, b3, b4, b5, b6) k wa wb
  simp only [Check_eq, Any_eq, aTidy_eq, eta6', hE, W.not_eq, Bool.not_not]
  by_cases h1 : chkP (a1, a2, a3, a4, a5, a6)
  rotate_left
  · rw [decide_eq_false h1, if_pos (show ¬ (chkP (a1, a2, a3, a4, a5, a6) ∧ chkP (b1, b2, b3, b4, b5, b6)) from fun h => h1 h.1)]; exact br_f _ _
  by_cases h2 : chkP (b1, b2, b3, b4, b5, b6)
  rotate_left
  · rw [decide_eq_true h1, decide_eq_false h2, if_pos (show ¬ (chkP (a1, a2, a3, a4, a5, a6) ∧ chkP (b1, b2, b3, b4, b5, b6)) from fun h => h2 h.2), br_pos (show (!W.pick false true (!true)) = true from rfl)]; exact br_t _ _
  have hn := fun k => narG_eq (R := R) op hop f hf (a1, a2, a3, a4, a5, a6) (b1, b2, b3, b4, b5, b6) wa wb h1 h2 a1 a2 a3 a4 a5 a6 b1 b2 b3 b4 b5 b6 0 0 0 0 0 0 a1 a2 a3 a4 a5 a6 b1 b2 b3 b4 b5 b6 k
  rw [decide_eq_true h1, decide_eq_true h2, if_neg (show ¬ ¬ (chkP (a1, a2, a3, a4, a5, a6) ∧ chkP (b1, b2, b3, b4, b5, b6)) from fun h => h ⟨h1, h2⟩), br_pos (show (!W.pick false true (!true)) = true from rfl), br_neg (show W.pick false true (!true) = false from rfl)]
  cases w with
  | true => simp only [br_t, if_true, hfa]
  | false => simp only [br_f, Bool.false_eq_true, if_false, hn]
theorem opB_add (A B : Bd) : opB 0 A B = addB A B := by unfold opB; simp
theorem opB_sub (A B : Bd) : opB 16 A B = diffB A B := by unfold opB; simp
theorem opB_neg (A B : Bd) : opB 128 A B = diffB (constB 0) A := by unfold opB; simp
theorem opB_mov (A B : Bd) : opB 176 A B = B := by unfold opB; simp
theorem opB_mul (A B : Bd) : opB 32 A B = mulB A B := by unfold opB; simp
theorem opB_div (A B : Bd) : opB 48 A B = divB A B := by unfold opB; simp
theorem opB_mod (A B : Bd) : opB 144 A B = modB A B := by unfold opB; simp
theorem opB_and (A B : Bd) : opB 80 A B = andB A B := by unfold opB; simp
theorem opB_or (A B : Bd) : opB 64 A B = orB A B := by unfold opB; simp
theorem opB_xor (A B : Bd) : opB 160 A B = xorB A B := by unfold opB; simp
theorem opB_lsh (A B : Bd) : opB 96 A B = lshB A B := by unfold opB; simp
theorem opB_rsh (A B : Bd) : opB 112 A B = rshB A B := by unfold opB; simp
theorem opB_arsh (A B : Bd) : opB 192 A B = arshB A B := by unfold opB; simp
open Classical in
theorem Alu_eq (op : Int) (a b : Bd) (w : Bool) (wa : wfB a) (wb : wfB b) (k : Bd × Bool → Option R) : F_arith_Alu R (op, a, b, w) k = k (alu9 op a b w) := by
  obtain ⟨(a1 : Int), (a2 : Int), (a3 : Int), (a4 : Int), (a5 : Int), (a6 : Int)⟩ := a
  obtain ⟨(b1 : Int), (b2 : Int), (b3 : Int), (b4 : Int), (b5 : Int), (b6 : Int)⟩ := b
  simp only [F_arith_Alu, N_arith_Alu]
  unfold alu9
  by_cases h0 : op = 0
  · rw [br_pos (W.eq_t.2 h0)]
    have ho : isA op := by rw [h0]; unfold isA; simp
    rw [if_neg (show ¬ ¬ isA op from fun h => h ho)]
    exact arm_eq op ho F_arith_pair_add (fun R A B k ha hb => by rw [h0, opB_add]; exact pAdd_eq (A, B) ha hb k) a1 a2 a3 a4 a5 a6 b1 b2 b3 b4 b5 b6 wa wb w k (E_arith_pair_narrow_1 R (a1, a2, a3, a4, a5, a6, b1, b2, b3, b4, b5, b6, op, a1, a2, a3, a4, a5, a6, b1, b2, b3, b4, b5, b6, 0, 0, 0, 0, 0, 0, a1, a2, a3, a4, a5, a6, b1, b2, b3, b4, b5, b6, ())) (fun k => rfl)
  rw [br_neg (show W.eq op 0 = false by rw [W.eq_d]; exact decide_eq_false h0)]
  by_cases h16 : op = 16
  · rw [br_pos (W.eq_t.2 h16)]
    have ho : isA op := by rw [h16]; unfold isA; simp
    rw [if_neg (show ¬ ¬ isA op from fun h => h ho)]
    exact arm_eq op ho F_arith_pair_sub (fun R A B k ha hb => by rw [h16, opB_sub]; exact pSub_eq (A, B) ha hb k) a1 a2 a3 a4 a5 a6 b1 b2 b3 b4 b5 b6 wa wb w k (E_arith_pair_narrow_2 R (a1, a2, a3, a4, a5, a6, b1, b2, b3, b4, b5, b6, op, a1, a2, a3, a4, a5, a6, b1, b2, b3, b4, b5, b6, 0, 0, 0, 0, 0, 0, a1, a2, a3, a4, a5, a6, b1, b2, b3, b4, b5, b6, ())) (fun k => rfl)
  rw [br_neg (show W.eq op 16 = false by rw [W.eq_d]; exact decide_eq_false h16)]
  by_cases h128 : op = 128
  · rw [br_pos (W.eq_t.2 h128)]
    have ho : isA op := by rw [h128]; unfold isA; simp
    rw [if_neg (show ¬ ¬ isA op from fun h => h ho)]
    exact arm_eq op ho F_arith_pair_neg (fun R A B k ha hb => by rw [h128, opB_neg]; exact pNeg_eq (A, B) ha k) a1 a2 a3 a4 a5 a6 b1 b2 b3 b4 b5 b6 wa wb w k (E_arith_pair_narrow_3 R (a1, a2, a3, a4, a5, a6, b1, b2, b3, b4, b5, b6, op, a1, a2, a3, a4, a5, a6, b1, b2, b3, b4, b5, b6, 0, 0, 0, 0, 0, 0, a1, a2, a3, a4, a5, a6, b1, b2, b3, b4, b5, b6, ())) (fun k => rfl)
  rw [br_neg (show W.eq op 128 = false by rw [W.eq_d]; exact decide_eq_false h128)]
  by_cases h176 : op = 176
  · rw [br_pos (W.eq_t.2 h176)]
    have ho : isA op := by rw [h176]; unfold isA; simp
    rw [if_neg (show ¬ ¬ isA op from fun h => h ho)]
    exact arm_eq op ho F_arith_pair_mov (fun R A B k ha hb => by rw [h176, opB_mov]; exact pMov_eq (A, B) k) a1 a2 a3 a4 a5 a6 b1 b2 b3 b4 b5 b6 wa wb w k (E_arith_pair_narrow_4 R (a1, a2, a3, a4, a5, a6, b1, b2, b3, b4, b5, b6, op, a1, a2, a3, a4, a5, a6, b1, b2, b3, b4, b5, b6, 0, 0, 0, 0, 0, 0, a1, a2, a3, a4, a5, a6, b1, b2, b3, b4, b5, b6, ())) (fun k => rfl)
  rw [br_neg (show W.eq op 176 = false by rw [W.eq_d]; exact decide_eq_false h176)]
  by_cases h32 : op = 32
  · rw [br_pos (W.eq_t.2 h32)]
    have ho : isA op := by rw [h32]; unfold isA; simp
    rw [if_neg (show ¬ ¬ isA op from fun h => h ho)]
    exact arm_eq op ho F_arith_pair_mul (fun R A B k ha hb => by rw [h32, opB_mul]; exact pMul_eq (A, B) k) a1 a2 a3 a4 a5 a6 b1 b2 b3 b4 b5 b6 wa wb w k (E_arith_pair_narrow_5 R (a1, a2, a3, a4, a5, a6, b1, b2, b3, b4, b5, b6, op, a1, a2, a3, a4, a5, a6, b1, b2, b3, b4, b5, b6, 0, 0, 0, 0, 0, 0, a1, a2, a3, a4, a5, a6, b1, b2, b3, b4, b5, b6, ())) (fun k => rfl)
  rw [br_neg (show W.eq op 32 = false by rw [W.eq_d]; exact decide_eq_false h32)]
  by_cases h48 : op = 48
  · rw [br_pos (W.eq_t.2 h48)]
    have ho : isA op := by rw [h48]; unfold isA; simp
    rw [if_neg (show ¬ ¬ isA op from fun h => h ho)]
    exact arm_eq op ho F_arith_pair_div (fun R A B k ha hb => by rw [h48, opB_div]; exact pDiv_eq (A, B) k) a1 a2 a3 a4 a5 a6 b1 b2 b3 b4 b5 b6 wa wb w k (E_arith_pair_narrow_6 R (a1, a2, a3, a4, a5, a6, b1, b2, b3, b4, b5, b6, op, a1, a2, a3, a4, a5, a6, b1, b2, b3, b4, b5, b6, 0, 0, 0, 0, 0, 0, a1, a2, a3, a4, a5, a6, b1, b2, b3, b4, b5, b6, ())) (fun k => rfl)
  rw [br_neg (show W.eq op 48 = false by rw [W.eq_d]; exact decide_eq_false h48)]
  by_cases h144 : op = 144
  · rw [br_pos (W.eq_t.2 h144)]
    have ho : isA op := by rw [h144]; unfold isA; simp
    rw [if_neg (show ¬ ¬ isA op from fun h => h ho)]
    exact arm_eq op ho F_arith_pair_mod (fun R A B k ha hb => by rw [h144, opB_mod]; exact pMod_eq (A, B) k) a1 a2 a3 a4 a5 a6 b1 b2 b3 b4 b5 b6 wa wb w k (E_arith_pair_narrow_7 R (a1, a2, a3, a4, a5, a6, b1, b2, b3, b4, b5, b6, op, a1, a2, a3, a4, a5, a6, b1, b2, b3, b4, b5, b6, 0, 0, 0, 0, 0, 0, a1, a2, a3, a4, a5, a6, b1, b2, b3, b4, b5, b6, ())) (fun k => rfl)
  rw [br_neg (show W.eq op 144 = false by rw [W.eq_d]; exact decide_eq_false h144)]
  by_cases h80 : op = 80
  · rw [br_pos (W.eq_t.2 h80)]
    have ho : isA op := by rw [h80]; unfold isA; simp
    rw [if_neg (show ¬ ¬ isA op from fun h => h ho)]
    exact arm_eq op ho F_arith_pair_and (fun R A B k ha hb => by rw [h80, opB_and]; exact pAnd_eq (A, B) k) a1 a2 a3 a4 a5 a6 b1 b2 b3 b4 b5 b6 wa wb w k (E_arith_pair_narrow_8 R (a1, a2, a3, a4, a5, a6, b1, b2, b3, b4, b5, b6, op, a1, a2, a3, a4, a5, a6, b1, b2, b3, b4, b5, b6, 0, 0, 0, 0, 0, 0, a1, a2, a3, a4, a5, a6, b1, b2, b3, b4, b5, b6, ())) (fun k => rfl)
  rw [br_neg (show W.eq op 80 = false by rw [W.eq_d]; exact decide_eq_false h80)]
  by_cases h64 : op = 64
  · rw [br_pos (W.eq_t.2 h64)]
    have ho : isA op := by rw [h64]; unfold isA; simp
    rw [if_neg (show ¬ ¬ isA op from fun h => h ho)]
    exact arm_eq op ho F_arith_pair_or (fun R A B k ha hb => by rw [h64, opB_or]; exact pOr_eq (A, B) k) a1 a2 a3 a4 a5 a6 b1 b2 b3 b4 b5 b6 wa wb w k (E_arith_pair_narrow_9 R (a1, a2, a3, a4, a5, a6, b1, b2, b3, b4, b5, b6, op, a1, a2, a3, a4, a5, a6, b1, b2, b3, b4, b5, b6, 0, 0, 0, 0, 0, 0, a1, a2, a3, a4, a5, a6, b1, b2, b3, b4, b5, b6, ())) (fun k => rfl)
  rw [br_neg (show W.eq op 64 = false by rw [W.eq_d]; exact decide_eq_false h64)]
  by_cases h160 : op = 160
  · rw [br_pos (W.eq_t.2 h160)]
    have ho : isA op := by rw [h160]; unfold isA; simp
    rw [if_neg (show ¬ ¬ isA op from fun h => h ho)]
    exact arm_eq op ho F_arith_pair_xor (fun R A B k ha hb => by rw [h160, opB_xor]; exact pXor_eq (A, B) k) a1 a2 a3 a4 a5 a6 b1 b2 b3 b4 b5 b6 wa wb w k (E_arith_pair_narrow_10 R (a1, a2, a3, a4, a5, a6, b1, b2, b3, b4, b5, b6, op, a1, a2, a3, a4, a5, a6, b1, b2, b3, b4, b5, b6, 0, 0, 0, 0, 0, 0, a1, a2, a3, a4, a5, a6, b1, b2, b3, b4, b5, b6, ())) (fun k => rfl)
  rw [br_neg (show W.eq op 160 = false by rw [W.eq_d]; exact decide_eq_false h160)]
  by_cases h96 : op = 96
  · rw [br_pos (W.eq_t.2 h96)]
    have ho : isA op := by rw [h96]; unfold isA; simp
    rw [if_neg (show ¬ ¬ isA op from fun h => h ho)]
    exact arm_eq op ho F_arith_pair_lsh (fun R A B k ha hb => by rw [h96, opB_lsh]; exact pLsh_eq (A, B) ha k) a1 a2 a3 a4 a5 a6 b1 b2 b3 b4 b5 b6 wa wb w k (E_arith_pair_narrow_11 R (a1, a2, a3, a4, a5, a6, b1, b2, b3, b4, b5, b6, op, a1, a2, a3, a4, a5, a6, b1, b2, b3, b4, b5, b6, 0, 0, 0, 0, 0, 0, a1, a2, a3, a4, a5, a6, b1, b2, b3, b4, b5, b6, ())) (fun k => rfl)
  rw [br_neg (show W.eq op 96 = false by rw [W.eq_d]; exact decide_eq_false h96)]
  by_cases h112 : op = 112
  · rw [br_pos (W.eq_t.2 h112)]
    have ho : isA op := by rw [h112]; unfold isA; simp
    rw [if_neg (show ¬ ¬ isA op from fun h => h ho)]
    exact arm_eq op ho F_arith_pair_rsh (fun R A B k ha hb => by rw [h112, opB_rsh]; exact pRsh_eq (A, B) k) a1 a2 a3 a4 a5 a6 b1 b2 b3 b4 b5 b6 wa wb w k (E_arith_pair_narrow_12 R (a1, a2, a3, a4, a5, a6, b1, b2, b3, b4, b5, b6, op, a1, a2, a3, a4, a5, a6, b1, b2, b3, b4, b5, b6, 0, 0, 0, 0, 0, 0, a1, a2, a3, a4, a5, a6, b1, b2, b3, b4, b5, b6, ())) (fun k => rfl)
  rw [br_neg (show W.eq op 112 = false by rw [W.eq_d]; exact decide_eq_false h112)]
  by_cases h192 : op = 192
  · rw [br_pos (W.eq_t.2 h192)]
    have ho : isA op := by rw [h192]; unfold isA; simp
    rw [if_neg (show ¬ ¬ isA op from fun h => h ho)]
    exact arm_eq op ho F_arith_pair_arsh (fun R A B k ha hb => by rw [h192, opB_arsh]; exact pArsh_eq (A, B) k) a1 a2 a3 a4 a5 a6 b1 b2 b3 b4 b5 b6 wa wb w k (E_arith_pair_narrow_13 R (a1, a2, a3, a4, a5, a6, b1, b2, b3, b4, b5, b6, op, a1, a2, a3, a4, a5, a6, b1, b2, b3, b4, b5, b6, 0, 0, 0, 0, 0, 0, a1, a2, a3, a4, a5, a6, b1, b2, b3, b4, b5, b6, ())) (fun k => rfl)
  rw [br_neg (show W.eq op 192 = false by rw [W.eq_d]; exact decide_eq_false h192)]
  have ho : ¬ isA op := by unfold isA; omega
  rw [if_pos ho]
  simp only [Any_eq, eta6']
end Go.Proofs.Ytomdfcjnmogcbaa
