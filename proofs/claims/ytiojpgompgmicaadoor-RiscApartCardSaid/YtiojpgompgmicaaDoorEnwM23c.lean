import Derived.Test.YtiojpgompgmicaaDoorEnwM23b
set_option linter.unusedVariables false
set_option linter.unusedSimpArgs false
set_option maxHeartbeats 8000000
set_option maxRecDepth 100000
namespace Go.Proofs.YtiojpgompgmicaaDoor
open Go Go.Eng
variable {R : Type}
theorem idx_cases (c : Int) : (c = 16 ∨ c = 32 ∨ c = 48 ∨ c = 64 ∨ c = 80 ∨ c = 96 ∨ c = 112 ∨ c = 160 ∨ c = 176 ∨ c = 192 ∨ c = 208) ∨ idx c = -1 := by
  unfold idx
  (repeat' split) <;> simp_all
theorem ralu0 (f : Int) (k : Int × Bool → Option R) : F_clevisref01Alu R (f, 0, 0, true) k = k (alu f 0 0 true) := ralu_eq (x := (f, 0, 0, true)) p0 p0 k
open Classical in
theorem check_1 (D A B Fn : Int) (Wd : Bool) (Pt Im : Int) (k : Bool → Option R) : F_risc_Check R (1, D, A, B, Fn, Wd, Pt, Im) k = k (decide (okR (1, D, A, B, Fn, Wd, Pt, Im))) := by
  show N_risc_Check F_risc_more F_risc_one F_slices_Index_int_int R (1, D, A, B, Fn, Wd, Pt, Im) k = _
  unfold N_risc_Check
  by_cases hF : (alu Fn 0 0 true).2 = true
  · have hF' := alu_ok.1 hF
    rcases hF' with rfl | rfl | rfl | rfl | rfl | rfl | rfl | rfl | rfl | rfl | rfl | rfl | rfl
    all_goals (cases Wd <;> simp [br_t, br_f, W.eq_d, W.lt_d, W.gt_d, W.le_d, W.ge_d, W.ne_d, W.pick_eq, W.eqB, W.and2, W.or2, more_eq, one_eq, push, okR, within_eq, reg_eq, ralu0, hF, b1, W.quo, W.wi64, W.mul] <;> (congr 1; rw [Bool.eq_iff_iff]; simp only [Bool.and_eq_true, Bool.or_eq_true, decide_eq_true_eq, Bool.not_eq_true', decide_eq_false_iff_not]; omega))
  · simp [br_t, br_f, W.eq_d, W.lt_d, W.gt_d, W.le_d, W.ge_d, W.ne_d, W.pick_eq, W.eqB, W.and2, W.or2, more_eq, one_eq, push, okR, within_eq, reg_eq, ralu0, hF]
open Classical in
theorem check_20 (D A B Fn : Int) (Wd : Bool) (Pt Im : Int) (k : Bool → Option R) : F_risc_Check R (20, D, A, B, Fn, Wd, Pt, Im) k = k (decide (okR (20, D, A, B, Fn, Wd, Pt, Im))) := by
  show N_risc_Check F_risc_more F_risc_one F_slices_Index_int_int R (20, D, A, B, Fn, Wd, Pt, Im) k = _
  unfold N_risc_Check
  dsimp only
  rw [index_eq]
  rcases idx_cases Fn with hF | hF
  · rcases hF with rfl | rfl | rfl | rfl | rfl | rfl | rfl | rfl | rfl | rfl | rfl
    all_goals (cases Wd <;> simp [br_t, br_f, W.eq_d, W.lt_d, W.gt_d, W.le_d, W.ge_d, W.ne_d, W.pick_eq, W.eqB, W.and2, W.or2, more_eq, one_eq, push, okR, within_eq, reg_eq, number_eq, index_eq, idx, b1, W.get_eq, W.toNat] <;> (congr 1; rw [Bool.eq_iff_iff]; simp only [Bool.and_eq_true, Bool.or_eq_true, decide_eq_true_eq, Bool.not_eq_true', decide_eq_false_iff_not]; omega))
  · cases Wd <;> simp [br_t, br_f, W.eq_d, W.lt_d, W.gt_d, W.le_d, W.ge_d, W.ne_d, W.pick_eq, W.eqB, W.and2, W.or2, more_eq, one_eq, push, okR, within_eq, reg_eq, number_eq, index_eq, hF]
open Classical in
theorem check_o (op : Int) (ho : op < 1 ∨ 27 < op) (D A B Fn : Int) (Wd : Bool) (Pt Im : Int) (k : Bool → Option R) : F_risc_Check R (op, D, A, B, Fn, Wd, Pt, Im) k = k (decide (okR (op, D, A, B, Fn, Wd, Pt, Im))) := by
  show N_risc_Check F_risc_more F_risc_one F_slices_Index_int_int R (op, D, A, B, Fn, Wd, Pt, Im) k = _
  unfold N_risc_Check
  have e1 : ¬ op = 1 := by omega
  have e2 : ¬ op = 2 := by omega
  have e3 : ¬ op = 3 := by omega
  have e20 : ¬ op = 20 := by omega
  have e21 : ¬ op = 21 := by omega
  have e22 : ¬ op = 22 := by omega
  have e23 : ¬ op = 23 := by omega
  have e24 : ¬ op = 24 := by omega
  have e25 : ¬ op = 25 := by omega
  have e26 : ¬ op = 26 := by omega
  have e27 : ¬ op = 27 := by omega
  rcases ho with ho | ho
  · have r1 : ¬ 4 ≤ op := by omega
    have r2 : ¬ 12 ≤ op := by omega
    simp [br_t, br_f, W.eq_d, W.lt_d, W.gt_d, W.le_d, W.ge_d, W.ne_d, W.pick_eq, W.eqB, W.and2, W.or2, more_eq, one_eq, push, okR, within_eq, reg_eq, e1, e2, e3, e20, e21, e22, e23, e24, e25, e26, e27, r1, r2]
  · have r1 : ¬ op < 12 := by omega
    have r2 : ¬ op < 20 := by omega
    simp [br_t, br_f, W.eq_d, W.lt_d, W.gt_d, W.le_d, W.ge_d, W.ne_d, W.pick_eq, W.eqB, W.and2, W.or2, more_eq, one_eq, push, okR, within_eq, reg_eq, e1, e2, e3, e20, e21, e22, e23, e24, e25, e26, e27, r1, r2]
open Classical in
theorem check_eq (x : PTs.D ps_risc_Check) (k : Bool → Option R) : F_risc_Check R x k = k (decide (okR x)) := by
  obtain ⟨(op : Int), (D : Int), (A : Int), (B : Int), (Fn : Int), (Wd : Bool), (Pt : Int), (Im : Int)⟩ := x
  by_cases h1 : op = 1
  · subst h1; exact check_1 ..
  by_cases h2 : op = 2
  · subst h2; exact check_2 ..
  by_cases h3 : op = 3
  · subst h3; exact check_3 ..
  by_cases h4 : op = 4
  · subst h4; exact check_4 ..
  by_cases h5 : op = 5
  · subst h5; exact check_5 ..
  by_cases h6 : op = 6
  · subst h6; exact check_6 ..
  by_cases h7 : op = 7
  · subst h7; exact check_7 ..
  by_cases h8 : op = 8
  · subst h8; exact check_8 ..
  by_cases h9 : op = 9
  · subst h9; exact check_9 ..
  by_cases h10 : op = 10
  · subst h10; exact check_10 ..
  by_cases h11 : op = 11
  · subst h11; exact check_11 ..
  by_cases h12 : op = 12
  · subst h12; exact check_12 ..
  by_cases h13 : op = 13
  · subst h13; exact check_13 ..
  by_cases h14 : op = 14
  · subst h14; exact check_14 ..
  by_cases h15 : op = 15
  · subst h15; exact check_15 ..
  by_cases h16 : op = 16
  · subst h16; exact check_16 ..
  by_cases h17 : op = 17
  · subst h17; exact check_17 ..
  by_cases h18 : op = 18
  · subst h18; exact check_18 ..
  by_cases h19 : op = 19
  · subst h19; exact check_19 ..
  by_cases h20 : op = 20
  · subst h20; exact check_20 ..
  by_cases h21 : op = 21
  · subst h21; exact check_21 ..
  by_cases h22 : op = 22
  · subst h22; exact check_22 ..
  by_cases h23 : op = 23
  · subst h23; exact check_23 ..
  by_cases h24 : op = 24
  · subst h24; exact check_24 ..
  by_cases h25 : op = 25
  · subst h25; exact check_25 ..
  by_cases h26 : op = 26
  · subst h26; exact check_26 ..
  by_cases h27 : op = 27
  · subst h27; exact check_27 ..
  exact check_o op (by omega) ..
open Classical in
theorem rcheck_1 (D A B Fn : Int) (Wd : Bool) (Pt Im : Int) (k : Bool → Option R) : F_clevisref23Check R (1, D, A, B, Fn, Wd, Pt, Im) k = k (decide (okR (1, D, A, B, Fn, Wd, Pt, Im))) := by
  show N_clevisref23Check F_clevisref23number F_clevisref01Alu F_clevisref23within F_clevisref23reg R (1, D, A, B, Fn, Wd, Pt, Im) k = _
  unfold N_clevisref23Check
  by_cases hF : (alu Fn 0 0 true).2 = true
  · have hF' := alu_ok.1 hF
    rcases hF' with rfl | rfl | rfl | rfl | rfl | rfl | rfl | rfl | rfl | rfl | rfl | rfl | rfl
    all_goals (cases Wd <;> simp [br_t, br_f, W.eq_d, W.lt_d, W.gt_d, W.le_d, W.ge_d, W.ne_d, W.pick_eq, W.eqB, W.and2, W.or2, more_eq, one_eq, push, okR, within_eq, reg_eq, ralu0, hF, b1, W.quo, W.wi64, W.mul] <;> (try rw [ralu0]) <;> (try simp [hF]) <;> (try congr 1) <;> (try (rw [Bool.eq_iff_iff]; simp only [Bool.and_eq_true, Bool.or_eq_true, decide_eq_true_eq, Bool.not_eq_true', decide_eq_false_iff_not]; omega)))
  · simp [br_t, br_f, W.eq_d, W.lt_d, W.gt_d, W.le_d, W.ge_d, W.ne_d, W.pick_eq, W.eqB, W.and2, W.or2, more_eq, one_eq, push, okR, within_eq, reg_eq, ralu0, hF]
    rw [ralu0]; simp [hF]
open Classical in
theorem rcheck_20 (D A B Fn : Int) (Wd : Bool) (Pt Im : Int) (k : Bool → Option R) : F_clevisref23Check R (20, D, A, B, Fn, Wd, Pt, Im) k = k (decide (okR (20, D, A, B, Fn, Wd, Pt, Im))) := by
  show N_clevisref23Check F_clevisref23number F_clevisref01Alu F_clevisref23within F_clevisref23reg R (20, D, A, B, Fn, Wd, Pt, Im) k = _
  unfold N_clevisref23Check
  rcases idx_cases Fn with hF | hF
  · rcases hF with rfl | rfl | rfl | rfl | rfl | rfl | rfl | rfl | rfl | rfl | rfl
    all_goals (cases Wd <;> simp [br_t, br_f, W.eq_d, W.lt_d, W.gt_d, W.le_d, W.ge_d, W.ne_d, W.pick_eq, W.eqB, W.and2, W.or2, more_eq, one_eq, push, okR, within_eq, reg_eq, number_eq, index_eq, idx, b1, W.get_eq, W.toNat] <;> (congr 1; rw [Bool.eq_iff_iff]; simp only [Bool.and_eq_true, Bool.or_eq_true, decide_eq_true_eq, Bool.not_eq_true', decide_eq_false_iff_not]; omega))
  · cases Wd <;> simp [br_t, br_f, W.eq_d, W.lt_d, W.gt_d, W.le_d, W.ge_d, W.ne_d, W.pick_eq, W.eqB, W.and2, W.or2, more_eq, one_eq, push, okR, within_eq, reg_eq, number_eq, index_eq, hF]
open Classical in
theorem rcheck_o (op : Int) (ho : op < 1 ∨ 27 < op) (D A B Fn : Int) (Wd : Bool) (Pt Im : Int) (k : Bool → Option R) : F_clevisref23Check R (op, D, A, B, Fn, Wd, Pt, Im) k = k (decide (okR (op, D, A, B, Fn, Wd, Pt, Im))) := by
  show N_clevisref23Check F_clevisref23number F_clevisref01Alu F_clevisref23within F_clevisref23reg R (op, D, A, B, Fn, Wd, Pt, Im) k = _
  unfold N_clevisref23Check
  have e1 : ¬ op = 1 := by omega
  have e2 : ¬ op = 2 := by omega
  have e3 : ¬ op = 3 := by omega
  have e20 : ¬ op = 20 := by omega
  have e21 : ¬ op = 21 := by omega
  have e22 : ¬ op = 22 := by omega
  have e23 : ¬ op = 23 := by omega
  have e24 : ¬ op = 24 := by omega
  have e25 : ¬ op = 25 := by omega
  have e26 : ¬ op = 26 := by omega
  have e27 : ¬ op = 27 := by omega
  rcases ho with ho | ho
  · have r1 : ¬ 4 ≤ op := by omega
    have r2 : ¬ 12 ≤ op := by omega
    simp [br_t, br_f, W.eq_d, W.lt_d, W.gt_d, W.le_d, W.ge_d, W.ne_d, W.pick_eq, W.eqB, W.and2, W.or2, more_eq, one_eq, push, okR, within_eq, reg_eq, e1, e2, e3, e20, e21, e22, e23, e24, e25, e26, e27, r1, r2]
  · have r1 : ¬ op < 12 := by omega
    have r2 : ¬ op < 20 := by omega
    simp [br_t, br_f, W.eq_d, W.lt_d, W.gt_d, W.le_d, W.ge_d, W.ne_d, W.pick_eq, W.eqB, W.and2, W.or2, more_eq, one_eq, push, okR, within_eq, reg_eq, e1, e2, e3, e20, e21, e22, e23, e24, e25, e26, e27, r1, r2]
open Classical in
theorem rcheck_eq (x : PTs.D ps_clevisref23Check) (k : Bool → Option R) : F_clevisref23Check R x k = k (decide (okR x)) := by
  obtain ⟨(op : Int), (D : Int), (A : Int), (B : Int), (Fn : Int), (Wd : Bool), (Pt : Int), (Im : Int)⟩ := x
  by_cases h1 : op = 1
  · subst h1; exact rcheck_1 ..
  by_cases h2 : op = 2
  · subst h2; exact rcheck_2 ..
  by_cases h3 : op = 3
  · subst h3; exact rcheck_3 ..
  by_cases h4 : op = 4
  · subst h4; exact rcheck_4 ..
  by_cases h5 : op = 5
  · subst h5; exact rcheck_5 ..
  by_cases h6 : op = 6
  · subst h6; exact rcheck_6 ..
  by_cases h7 : op = 7
  · subst h7; exact rcheck_7 ..
  by_cases h8 : op = 8
  · subst h8; exact rcheck_8 ..
  by_cases h9 : op = 9
  · subst h9; exact rcheck_9 ..
  by_cases h10 : op = 10
  · subst h10; exact rcheck_10 ..
  by_cases h11 : op = 11
  · subst h11; exact rcheck_11 ..
  by_cases h12 : op = 12
  · subst h12; exact rcheck_12 ..
  by_cases h13 : op = 13
  · subst h13; exact rcheck_13 ..
  by_cases h14 : op = 14
  · subst h14; exact rcheck_14 ..
  by_cases h15 : op = 15
  · subst h15; exact rcheck_15 ..
  by_cases h16 : op = 16
  · subst h16; exact rcheck_16 ..
  by_cases h17 : op = 17
  · subst h17; exact rcheck_17 ..
  by_cases h18 : op = 18
  · subst h18; exact rcheck_18 ..
  by_cases h19 : op = 19
  · subst h19; exact rcheck_19 ..
  by_cases h20 : op = 20
  · subst h20; exact rcheck_20 ..
  by_cases h21 : op = 21
  · subst h21; exact rcheck_21 ..
  by_cases h22 : op = 22
  · subst h22; exact rcheck_22 ..
  by_cases h23 : op = 23
  · subst h23; exact rcheck_23 ..
  by_cases h24 : op = 24
  · subst h24; exact rcheck_24 ..
  by_cases h25 : op = 25
  · subst h25; exact rcheck_25 ..
  by_cases h26 : op = 26
  · subst h26; exact rcheck_26 ..
  by_cases h27 : op = 27
  · subst h27; exact rcheck_27 ..
  exact rcheck_o op (by omega) ..
end Go.Proofs.YtiojpgompgmicaaDoor
