import Derived.Test.YtiojpgompgmicaaDoorEnwM23a
import Derived.Test.YtiojpgompgmicaaDoorEnwW06
set_option linter.unusedVariables false
set_option linter.unusedSimpArgs false
set_option maxHeartbeats 8000000
set_option maxRecDepth 100000
namespace Go.Proofs.YtiojpgompgmicaaDoor
open Go Go.Eng
variable {R : Type}
theorem push {R α : Type} {c : Bool} {k : α → Option R} {a b : α} : br c (k a) (k b) = k (bif c then a else b) := by cases c <;> rfl
theorem one_eq (w : Bool) (k : Int → Option R) : F_risc_one R w k = k (b1 w) := by
  show N_risc_one R w k = _
  unfold N_risc_one b1; cases w <;> rfl
theorem bit_eq (w : Bool) (k : Int → Option R) : F_clevisref23bit R w k = k (b1 w) := by
  show N_clevisref23bit R w k = _
  unfold N_clevisref23bit b1; cases w <;> rfl
theorem more_eq (x : PTs.D ps_risc_more) (k : Bool → Option R) : F_risc_more R x k = k (bif W.eq x.1 1 then (alu x.2.2.2.2.1 0 0 true).2 else bif W.eq x.1 22 then W.pick (W.ge x.2.2.2.2.2.2.2 1) (W.le x.2.2.2.2.2.2.2 5) false else bif W.eq x.1 24 then W.lt x.2.2.2.2.2.2.2 256 else bif W.eq x.1 25 then W.lt x.2.2.2.2.2.2.2 256 else true) := by
  obtain ⟨(op : Int), (D : Int), (A : Int), (B : Int), (Fn : Int), (Wd : Bool), (Pt : Int), (Im : Int)⟩ := x
  show N_risc_more F_word_Alu R (op, D, A, B, Fn, Wd, Pt, Im) k = _
  unfold N_risc_more
  simp only [alu_eq (x := (Fn, 0, 0, true)) p0 p0]
  cases h1 : W.eq op 1 <;> cases h2 : W.eq op 22 <;> cases h3 : W.eq op 24 <;> cases h4 : W.eq op 25 <;> simp [br_t, br_f, h1, h2, h3, h4]
theorem within_eq (x : PTs.D ps_clevisref23within) (k : Bool → Option R) : F_clevisref23within R x k = k (decide (@LE.le Int Int.instLEInt x.2.1 x.1) && decide (@LE.le Int Int.instLEInt x.1 x.2.2)) := by
  obtain ⟨(a : Int), (b : Int), (c : Int)⟩ := x
  show N_clevisref23within R (a, b, c) k = _
  unfold N_clevisref23within
  simp only [W.ge_d, W.le_d, W.pick_eq]
  by_cases h : b ≤ a <;> simp [h]
theorem reg_eq (x : Int) (k : Bool → Option R) : F_clevisref23reg R x k = k (decide (0 ≤ x) && decide (x ≤ 31)) := by
  show N_clevisref23reg F_clevisref23within R x k = _
  unfold N_clevisref23reg
  simp only [within_eq]
theorem conds_eq (k : List Int → Option R) : F_clevisref23conds R () k = k [16, 32, 48, 64, 80, 96, 112, 160, 176, 192, 208] := rfl
theorem bigs {n : Nat} (h : n < 18446744073709551616) : ∃ m, W.big = m + n := ⟨W.big - n, by unfold W.big; omega⟩
theorem number_eq (c : Int) (k : Int → Option R) : F_clevisref23number R c k = k (idx c) := by
  show N_clevisref23number F_clevisref23conds W.big R c k = _
  unfold N_clevisref23number
  simp only [conds_eq]
  obtain ⟨m, hm⟩ := bigs (n := 12) (by omega)
  generalize W.big = fl at *
  suffices h : ∀ f, P_clevisref23number_3_0 F_clevisref23conds f fl R c [16, 32, 48, 64, 80, 96, 112, 160, 176, 192, 208] 0 k = k (idx c) from h _
  intro f
  rw [hm]
  simp only [P_clevisref23number_3_0_s, W.len_eq, W.ofNat_eq, List.length_cons, List.length_nil, W.add_eq]
  simp [br_ite, W.lt_t, W.le_t, W.eq_t, W.and2_t, W.get_eq, W.toNat, W.wi64, idx]
  (repeat' split) <;> (try subst_vars) <;> simp_all
theorem index_eq (c : Int) (k : Int → Option R) : F_slices_Index_int_int R ([16, 32, 48, 64, 80, 96, 112, 160, 176, 192, 208], c) k = k (idx c) := by
  show N_slices_Index_int_int W.big R ([16, 32, 48, 64, 80, 96, 112, 160, 176, 192, 208], c) k = _
  unfold N_slices_Index_int_int
  obtain ⟨m, hm⟩ := bigs (n := 12) (by omega)
  generalize W.big = fl at *
  suffices h : ∀ f, P_slices_Index_int_int_2_0 f fl R [16, 32, 48, 64, 80, 96, 112, 160, 176, 192, 208] c 11 0 k = k (idx c) from h _
  intro f
  rw [hm]
  simp only [P_slices_Index_int_int_2_0_s, W.len_eq, W.ofNat_eq, List.length_cons, List.length_nil, W.add_eq]
  simp [br_ite, W.lt_t, W.le_t, W.eq_t, W.and2_t, W.get_eq, W.toNat, W.wi64, idx]
  (repeat' split) <;> (try subst_vars) <;> simp_all
open Classical in
theorem check_2 (D A B Fn : Int) (Wd : Bool) (Pt Im : Int) (k : Bool → Option R) : F_risc_Check R (2, D, A, B, Fn, Wd, Pt, Im) k = k (decide (okR (2, D, A, B, Fn, Wd, Pt, Im))) := by
  show N_risc_Check F_risc_more F_risc_one F_slices_Index_int_int R (2, D, A, B, Fn, Wd, Pt, Im) k = _
  unfold N_risc_Check
  cases Wd <;> simp [br_t, br_f, W.eq_d, W.lt_d, W.gt_d, W.le_d, W.ge_d, W.ne_d, W.pick_eq, W.eqB, W.and2, W.or2, more_eq, one_eq, push, okR, within_eq, reg_eq] <;> (congr 1; rw [Bool.eq_iff_iff]; simp only [Bool.and_eq_true, Bool.or_eq_true, decide_eq_true_eq, Bool.not_eq_true', decide_eq_false_iff_not]; omega)
open Classical in
theorem rcheck_2 (D A B Fn : Int) (Wd : Bool) (Pt Im : Int) (k : Bool → Option R) : F_clevisref23Check R (2, D, A, B, Fn, Wd, Pt, Im) k = k (decide (okR (2, D, A, B, Fn, Wd, Pt, Im))) := by
  show N_clevisref23Check F_clevisref23number F_clevisref01Alu F_clevisref23within F_clevisref23reg R (2, D, A, B, Fn, Wd, Pt, Im) k = _
  unfold N_clevisref23Check
  cases Wd <;> simp [br_t, br_f, W.eq_d, W.lt_d, W.gt_d, W.le_d, W.ge_d, W.ne_d, W.pick_eq, W.eqB, W.and2, W.or2, more_eq, one_eq, push, okR, within_eq, reg_eq] <;> (congr 1; rw [Bool.eq_iff_iff]; simp only [Bool.and_eq_true, Bool.or_eq_true, decide_eq_true_eq, Bool.not_eq_true', decide_eq_false_iff_not]; omega)
open Classical in
theorem check_3 (D A B Fn : Int) (Wd : Bool) (Pt Im : Int) (k : Bool → Option R) : F_risc_Check R (3, D, A, B, Fn, Wd, Pt, Im) k = k (decide (okR (3, D, A, B, Fn, Wd, Pt, Im))) := by
  show N_risc_Check F_risc_more F_risc_one F_slices_Index_int_int R (3, D, A, B, Fn, Wd, Pt, Im) k = _
  unfold N_risc_Check
  cases Wd <;> simp [br_t, br_f, W.eq_d, W.lt_d, W.gt_d, W.le_d, W.ge_d, W.ne_d, W.pick_eq, W.eqB, W.and2, W.or2, more_eq, one_eq, push, okR, within_eq, reg_eq] <;> (congr 1; rw [Bool.eq_iff_iff]; simp only [Bool.and_eq_true, Bool.or_eq_true, decide_eq_true_eq, Bool.not_eq_true', decide_eq_false_iff_not]; omega)
open Classical in
theorem rcheck_3 (D A B Fn : Int) (Wd : Bool) (Pt Im : Int) (k : Bool → Option R) : F_clevisref23Check R (3, D, A, B, Fn, Wd, Pt, Im) k = k (decide (okR (3, D, A, B, Fn, Wd, Pt, Im))) := by
  show N_clevisref23Check F_clevisref23number F_clevisref01Alu F_clevisref23within F_clevisref23reg R (3, D, A, B, Fn, Wd, Pt, Im) k = _
  unfold N_clevisref23Check
  cases Wd <;> simp [br_t, br_f, W.eq_d, W.lt_d, W.gt_d, W.le_d, W.ge_d, W.ne_d, W.pick_eq, W.eqB, W.and2, W.or2, more_eq, one_eq, push, okR, within_eq, reg_eq] <;> (congr 1; rw [Bool.eq_iff_iff]; simp only [Bool.and_eq_true, Bool.or_eq_true, decide_eq_true_eq, Bool.not_eq_true', decide_eq_false_iff_not]; omega)
open Classical in
theorem check_4 (D A B Fn : Int) (Wd : Bool) (Pt Im : Int) (k : Bool → Option R) : F_risc_Check R (4, D, A, B, Fn, Wd, Pt, Im) k = k (decide (okR (4, D, A, B, Fn, Wd, Pt, Im))) := by
  show N_risc_Check F_risc_more F_risc_one F_slices_Index_int_int R (4, D, A, B, Fn, Wd, Pt, Im) k = _
  unfold N_risc_Check
  cases Wd <;> simp [br_t, br_f, W.eq_d, W.lt_d, W.gt_d, W.le_d, W.ge_d, W.ne_d, W.pick_eq, W.eqB, W.and2, W.or2, more_eq, one_eq, push, okR, within_eq, reg_eq] <;> (congr 1; rw [Bool.eq_iff_iff]; simp only [Bool.and_eq_true, Bool.or_eq_true, decide_eq_true_eq, Bool.not_eq_true', decide_eq_false_iff_not]; omega)
open Classical in
theorem rcheck_4 (D A B Fn : Int) (Wd : Bool) (Pt Im : Int) (k : Bool → Option R) : F_clevisref23Check R (4, D, A, B, Fn, Wd, Pt, Im) k = k (decide (okR (4, D, A, B, Fn, Wd, Pt, Im))) := by
  show N_clevisref23Check F_clevisref23number F_clevisref01Alu F_clevisref23within F_clevisref23reg R (4, D, A, B, Fn, Wd, Pt, Im) k = _
  unfold N_clevisref23Check
  cases Wd <;> simp [br_t, br_f, W.eq_d, W.lt_d, W.gt_d, W.le_d, W.ge_d, W.ne_d, W.pick_eq, W.eqB, W.and2, W.or2, more_eq, one_eq, push, okR, within_eq, reg_eq] <;> (congr 1; rw [Bool.eq_iff_iff]; simp only [Bool.and_eq_true, Bool.or_eq_true, decide_eq_true_eq, Bool.not_eq_true', decide_eq_false_iff_not]; omega)
open Classical in
theorem check_5 (D A B Fn : Int) (Wd : Bool) (Pt Im : Int) (k : Bool → Option R) : F_risc_Check R (5, D, A, B, Fn, Wd, Pt, Im) k = k (decide (okR (5, D, A, B, Fn, Wd, Pt, Im))) := by
  show N_risc_Check F_risc_more F_risc_one F_slices_Index_int_int R (5, D, A, B, Fn, Wd, Pt, Im) k = _
  unfold N_risc_Check
  cases Wd <;> simp [br_t, br_f, W.eq_d, W.lt_d, W.gt_d, W.le_d, W.ge_d, W.ne_d, W.pick_eq, W.eqB, W.and2, W.or2, more_eq, one_eq, push, okR, within_eq, reg_eq] <;> (congr 1; rw [Bool.eq_iff_iff]; simp only [Bool.and_eq_true, Bool.or_eq_true, decide_eq_true_eq, Bool.not_eq_true', decide_eq_false_iff_not]; omega)
open Classical in
theorem rcheck_5 (D A B Fn : Int) (Wd : Bool) (Pt Im : Int) (k : Bool → Option R) : F_clevisref23Check R (5, D, A, B, Fn, Wd, Pt, Im) k = k (decide (okR (5, D, A, B, Fn, Wd, Pt, Im))) := by
  show N_clevisref23Check F_clevisref23number F_clevisref01Alu F_clevisref23within F_clevisref23reg R (5, D, A, B, Fn, Wd, Pt, Im) k = _
  unfold N_clevisref23Check
  cases Wd <;> simp [br_t, br_f, W.eq_d, W.lt_d, W.gt_d, W.le_d, W.ge_d, W.ne_d, W.pick_eq, W.eqB, W.and2, W.or2, more_eq, one_eq, push, okR, within_eq, reg_eq] <;> (congr 1; rw [Bool.eq_iff_iff]; simp only [Bool.and_eq_true, Bool.or_eq_true, decide_eq_true_eq, Bool.not_eq_true', decide_eq_false_iff_not]; omega)
open Classical in
theorem check_6 (D A B Fn : Int) (Wd : Bool) (Pt Im : Int) (k : Bool → Option R) : F_risc_Check R (6, D, A, B, Fn, Wd, Pt, Im) k = k (decide (okR (6, D, A, B, Fn, Wd, Pt, Im))) := by
  show N_risc_Check F_risc_more F_risc_one F_slices_Index_int_int R (6, D, A, B, Fn, Wd, Pt, Im) k = _
  unfold N_risc_Check
  cases Wd <;> simp [br_t, br_f, W.eq_d, W.lt_d, W.gt_d, W.le_d, W.ge_d, W.ne_d, W.pick_eq, W.eqB, W.and2, W.or2, more_eq, one_eq, push, okR, within_eq, reg_eq] <;> (congr 1; rw [Bool.eq_iff_iff]; simp only [Bool.and_eq_true, Bool.or_eq_true, decide_eq_true_eq, Bool.not_eq_true', decide_eq_false_iff_not]; omega)
open Classical in
theorem rcheck_6 (D A B Fn : Int) (Wd : Bool) (Pt Im : Int) (k : Bool → Option R) : F_clevisref23Check R (6, D, A, B, Fn, Wd, Pt, Im) k = k (decide (okR (6, D, A, B, Fn, Wd, Pt, Im))) := by
  show N_clevisref23Check F_clevisref23number F_clevisref01Alu F_clevisref23within F_clevisref23reg R (6, D, A, B, Fn, Wd, Pt, Im) k = _
  unfold N_clevisref23Check
  cases Wd <;> simp [br_t, br_f, W.eq_d, W.lt_d, W.gt_d, W.le_d, W.ge_d, W.ne_d, W.pick_eq, W.eqB, W.and2, W.or2, more_eq, one_eq, push, okR, within_eq, reg_eq] <;> (congr 1; rw [Bool.eq_iff_iff]; simp only [Bool.and_eq_true, Bool.or_eq_true, decide_eq_true_eq, Bool.not_eq_true', decide_eq_false_iff_not]; omega)
open Classical in
theorem check_7 (D A B Fn : Int) (Wd : Bool) (Pt Im : Int) (k : Bool → Option R) : F_risc_Check R (7, D, A, B, Fn, Wd, Pt, Im) k = k (decide (okR (7, D, A, B, Fn, Wd, Pt, Im))) := by
  show N_risc_Check F_risc_more F_risc_one F_slices_Index_int_int R (7, D, A, B, Fn, Wd, Pt, Im) k = _
  unfold N_risc_Check
  cases Wd <;> simp [br_t, br_f, W.eq_d, W.lt_d, W.gt_d, W.le_d, W.ge_d, W.ne_d, W.pick_eq, W.eqB, W.and2, W.or2, more_eq, one_eq, push, okR, within_eq, reg_eq] <;> (congr 1; rw [Bool.eq_iff_iff]; simp only [Bool.and_eq_true, Bool.or_eq_true, decide_eq_true_eq, Bool.not_eq_true', decide_eq_false_iff_not]; omega)
open Classical in
theorem rcheck_7 (D A B Fn : Int) (Wd : Bool) (Pt Im : Int) (k : Bool → Option R) : F_clevisref23Check R (7, D, A, B, Fn, Wd, Pt, Im) k = k (decide (okR (7, D, A, B, Fn, Wd, Pt, Im))) := by
  show N_clevisref23Check F_clevisref23number F_clevisref01Alu F_clevisref23within F_clevisref23reg R (7, D, A, B, Fn, Wd, Pt, Im) k = _
  unfold N_clevisref23Check
  cases Wd <;> simp [br_t, br_f, W.eq_d, W.lt_d, W.gt_d, W.le_d, W.ge_d, W.ne_d, W.pick_eq, W.eqB, W.and2, W.or2, more_eq, one_eq, push, okR, within_eq, reg_eq] <;> (congr 1; rw [Bool.eq_iff_iff]; simp only [Bool.and_eq_true, Bool.or_eq_true, decide_eq_true_eq, Bool.not_eq_true', decide_eq_false_iff_not]; omega)
open Classical in
theorem check_8 (D A B Fn : Int) (Wd : Bool) (Pt Im : Int) (k : Bool → Option R) : F_risc_Check R (8, D, A, B, Fn, Wd, Pt, Im) k = k (decide (okR (8, D, A, B, Fn, Wd, Pt, Im))) := by
  show N_risc_Check F_risc_more F_risc_one F_slices_Index_int_int R (8, D, A, B, Fn, Wd, Pt, Im) k = _
  unfold N_risc_Check
  cases Wd <;> simp [br_t, br_f, W.eq_d, W.lt_d, W.gt_d, W.le_d, W.ge_d, W.ne_d, W.pick_eq, W.eqB, W.and2, W.or2, more_eq, one_eq, push, okR, within_eq, reg_eq] <;> (congr 1; rw [Bool.eq_iff_iff]; simp only [Bool.and_eq_true, Bool.or_eq_true, decide_eq_true_eq, Bool.not_eq_true', decide_eq_false_iff_not]; omega)
open Classical in
theorem rcheck_8 (D A B Fn : Int) (Wd : Bool) (Pt Im : Int) (k : Bool → Option R) : F_clevisref23Check R (8, D, A, B, Fn, Wd, Pt, Im) k = k (decide (okR (8, D, A, B, Fn, Wd, Pt, Im))) := by
  show N_clevisref23Check F_clevisref23number F_clevisref01Alu F_clevisref23within F_clevisref23reg R (8, D, A, B, Fn, Wd, Pt, Im) k = _
  unfold N_clevisref23Check
  cases Wd <;> simp [br_t, br_f, W.eq_d, W.lt_d, W.gt_d, W.le_d, W.ge_d, W.ne_d, W.pick_eq, W.eqB, W.and2, W.or2, more_eq, one_eq, push, okR, within_eq, reg_eq] <;> (congr 1; rw [Bool.eq_iff_iff]; simp only [Bool.and_eq_true, Bool.or_eq_true, decide_eq_true_eq, Bool.not_eq_true', decide_eq_false_iff_not]; omega)
open Classical in
theorem check_9 (D A B Fn : Int) (Wd : Bool) (Pt Im : Int) (k : Bool → Option R) : F_risc_Check R (9, D, A, B, Fn, Wd, Pt, Im) k = k (decide (okR (9, D, A, B, Fn, Wd, Pt, Im))) := by
  show N_risc_Check F_risc_more F_risc_one F_slices_Index_int_int R (9, D, A, B, Fn, Wd, Pt, Im) k = _
  unfold N_risc_Check
  cases Wd <;> simp [br_t, br_f, W.eq_d, W.lt_d, W.gt_d, W.le_d, W.ge_d, W.ne_d, W.pick_eq, W.eqB, W.and2, W.or2, more_eq, one_eq, push, okR, within_eq, reg_eq] <;> (congr 1; rw [Bool.eq_iff_iff]; simp only [Bool.and_eq_true, Bool.or_eq_true, decide_eq_true_eq, Bool.not_eq_true', decide_eq_false_iff_not]; omega)
open Classical in
theorem rcheck_9 (D A B Fn : Int) (Wd : Bool) (Pt Im : Int) (k : Bool → Option R) : F_clevisref23Check R (9, D, A, B, Fn, Wd, Pt, Im) k = k (decide (okR (9, D, A, B, Fn, Wd, Pt, Im))) := by
  show N_clevisref23Check F_clevisref23number F_clevisref01Alu F_clevisref23within F_clevisref23reg R (9, D, A, B, Fn, Wd, Pt, Im) k = _
  unfold N_clevisref23Check
  cases Wd <;> simp [br_t, br_f, W.eq_d, W.lt_d, W.gt_d, W.le_d, W.ge_d, W.ne_d, W.pick_eq, W.eqB, W.and2, W.or2, more_eq, one_eq, push, okR, within_eq, reg_eq] <;> (congr 1; rw [Bool.eq_iff_iff]; simp only [Bool.and_eq_true, Bool.or_eq_true, decide_eq_true_eq, Bool.not_eq_true', decide_eq_false_iff_not]; omega)
open Classical in
theorem check_10 (D A B Fn : Int) (Wd : Bool) (Pt Im : Int) (k : Bool → Option R) : F_risc_Check R (10, D, A, B, Fn, Wd, Pt, Im) k = k (decide (okR (10, D, A, B, Fn, Wd, Pt, Im))) := by
  show N_risc_Check F_risc_more F_risc_one F_slices_Index_int_int R (10, D, A, B, Fn, Wd, Pt, Im) k = _
  unfold N_risc_Check
  cases Wd <;> simp [br_t, br_f, W.eq_d, W.lt_d, W.gt_d, W.le_d, W.ge_d, W.ne_d, W.pick_eq, W.eqB, W.and2, W.or2, more_eq, one_eq, push, okR, within_eq, reg_eq] <;> (congr 1; rw [Bool.eq_iff_iff]; simp only [Bool.and_eq_true, Bool.or_eq_true, decide_eq_true_eq, Bool.not_eq_true', decide_eq_false_iff_not]; omega)
open Classical in
theorem rcheck_10 (D A B Fn : Int) (Wd : Bool) (Pt Im : Int) (k : Bool → Option R) : F_clevisref23Check R (10, D, A, B, Fn, Wd, Pt, Im) k = k (decide (okR (10, D, A, B, Fn, Wd, Pt, Im))) := by
  show N_clevisref23Check F_clevisref23number F_clevisref01Alu F_clevisref23within F_clevisref23reg R (10, D, A, B, Fn, Wd, Pt, Im) k = _
  unfold N_clevisref23Check
  cases Wd <;> simp [br_t, br_f, W.eq_d, W.lt_d, W.gt_d, W.le_d, W.ge_d, W.ne_d, W.pick_eq, W.eqB, W.and2, W.or2, more_eq, one_eq, push, okR, within_eq, reg_eq] <;> (congr 1; rw [Bool.eq_iff_iff]; simp only [Bool.and_eq_true, Bool.or_eq_true, decide_eq_true_eq, Bool.not_eq_true', decide_eq_false_iff_not]; omega)
open Classical in
theorem check_11 (D A B Fn : Int) (Wd : Bool) (Pt Im : Int) (k : Bool → Option R) : F_risc_Check R (11, D, A, B, Fn, Wd, Pt, Im) k = k (decide (okR (11, D, A, B, Fn, Wd, Pt, Im))) := by
  show N_risc_Check F_risc_more F_risc_one F_slices_Index_int_int R (11, D, A, B, Fn, Wd, Pt, Im) k = _
  unfold N_risc_Check
  cases Wd <;> simp [br_t, br_f, W.eq_d, W.lt_d, W.gt_d, W.le_d, W.ge_d, W.ne_d, W.pick_eq, W.eqB, W.and2, W.or2, more_eq, one_eq, push, okR, within_eq, reg_eq] <;> (congr 1; rw [Bool.eq_iff_iff]; simp only [Bool.and_eq_true, Bool.or_eq_true, decide_eq_true_eq, Bool.not_eq_true', decide_eq_false_iff_not]; omega)
open Classical in
theorem rcheck_11 (D A B Fn : Int) (Wd : Bool) (Pt Im : Int) (k : Bool → Option R) : F_clevisref23Check R (11, D, A, B, Fn, Wd, Pt, Im) k = k (decide (okR (11, D, A, B, Fn, Wd, Pt, Im))) := by
  show N_clevisref23Check F_clevisref23number F_clevisref01Alu F_clevisref23within F_clevisref23reg R (11, D, A, B, Fn, Wd, Pt, Im) k = _
  unfold N_clevisref23Check
  cases Wd <;> simp [br_t, br_f, W.eq_d, W.lt_d, W.gt_d, W.le_d, W.ge_d, W.ne_d, W.pick_eq, W.eqB, W.and2, W.or2, more_eq, one_eq, push, okR, within_eq, reg_eq] <;> (congr 1; rw [Bool.eq_iff_iff]; simp only [Bool.and_eq_true, Bool.or_eq_true, decide_eq_true_eq, Bool.not_eq_true', decide_eq_false_iff_not]; omega)
open Classical in
theorem check_12 (D A B Fn : Int) (Wd : Bool) (Pt Im : Int) (k : Bool → Option R) : F_risc_Check R (12, D, A, B, Fn, Wd, Pt, Im) k = k (decide (okR (12, D, A, B, Fn, Wd, Pt, Im))) := by
  show N_risc_Check F_risc_more F_risc_one F_slices_Index_int_int R (12, D, A, B, Fn, Wd, Pt, Im) k = _
  unfold N_risc_Check
  cases Wd <;> simp [br_t, br_f, W.eq_d, W.lt_d, W.gt_d, W.le_d, W.ge_d, W.ne_d, W.pick_eq, W.eqB, W.and2, W.or2, more_eq, one_eq, push, okR, within_eq, reg_eq] <;> (congr 1; rw [Bool.eq_iff_iff]; simp only [Bool.and_eq_true, Bool.or_eq_true, decide_eq_true_eq, Bool.not_eq_true', decide_eq_false_iff_not]; omega)
open Classical in
theorem rcheck_12 (D A B Fn : Int) (Wd : Bool) (Pt Im : Int) (k : Bool → Option R) : F_clevisref23Check R (12, D, A, B, Fn, Wd, Pt, Im) k = k (decide (okR (12, D, A, B, Fn, Wd, Pt, Im))) := by
  show N_clevisref23Check F_clevisref23number F_clevisref01Alu F_clevisref23within F_clevisref23reg R (12, D, A, B, Fn, Wd, Pt, Im) k = _
  unfold N_clevisref23Check
  cases Wd <;> simp [br_t, br_f, W.eq_d, W.lt_d, W.gt_d, W.le_d, W.ge_d, W.ne_d, W.pick_eq, W.eqB, W.and2, W.or2, more_eq, one_eq, push, okR, within_eq, reg_eq] <;> (congr 1; rw [Bool.eq_iff_iff]; simp only [Bool.and_eq_true, Bool.or_eq_true, decide_eq_true_eq, Bool.not_eq_true', decide_eq_false_iff_not]; omega)
open Classical in
theorem check_13 (D A B Fn : Int) (Wd : Bool) (Pt Im : Int) (k : Bool → Option R) : F_risc_Check R (13, D, A, B, Fn, Wd, Pt, Im) k = k (decide (okR (13, D, A, B, Fn, Wd, Pt, Im))) := by
  show N_risc_Check F_risc_more F_risc_one F_slices_Index_int_int R (13, D, A, B, Fn, Wd, Pt, Im) k = _
  unfold N_risc_Check
  cases Wd <;> simp [br_t, br_f, W.eq_d, W.lt_d, W.gt_d, W.le_d, W.ge_d, W.ne_d, W.pick_eq, W.eqB, W.and2, W.or2, more_eq, one_eq, push, okR, within_eq, reg_eq] <;> (congr 1; rw [Bool.eq_iff_iff]; simp only [Bool.and_eq_true, Bool.or_eq_true, decide_eq_true_eq, Bool.not_eq_true', decide_eq_false_iff_not]; omega)
open Classical in
theorem rcheck_13 (D A B Fn : Int) (Wd : Bool) (Pt Im : Int) (k : Bool → Option R) : F_clevisref23Check R (13, D, A, B, Fn, Wd, Pt, Im) k = k (decide (okR (13, D, A, B, Fn, Wd, Pt, Im))) := by
  show N_clevisref23Check F_clevisref23number F_clevisref01Alu F_clevisref23within F_clevisref23reg R (13, D, A, B, Fn, Wd, Pt, Im) k = _
  unfold N_clevisref23Check
  cases Wd <;> simp [br_t, br_f, W.eq_d, W.lt_d, W.gt_d, W.le_d, W.ge_d, W.ne_d, W.pick_eq, W.eqB, W.and2, W.or2, more_eq, one_eq, push, okR, within_eq, reg_eq] <;> (congr 1; rw [Bool.eq_iff_iff]; simp only [Bool.and_eq_true, Bool.or_eq_true, decide_eq_true_eq, Bool.not_eq_true', decide_eq_false_iff_not]; omega)
open Classical in
theorem check_14 (D A B Fn : Int) (Wd : Bool) (Pt Im : Int) (k : Bool → Option R) : F_risc_Check R (14, D, A, B, Fn, Wd, Pt, Im) k = k (decide (okR (14, D, A, B, Fn, Wd, Pt, Im))) := by
  show N_risc_Check F_risc_more F_risc_one F_slices_Index_int_int R (14, D, A, B, Fn, Wd, Pt, Im) k = _
  unfold N_risc_Check
  cases Wd <;> simp [br_t, br_f, W.eq_d, W.lt_d, W.gt_d, W.le_d, W.ge_d, W.ne_d, W.pick_eq, W.eqB, W.and2, W.or2, more_eq, one_eq, push, okR, within_eq, reg_eq] <;> (congr 1; rw [Bool.eq_iff_iff]; simp only [Bool.and_eq_true, Bool.or_eq_true, decide_eq_true_eq, Bool.not_eq_true', decide_eq_false_iff_not]; omega)
open Classical in
theorem rcheck_14 (D A B Fn : Int) (Wd : Bool) (Pt Im : Int) (k : Bool → Option R) : F_clevisref23Check R (14, D, A, B, Fn, Wd, Pt, Im) k = k (decide (okR (14, D, A, B, Fn, Wd, Pt, Im))) := by
  show N_clevisref23Check F_clevisref23number F_clevisref01Alu F_clevisref23within F_clevisref23reg R (14, D, A, B, Fn, Wd, Pt, Im) k = _
  unfold N_clevisref23Check
  cases Wd <;> simp [br_t, br_f, W.eq_d, W.lt_d, W.gt_d, W.le_d, W.ge_d, W.ne_d, W.pick_eq, W.eqB, W.and2, W.or2, more_eq, one_eq, push, okR, within_eq, reg_eq] <;> (congr 1; rw [Bool.eq_iff_iff]; simp only [Bool.and_eq_true, Bool.or_eq_true, decide_eq_true_eq, Bool.not_eq_true', decide_eq_false_iff_not]; omega)
open Classical in
theorem check_15 (D A B Fn : Int) (Wd : Bool) (Pt Im : Int) (k : Bool → Option R) : F_risc_Check R (15, D, A, B, Fn, Wd, Pt, Im) k = k (decide (okR (15, D, A, B, Fn, Wd, Pt, Im))) := by
  show N_risc_Check F_risc_more F_risc_one F_slices_Index_int_int R (15, D, A, B, Fn, Wd, Pt, Im) k = _
  unfold N_risc_Check
  cases Wd <;> simp [br_t, br_f, W.eq_d, W.lt_d, W.gt_d, W.le_d, W.ge_d, W.ne_d, W.pick_eq, W.eqB, W.and2, W.or2, more_eq, one_eq, push, okR, within_eq, reg_eq] <;> (congr 1; rw [Bool.eq_iff_iff]; simp only [Bool.and_eq_true, Bool.or_eq_true, decide_eq_true_eq, Bool.not_eq_true', decide_eq_false_iff_not]; omega)
open Classical in
theorem rcheck_15 (D A B Fn : Int) (Wd : Bool) (Pt Im : Int) (k : Bool → Option R) : F_clevisref23Check R (15, D, A, B, Fn, Wd, Pt, Im) k = k (decide (okR (15, D, A, B, Fn, Wd, Pt, Im))) := by
  show N_clevisref23Check F_clevisref23number F_clevisref01Alu F_clevisref23within F_clevisref23reg R (15, D, A, B, Fn, Wd, Pt, Im) k = _
  unfold N_clevisref23Check
  cases Wd <;> simp [br_t, br_f, W.eq_d, W.lt_d, W.gt_d, W.le_d, W.ge_d, W.ne_d, W.pick_eq, W.eqB, W.and2, W.or2, more_eq, one_eq, push, okR, within_eq, reg_eq] <;> (congr 1; rw [Bool.eq_iff_iff]; simp only [Bool.and_eq_true, Bool.or_eq_true, decide_eq_true_eq, Bool.not_eq_true', decide_eq_false_iff_not]; omega)
open Classical in
theorem check_16 (D A B Fn : Int) (Wd : Bool) (Pt Im : Int) (k : Bool → Option R) : F_risc_Check R (16, D, A, B, Fn, Wd, Pt, Im) k = k (decide (okR (16, D, A, B, Fn, Wd, Pt, Im))) := by
  show N_risc_Check F_risc_more F_risc_one F_slices_Index_int_int R (16, D, A, B, Fn, Wd, Pt, Im) k = _
  unfold N_risc_Check
  cases Wd <;> simp [br_t, br_f, W.eq_d, W.lt_d, W.gt_d, W.le_d, W.ge_d, W.ne_d, W.pick_eq, W.eqB, W.and2, W.or2, more_eq, one_eq, push, okR, within_eq, reg_eq] <;> (congr 1; rw [Bool.eq_iff_iff]; simp only [Bool.and_eq_true, Bool.or_eq_true, decide_eq_true_eq, Bool.not_eq_true', decide_eq_false_iff_not]; omega)
open Classical in
theorem rcheck_16 (D A B Fn : Int) (Wd : Bool) (Pt Im : Int) (k : Bool → Option R) : F_clevisref23Check R (16, D, A, B, Fn, Wd, Pt, Im) k = k (decide (okR (16, D, A, B, Fn, Wd, Pt, Im))) := by
  show N_clevisref23Check F_clevisref23number F_clevisref01Alu F_clevisref23within F_clevisref23reg R (16, D, A, B, Fn, Wd, Pt, Im) k = _
  unfold N_clevisref23Check
  cases Wd <;> simp [br_t, br_f, W.eq_d, W.lt_d, W.gt_d, W.le_d, W.ge_d, W.ne_d, W.pick_eq, W.eqB, W.and2, W.or2, more_eq, one_eq, push, okR, within_eq, reg_eq] <;> (congr 1; rw [Bool.eq_iff_iff]; simp only [Bool.and_eq_true, Bool.or_eq_true, decide_eq_true_eq, Bool.not_eq_true', decide_eq_false_iff_not]; omega)
open Classical in
theorem check_17 (D A B Fn : Int) (Wd : Bool) (Pt Im : Int) (k : Bool → Option R) : F_risc_Check R (17, D, A, B, Fn, Wd, Pt, Im) k = k (decide (okR (17, D, A, B, Fn, Wd, Pt, Im))) := by
  show N_risc_Check F_risc_more F_risc_one F_slices_Index_int_int R (17, D, A, B, Fn, Wd, Pt, Im) k = _
  unfold N_risc_Check
  cases Wd <;> simp [br_t, br_f, W.eq_d, W.lt_d, W.gt_d, W.le_d, W.ge_d, W.ne_d, W.pick_eq, W.eqB, W.and2, W.or2, more_eq, one_eq, push, okR, within_eq, reg_eq] <;> (congr 1; rw [Bool.eq_iff_iff]; simp only [Bool.and_eq_true, Bool.or_eq_true, decide_eq_true_eq, Bool.not_eq_true', decide_eq_false_iff_not]; omega)
open Classical in
theorem rcheck_17 (D A B Fn : Int) (Wd : Bool) (Pt Im : Int) (k : Bool → Option R) : F_clevisref23Check R (17, D, A, B, Fn, Wd, Pt, Im) k = k (decide (okR (17, D, A, B, Fn, Wd, Pt, Im))) := by
  show N_clevisref23Check F_clevisref23number F_clevisref01Alu F_clevisref23within F_clevisref23reg R (17, D, A, B, Fn, Wd, Pt, Im) k = _
  unfold N_clevisref23Check
  cases Wd <;> simp [br_t, br_f, W.eq_d, W.lt_d, W.gt_d, W.le_d, W.ge_d, W.ne_d, W.pick_eq, W.eqB, W.and2, W.or2, more_eq, one_eq, push, okR, within_eq, reg_eq] <;> (congr 1; rw [Bool.eq_iff_iff]; simp only [Bool.and_eq_true, Bool.or_eq_true, decide_eq_true_eq, Bool.not_eq_true', decide_eq_false_iff_not]; omega)
open Classical in
theorem check_18 (D A B Fn : Int) (Wd : Bool) (Pt Im : Int) (k : Bool → Option R) : F_risc_Check R (18, D, A, B, Fn, Wd, Pt, Im) k = k (decide (okR (18, D, A, B, Fn, Wd, Pt, Im))) := by
  show N_risc_Check F_risc_more F_risc_one F_slices_Index_int_int R (18, D, A, B, Fn, Wd, Pt, Im) k = _
  unfold N_risc_Check
  cases Wd <;> simp [br_t, br_f, W.eq_d, W.lt_d, W.gt_d, W.le_d, W.ge_d, W.ne_d, W.pick_eq, W.eqB, W.and2, W.or2, more_eq, one_eq, push, okR, within_eq, reg_eq] <;> (congr 1; rw [Bool.eq_iff_iff]; simp only [Bool.and_eq_true, Bool.or_eq_true, decide_eq_true_eq, Bool.not_eq_true', decide_eq_false_iff_not]; omega)
open Classical in
theorem rcheck_18 (D A B Fn : Int) (Wd : Bool) (Pt Im : Int) (k : Bool → Option R) : F_clevisref23Check R (18, D, A, B, Fn, Wd, Pt, Im) k = k (decide (okR (18, D, A, B, Fn, Wd, Pt, Im))) := by
  show N_clevisref23Check F_clevisref23number F_clevisref01Alu F_clevisref23within F_clevisref23reg R (18, D, A, B, Fn, Wd, Pt, Im) k = _
  unfold N_clevisref23Check
  cases Wd <;> simp [br_t, br_f, W.eq_d, W.lt_d, W.gt_d, W.le_d, W.ge_d, W.ne_d, W.pick_eq, W.eqB, W.and2, W.or2, more_eq, one_eq, push, okR, within_eq, reg_eq] <;> (congr 1; rw [Bool.eq_iff_iff]; simp only [Bool.and_eq_true, Bool.or_eq_true, decide_eq_true_eq, Bool.not_eq_true', decide_eq_false_iff_not]; omega)
open Classical in
theorem check_19 (D A B Fn : Int) (Wd : Bool) (Pt Im : Int) (k : Bool → Option R) : F_risc_Check R (19, D, A, B, Fn, Wd, Pt, Im) k = k (decide (okR (19, D, A, B, Fn, Wd, Pt, Im))) := by
  show N_risc_Check F_risc_more F_risc_one F_slices_Index_int_int R (19, D, A, B, Fn, Wd, Pt, Im) k = _
  unfold N_risc_Check
  cases Wd <;> simp [br_t, br_f, W.eq_d, W.lt_d, W.gt_d, W.le_d, W.ge_d, W.ne_d, W.pick_eq, W.eqB, W.and2, W.or2, more_eq, one_eq, push, okR, within_eq, reg_eq] <;> (congr 1; rw [Bool.eq_iff_iff]; simp only [Bool.and_eq_true, Bool.or_eq_true, decide_eq_true_eq, Bool.not_eq_true', decide_eq_false_iff_not]; omega)
open Classical in
theorem rcheck_19 (D A B Fn : Int) (Wd : Bool) (Pt Im : Int) (k : Bool → Option R) : F_clevisref23Check R (19, D, A, B, Fn, Wd, Pt, Im) k = k (decide (okR (19, D, A, B, Fn, Wd, Pt, Im))) := by
  show N_clevisref23Check F_clevisref23number F_clevisref01Alu F_clevisref23within F_clevisref23reg R (19, D, A, B, Fn, Wd, Pt, Im) k = _
  unfold N_clevisref23Check
  cases Wd <;> simp [br_t, br_f, W.eq_d, W.lt_d, W.gt_d, W.le_d, W.ge_d, W.ne_d, W.pick_eq, W.eqB, W.and2, W.or2, more_eq, one_eq, push, okR, within_eq, reg_eq] <;> (congr 1; rw [Bool.eq_iff_iff]; simp only [Bool.and_eq_true, Bool.or_eq_true, decide_eq_true_eq, Bool.not_eq_true', decide_eq_false_iff_not]; omega)
open Classical in
theorem check_21 (D A B Fn : Int) (Wd : Bool) (Pt Im : Int) (k : Bool → Option R) : F_risc_Check R (21, D, A, B, Fn, Wd, Pt, Im) k = k (decide (okR (21, D, A, B, Fn, Wd, Pt, Im))) := by
  show N_risc_Check F_risc_more F_risc_one F_slices_Index_int_int R (21, D, A, B, Fn, Wd, Pt, Im) k = _
  unfold N_risc_Check
  cases Wd <;> simp [br_t, br_f, W.eq_d, W.lt_d, W.gt_d, W.le_d, W.ge_d, W.ne_d, W.pick_eq, W.eqB, W.and2, W.or2, more_eq, one_eq, push, okR, within_eq, reg_eq] <;> (congr 1; rw [Bool.eq_iff_iff]; simp only [Bool.and_eq_true, Bool.or_eq_true, decide_eq_true_eq, Bool.not_eq_true', decide_eq_false_iff_not]; omega)
open Classical in
theorem rcheck_21 (D A B Fn : Int) (Wd : Bool) (Pt Im : Int) (k : Bool → Option R) : F_clevisref23Check R (21, D, A, B, Fn, Wd, Pt, Im) k = k (decide (okR (21, D, A, B, Fn, Wd, Pt, Im))) := by
  show N_clevisref23Check F_clevisref23number F_clevisref01Alu F_clevisref23within F_clevisref23reg R (21, D, A, B, Fn, Wd, Pt, Im) k = _
  unfold N_clevisref23Check
  cases Wd <;> simp [br_t, br_f, W.eq_d, W.lt_d, W.gt_d, W.le_d, W.ge_d, W.ne_d, W.pick_eq, W.eqB, W.and2, W.or2, more_eq, one_eq, push, okR, within_eq, reg_eq] <;> (congr 1; rw [Bool.eq_iff_iff]; simp only [Bool.and_eq_true, Bool.or_eq_true, decide_eq_true_eq, Bool.not_eq_true', decide_eq_false_iff_not]; omega)
open Classical in
theorem check_22 (D A B Fn : Int) (Wd : Bool) (Pt Im : Int) (k : Bool → Option R) : F_risc_Check R (22, D, A, B, Fn, Wd, Pt, Im) k = k (decide (okR (22, D, A, B, Fn, Wd, Pt, Im))) := by
  show N_risc_Check F_risc_more F_risc_one F_slices_Index_int_int R (22, D, A, B, Fn, Wd, Pt, Im) k = _
  unfold N_risc_Check
  cases Wd <;> simp [br_t, br_f, W.eq_d, W.lt_d, W.gt_d, W.le_d, W.ge_d, W.ne_d, W.pick_eq, W.eqB, W.and2, W.or2, more_eq, one_eq, push, okR, within_eq, reg_eq] <;> (congr 1; rw [Bool.eq_iff_iff]; simp only [Bool.and_eq_true, Bool.or_eq_true, decide_eq_true_eq, Bool.not_eq_true', decide_eq_false_iff_not]; omega)
open Classical in
theorem rcheck_22 (D A B Fn : Int) (Wd : Bool) (Pt Im : Int) (k : Bool → Option R) : F_clevisref23Check R (22, D, A, B, Fn, Wd, Pt, Im) k = k (decide (okR (22, D, A, B, Fn, Wd, Pt, Im))) := by
  show N_clevisref23Check F_clevisref23number F_clevisref01Alu F_clevisref23within F_clevisref23reg R (22, D, A, B, Fn, Wd, Pt, Im) k = _
  unfold N_clevisref23Check
  cases Wd <;> simp [br_t, br_f, W.eq_d, W.lt_d, W.gt_d, W.le_d, W.ge_d, W.ne_d, W.pick_eq, W.eqB, W.and2, W.or2, more_eq, one_eq, push, okR, within_eq, reg_eq] <;> (congr 1; rw [Bool.eq_iff_iff]; simp only [Bool.and_eq_true, Bool.or_eq_true, decide_eq_true_eq, Bool.not_eq_true', decide_eq_false_iff_not]; omega)
open Classical in
theorem check_23 (D A B Fn : Int) (Wd : Bool) (Pt Im : Int) (k : Bool → Option R) : F_risc_Check R (23, D, A, B, Fn, Wd, Pt, Im) k = k (decide (okR (23, D, A, B, Fn, Wd, Pt, Im))) := by
  show N_risc_Check F_risc_more F_risc_one F_slices_Index_int_int R (23, D, A, B, Fn, Wd, Pt, Im) k = _
  unfold N_risc_Check
  cases Wd <;> simp [br_t, br_f, W.eq_d, W.lt_d, W.gt_d, W.le_d, W.ge_d, W.ne_d, W.pick_eq, W.eqB, W.and2, W.or2, more_eq, one_eq, push, okR, within_eq, reg_eq] <;> (congr 1; rw [Bool.eq_iff_iff]; simp only [Bool.and_eq_true, Bool.or_eq_true, decide_eq_true_eq, Bool.not_eq_true', decide_eq_false_iff_not]; omega)
open Classical in
theorem rcheck_23 (D A B Fn : Int) (Wd : Bool) (Pt Im : Int) (k : Bool → Option R) : F_clevisref23Check R (23, D, A, B, Fn, Wd, Pt, Im) k = k (decide (okR (23, D, A, B, Fn, Wd, Pt, Im))) := by
  show N_clevisref23Check F_clevisref23number F_clevisref01Alu F_clevisref23within F_clevisref23reg R (23, D, A, B, Fn, Wd, Pt, Im) k = _
  unfold N_clevisref23Check
  cases Wd <;> simp [br_t, br_f, W.eq_d, W.lt_d, W.gt_d, W.le_d, W.ge_d, W.ne_d, W.pick_eq, W.eqB, W.and2, W.or2, more_eq, one_eq, push, okR, within_eq, reg_eq] <;> (congr 1; rw [Bool.eq_iff_iff]; simp only [Bool.and_eq_true, Bool.or_eq_true, decide_eq_true_eq, Bool.not_eq_true', decide_eq_false_iff_not]; omega)
open Classical in
theorem check_24 (D A B Fn : Int) (Wd : Bool) (Pt Im : Int) (k : Bool → Option R) : F_risc_Check R (24, D, A, B, Fn, Wd, Pt, Im) k = k (decide (okR (24, D, A, B, Fn, Wd, Pt, Im))) := by
  show N_risc_Check F_risc_more F_risc_one F_slices_Index_int_int R (24, D, A, B, Fn, Wd, Pt, Im) k = _
  unfold N_risc_Check
  cases Wd <;> simp [br_t, br_f, W.eq_d, W.lt_d, W.gt_d, W.le_d, W.ge_d, W.ne_d, W.pick_eq, W.eqB, W.and2, W.or2, more_eq, one_eq, push, okR, within_eq, reg_eq] <;> (congr 1; rw [Bool.eq_iff_iff]; simp only [Bool.and_eq_true, Bool.or_eq_true, decide_eq_true_eq, Bool.not_eq_true', decide_eq_false_iff_not]; omega)
open Classical in
theorem rcheck_24 (D A B Fn : Int) (Wd : Bool) (Pt Im : Int) (k : Bool → Option R) : F_clevisref23Check R (24, D, A, B, Fn, Wd, Pt, Im) k = k (decide (okR (24, D, A, B, Fn, Wd, Pt, Im))) := by
  show N_clevisref23Check F_clevisref23number F_clevisref01Alu F_clevisref23within F_clevisref23reg R (24, D, A, B, Fn, Wd, Pt, Im) k = _
  unfold N_clevisref23Check
  cases Wd <;> simp [br_t, br_f, W.eq_d, W.lt_d, W.gt_d, W.le_d, W.ge_d, W.ne_d, W.pick_eq, W.eqB, W.and2, W.or2, more_eq, one_eq, push, okR, within_eq, reg_eq] <;> (congr 1; rw [Bool.eq_iff_iff]; simp only [Bool.and_eq_true, Bool.or_eq_true, decide_eq_true_eq, Bool.not_eq_true', decide_eq_false_iff_not]; omega)
open Classical in
theorem check_25 (D A B Fn : Int) (Wd : Bool) (Pt Im : Int) (k : Bool → Option R) : F_risc_Check R (25, D, A, B, Fn, Wd, Pt, Im) k = k (decide (okR (25, D, A, B, Fn, Wd, Pt, Im))) := by
  show N_risc_Check F_risc_more F_risc_one F_slices_Index_int_int R (25, D, A, B, Fn, Wd, Pt, Im) k = _
  unfold N_risc_Check
  cases Wd <;> simp [br_t, br_f, W.eq_d, W.lt_d, W.gt_d, W.le_d, W.ge_d, W.ne_d, W.pick_eq, W.eqB, W.and2, W.or2, more_eq, one_eq, push, okR, within_eq, reg_eq] <;> (congr 1; rw [Bool.eq_iff_iff]; simp only [Bool.and_eq_true, Bool.or_eq_true, decide_eq_true_eq, Bool.not_eq_true', decide_eq_false_iff_not]; omega)
open Classical in
theorem rcheck_25 (D A B Fn : Int) (Wd : Bool) (Pt Im : Int) (k : Bool → Option R) : F_clevisref23Check R (25, D, A, B, Fn, Wd, Pt, Im) k = k (decide (okR (25, D, A, B, Fn, Wd, Pt, Im))) := by
  show N_clevisref23Check F_clevisref23number F_clevisref01Alu F_clevisref23within F_clevisref23reg R (25, D, A, B, Fn, Wd, Pt, Im) k = _
  unfold N_clevisref23Check
  cases Wd <;> simp [br_t, br_f, W.eq_d, W.lt_d, W.gt_d, W.le_d, W.ge_d, W.ne_d, W.pick_eq, W.eqB, W.and2, W.or2, more_eq, one_eq, push, okR, within_eq, reg_eq] <;> (congr 1; rw [Bool.eq_iff_iff]; simp only [Bool.and_eq_true, Bool.or_eq_true, decide_eq_true_eq, Bool.not_eq_true', decide_eq_false_iff_not]; omega)
open Classical in
theorem check_26 (D A B Fn : Int) (Wd : Bool) (Pt Im : Int) (k : Bool → Option R) : F_risc_Check R (26, D, A, B, Fn, Wd, Pt, Im) k = k (decide (okR (26, D, A, B, Fn, Wd, Pt, Im))) := by
  show N_risc_Check F_risc_more F_risc_one F_slices_Index_int_int R (26, D, A, B, Fn, Wd, Pt, Im) k = _
  unfold N_risc_Check
  cases Wd <;> simp [br_t, br_f, W.eq_d, W.lt_d, W.gt_d, W.le_d, W.ge_d, W.ne_d, W.pick_eq, W.eqB, W.and2, W.or2, more_eq, one_eq, push, okR, within_eq, reg_eq] <;> (congr 1; rw [Bool.eq_iff_iff]; simp only [Bool.and_eq_true, Bool.or_eq_true, decide_eq_true_eq, Bool.not_eq_true', decide_eq_false_iff_not]; omega)
open Classical in
theorem rcheck_26 (D A B Fn : Int) (Wd : Bool) (Pt Im : Int) (k : Bool → Option R) : F_clevisref23Check R (26, D, A, B, Fn, Wd, Pt, Im) k = k (decide (okR (26, D, A, B, Fn, Wd, Pt, Im))) := by
  show N_clevisref23Check F_clevisref23number F_clevisref01Alu F_clevisref23within F_clevisref23reg R (26, D, A, B, Fn, Wd, Pt, Im) k = _
  unfold N_clevisref23Check
  cases Wd <;> simp [br_t, br_f, W.eq_d, W.lt_d, W.gt_d, W.le_d, W.ge_d, W.ne_d, W.pick_eq, W.eqB, W.and2, W.or2, more_eq, one_eq, push, okR, within_eq, reg_eq] <;> (congr 1; rw [Bool.eq_iff_iff]; simp only [Bool.and_eq_true, Bool.or_eq_true, decide_eq_true_eq, Bool.not_eq_true', decide_eq_false_iff_not]; omega)
open Classical in
theorem check_27 (D A B Fn : Int) (Wd : Bool) (Pt Im : Int) (k : Bool → Option R) : F_risc_Check R (27, D, A, B, Fn, Wd, Pt, Im) k = k (decide (okR (27, D, A, B, Fn, Wd, Pt, Im))) := by
  show N_risc_Check F_risc_more F_risc_one F_slices_Index_int_int R (27, D, A, B, Fn, Wd, Pt, Im) k = _
  unfold N_risc_Check
  cases Wd <;> simp [br_t, br_f, W.eq_d, W.lt_d, W.gt_d, W.le_d, W.ge_d, W.ne_d, W.pick_eq, W.eqB, W.and2, W.or2, more_eq, one_eq, push, okR, within_eq, reg_eq] <;> (congr 1; rw [Bool.eq_iff_iff]; simp only [Bool.and_eq_true, Bool.or_eq_true, decide_eq_true_eq, Bool.not_eq_true', decide_eq_false_iff_not]; omega)
open Classical in
theorem rcheck_27 (D A B Fn : Int) (Wd : Bool) (Pt Im : Int) (k : Bool → Option R) : F_clevisref23Check R (27, D, A, B, Fn, Wd, Pt, Im) k = k (decide (okR (27, D, A, B, Fn, Wd, Pt, Im))) := by
  show N_clevisref23Check F_clevisref23number F_clevisref01Alu F_clevisref23within F_clevisref23reg R (27, D, A, B, Fn, Wd, Pt, Im) k = _
  unfold N_clevisref23Check
  cases Wd <;> simp [br_t, br_f, W.eq_d, W.lt_d, W.gt_d, W.le_d, W.ge_d, W.ne_d, W.pick_eq, W.eqB, W.and2, W.or2, more_eq, one_eq, push, okR, within_eq, reg_eq] <;> (congr 1; rw [Bool.eq_iff_iff]; simp only [Bool.and_eq_true, Bool.or_eq_true, decide_eq_true_eq, Bool.not_eq_true', decide_eq_false_iff_not]; omega)
end Go.Proofs.YtiojpgompgmicaaDoor
