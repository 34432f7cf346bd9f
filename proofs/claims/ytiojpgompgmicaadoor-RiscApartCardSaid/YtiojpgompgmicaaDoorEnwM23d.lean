import Derived.Test.YtiojpgompgmicaaDoorEnwM23c
set_option linter.unusedVariables false
set_option linter.unusedSimpArgs false
set_option maxHeartbeats 8000000
set_option maxRecDepth 100000
namespace Go.Proofs.YtiojpgompgmicaaDoor
open Go Go.Eng
variable {R : Type}
theorem fm_5_21 (v : Int) : W.wrap .u32 (W.shl .u32 (v % 32) 21) = v % 32 * 2097152 := by
  rw [shl32w 21 21 2097152 rfl (by decide) (by omega), W.wu32]; omega
theorem fm_5_16 (v : Int) : W.wrap .u32 (W.shl .u32 (v % 32) 16) = v % 32 * 65536 := by
  rw [shl32w 16 16 65536 rfl (by decide) (by omega), W.wu32]; omega
theorem fm_5_11 (v : Int) : W.wrap .u32 (W.shl .u32 (v % 32) 11) = v % 32 * 2048 := by
  rw [shl32w 11 11 2048 rfl (by decide) (by omega), W.wu32]; omega
theorem fm_1_10 (v : Int) : W.wrap .u32 (W.shl .u32 (v % 2) 10) = v % 2 * 1024 := by
  rw [shl32w 10 10 1024 rfl (by decide) (by omega), W.wu32]; omega
theorem fm_4_6 (v : Int) : W.wrap .u32 (W.shl .u32 (v % 16) 6) = v % 16 * 64 := by
  rw [shl32w 6 6 64 rfl (by decide) (by omega), W.wu32]; omega
theorem fm_2_19 (v : Int) : W.wrap .u32 (W.shl .u32 (v % 4) 19) = v % 4 * 524288 := by
  rw [shl32w 19 19 524288 rfl (by decide) (by omega), W.wu32]; omega
theorem fm_16_0 (v : Int) : W.wrap .u32 (W.shl .u32 (v % 65536) 0) = v % 65536 * 1 := by
  rw [shl32w 0 0 1 rfl (by decide) (by omega), W.wu32]; omega
theorem fm_11_0 (v : Int) : W.wrap .u32 (W.shl .u32 (v % 2048) 0) = v % 2048 * 1 := by
  rw [shl32w 0 0 1 rfl (by decide) (by omega), W.wu32]; omega
theorem fm_26_0 (v : Int) : W.wrap .u32 (W.shl .u32 (v % 67108864) 0) = v % 67108864 * 1 := by
  rw [shl32w 0 0 1 rfl (by decide) (by omega), W.wu32]; omega
theorem fm_1_11 (v : Int) : W.wrap .u32 (W.shl .u32 (v % 2) 11) = v % 2 * 2048 := by
  rw [shl32w 11 11 2048 rfl (by decide) (by omega), W.wu32]; omega
theorem fm_4_12 (v : Int) : W.wrap .u32 (W.shl .u32 (v % 16) 12) = v % 16 * 4096 := by
  rw [shl32w 12 12 4096 rfl (by decide) (by omega), W.wu32]; omega
theorem rs_26 (v : Int) : W.wrap .u32 (W.shl .u32 (W.wrap .u32 v) 26) = v % 64 * 67108864 := by
  rw [shl32w 26 26 67108864 rfl (by decide) (by omega), W.wu32, W.wu32]; omega
theorem rs_21 (v : Int) : W.wrap .u32 (W.shl .u32 (W.wrap .u32 v) 21) = v % 2048 * 2097152 := by
  rw [shl32w 21 21 2097152 rfl (by decide) (by omega), W.wu32, W.wu32]; omega
theorem rs_16 (v : Int) : W.wrap .u32 (W.shl .u32 (W.wrap .u32 v) 16) = v % 65536 * 65536 := by
  rw [shl32w 16 16 65536 rfl (by decide) (by omega), W.wu32, W.wu32]; omega
theorem rs_11 (v : Int) : W.wrap .u32 (W.shl .u32 (W.wrap .u32 v) 11) = v % 2097152 * 2048 := by
  rw [shl32w 11 11 2048 rfl (by decide) (by omega), W.wu32, W.wu32]; omega
theorem rs_19 (v : Int) : W.wrap .u32 (W.shl .u32 (W.wrap .u32 v) 19) = v % 8192 * 524288 := by
  rw [shl32w 19 19 524288 rfl (by decide) (by omega), W.wu32, W.wu32]; omega
theorem rs_6 (v : Int) : W.wrap .u32 (W.shl .u32 (W.wrap .u32 v) 6) = v % 67108864 * 64 := by
  rw [shl32w 6 6 64 rfl (by decide) (by omega), W.wu32, W.wu32]; omega
theorem rs_12 (v : Int) : W.wrap .u32 (W.shl .u32 (W.wrap .u32 v) 12) = v % 1048576 * 4096 := by
  rw [shl32w 12 12 4096 rfl (by decide) (by omega), W.wu32, W.wu32]; omega
theorem rb_10 (w : Bool) : W.wrap .u32 (W.shl .u32 (b1 w) 10) = b1 w * 1024 := by
  have := b1_le w
  rw [shl32w 10 10 1024 rfl (by decide) (by omega), W.wu32]; omega
theorem rb_11 (w : Bool) : W.wrap .u32 (W.shl .u32 (b1 w) 11) = b1 w * 2048 := by
  have := b1_le w
  rw [shl32w 11 11 2048 rfl (by decide) (by omega), W.wu32]; omega
theorem mk_16 (v : Int) : W.wrap .u32 (W.and .u32 (W.wrap .u32 v) 65535) = v % 65536 := by
  rw [W.and32_mask _ 16 (by omega) 65535 65536 (by decide) (by decide), W.wu32, W.wu32]; omega
theorem mk_11 (v : Int) : W.wrap .u32 (W.and .u32 (W.wrap .u32 v) 2047) = v % 2048 := by
  rw [W.and32_mask _ 11 (by omega) 2047 2048 (by decide) (by decide), W.wu32, W.wu32]; omega
theorem mk_26 (v : Int) : W.wrap .u32 (W.and .u32 (W.wrap .u32 v) 67108863) = v % 67108864 := by
  rw [W.and32_mask _ 26 (by omega) 67108863 67108864 (by decide) (by decide), W.wu32, W.wu32]; omega
theorem mk_5 (v : Int) : W.wrap .u32 (W.and .u32 (W.wrap .u32 v) 31) = v % 32 := by
  rw [W.and32_mask _ 5 (by omega) 31 32 (by decide) (by decide), W.wu32, W.wu32]; omega
theorem mk_1 (v : Int) : W.wrap .u32 (W.and .u32 (W.wrap .u32 v) 1) = v % 2 := by
  rw [W.and32_mask _ 1 (by omega) 1 2 (by decide) (by decide), W.wu32, W.wu32]; omega
theorem mk_4 (v : Int) : W.wrap .u32 (W.and .u32 (W.wrap .u32 v) 15) = v % 16 := by
  rw [W.and32_mask _ 4 (by omega) 15 16 (by decide) (by decide), W.wu32, W.wu32]; omega
theorem mk_2 (v : Int) : W.wrap .u32 (W.and .u32 (W.wrap .u32 v) 3) = v % 4 := by
  rw [W.and32_mask _ 2 (by omega) 3 4 (by decide) (by decide), W.wu32, W.wu32]; omega
theorem orS (n : Nat) (m : Int) (hm : m = 2 ^ n) {X a b : Int} (hX : X = a) (h : 0 ≤ a ∧ a < 4294967296 ∧ a % m = 0 ∧ 0 ≤ b ∧ b < m ∧ b < 4294967296) : W.wrap .u32 (W.or .u32 X b) = a + b := by
  subst hX; exact W.orw n hm ⟨h.1, h.2.1⟩ h.2.2.1 h.2.2.2.1 h.2.2.2.2.1 h.2.2.2.2.2
theorem quo16 {f : Int} (h : f = 0 ∨ f = 16 ∨ f = 32 ∨ f = 48 ∨ f = 64 ∨ f = 80 ∨ f = 96 ∨ f = 112 ∨ f = 128 ∨ f = 144 ∨ f = 160 ∨ f = 176 ∨ f = 192) : W.wrap .i64 (W.quo f 16) = f / 16 ∧ 0 ≤ f / 16 ∧ f / 16 ≤ 12 := by
  rcases h with rfl | rfl | rfl | rfl | rfl | rfl | rfl | rfl | rfl | rfl | rfl | rfl | rfl <;> decide
open Classical in
theorem enc_eq (x : PTs.D ps_risc_Encode) (k : Int × Int → Option R) : F_risc_Encode R x k = k (wordR x) := by
  obtain ⟨(op : Int), (D : Int), (A : Int), (B : Int), (Fn : Int), (Wd : Bool), (Pt : Int), (Im : Int)⟩ := x
  show N_risc_Encode F_risc_Check F_risc_one F_slices_Index_int_int R (op, D, A, B, Fn, Wd, Pt, Im) k = _
  unfold N_risc_Encode
  simp only [check_eq]
  by_cases h : okR (op, D, A, B, Fn, Wd, Pt, Im)
  rotate_left
  · simp [wordR, h, W.not, br_t]
  have ew : wordR (op, D, A, B, Fn, Wd, Pt, Im) = (encI (op, D, A, B, Fn, Wd, Pt, Im), 0) := if_pos h
  rw [ew]
  simp only [h, decide_true, W.not, Bool.not_true, br_f]
  have hw := b1_le Wd
  have hi := idx_le Fn
  simp only [okR] at h
  rcases h with ⟨ho, hD, hA, hB, hF, hP, hI⟩ | ⟨ho, hD, hA, hB, hF, hW, hP, hI⟩ | ⟨ho, hD, hA, hB, hF, hW, hP, hI⟩ | ⟨ho, hD, hA, hB, hF, hW, hP, hI⟩ | ⟨ho, hD, hA, hB, hF, hP, hI⟩ | ⟨ho, hD, hA, hB, hF, hW, hP, hI⟩ | ⟨ho, hD, hA, hB, hF, hW, hP, hI⟩ | ⟨ho, hD, hA, hB, hF, hW, hP, hI⟩ | ⟨ho, hD, hA, hB, hF, hW, hP, hI⟩ | ⟨ho, hD, hA, hB, hF, hW, hP, hI⟩
  · have n2 : ¬ op = 2 := by omega
    have n3 : ¬ op = 3 := by omega
    have n20 : ¬ op = 20 := by omega
    have n21 : ¬ op = 21 := by omega
    have n22 : ¬ op = 22 := by omega
    have n23 : ¬ op = 23 := by omega
    have n24 : ¬ op = 24 := by omega
    have n25 : ¬ op = 25 := by omega
    have n26 : ¬ op = 26 := by omega
    have n27 : ¬ op = 27 := by omega
    have r4 : ¬ 4 ≤ op := by omega
    have r12 : ¬ 12 ≤ op := by omega
    rw [alu_ok] at hF
    obtain ⟨q1, q2, q3⟩ := quo16 hF
    simp only [q1]
    have hoT : (op = 1) = True := eq_true (by omega)
    simp only [n2, n3, n20, n21, n22, n23, n24, n25, n26, n27, r4, r12, W.eq_d, W.ge_d, W.lt_d, W.pick_eq, decide_true, decide_false, cond_true, cond_false, br_t, br_f, hoT, one_eq, bit_eq, index_eq, number_eq, fm_5_21, fm_5_16, fm_5_11, fm_1_10, fm_4_6, fm_2_19, fm_16_0, fm_11_0, fm_26_0, fm_1_11, fm_4_12, rs_26, rs_21, rs_16, rs_11, rs_19, rs_6, rs_12, rb_10, rb_11, mk_16, mk_11, mk_26, mk_5, mk_1, mk_4, mk_2]
    refine congrArg (fun z => k (z, (0 : Int))) (Eq.trans (orS 10 1024 (by decide) (orS 11 2048 (by decide) (orS 16 65536 (by decide) (orS 21 2097152 (by decide) (orS 26 67108864 (by decide) rfl (by omega)) (by omega)) (by omega)) (by omega)) (by omega)) ?_)
    simp only [encI]
    (try rw [show D % 32 = D by omega])
    (try rw [show A % 32 = A by omega])
    (try rw [show B % 32 = B by omega])
    (try rw [show Pt % 4 = Pt by omega])
    (try rw [show b1 Wd % 2 = b1 Wd by omega])
    (try rw [show Im % 65536 = Im by omega])
    (try rw [show Fn / 16 % 16 = Fn / 16 by omega])
    (try rw [show Im % 67108864 = Im by omega])
    (try rw [show idx Fn % 16 = idx Fn by omega])
    (try rw [show op % 64 = op by omega])
    (repeat' split) <;> omega
  · have n1 : ¬ op = 1 := by omega
    have n20 : ¬ op = 20 := by omega
    have n21 : ¬ op = 21 := by omega
    have n22 : ¬ op = 22 := by omega
    have n23 : ¬ op = 23 := by omega
    have n24 : ¬ op = 24 := by omega
    have n25 : ¬ op = 25 := by omega
    have n26 : ¬ op = 26 := by omega
    have n27 : ¬ op = 27 := by omega
    have r4 : ¬ 4 ≤ op := by omega
    have r12 : ¬ 12 ≤ op := by omega
    rcases ho with ho | ho
    · have m1 : ¬ op = 3 := by omega
      have hoT : (op = 2) = True := eq_true (by omega)
      simp only [n1, n20, n21, n22, n23, n24, n25, n26, n27, r4, r12, W.eq_d, W.ge_d, W.lt_d, W.pick_eq, decide_true, decide_false, cond_true, cond_false, br_t, br_f, hoT, m1, one_eq, bit_eq, index_eq, number_eq, fm_5_21, fm_5_16, fm_5_11, fm_1_10, fm_4_6, fm_2_19, fm_16_0, fm_11_0, fm_26_0, fm_1_11, fm_4_12, rs_26, rs_21, rs_16, rs_11, rs_19, rs_6, rs_12, rb_10, rb_11, mk_16, mk_11, mk_26, mk_5, mk_1, mk_4, mk_2]
      refine congrArg (fun z => k (z, (0 : Int))) (Eq.trans (orS 19 524288 (by decide) (orS 19 524288 (by decide) (orS 21 2097152 (by decide) (orS 26 67108864 (by decide) rfl (by omega)) (by omega)) (by omega)) (by omega)) ?_)
      simp only [encI]
      (try rw [show D % 32 = D by omega])
      (try rw [show A % 32 = A by omega])
      (try rw [show B % 32 = B by omega])
      (try rw [show Pt % 4 = Pt by omega])
      (try rw [show b1 Wd % 2 = b1 Wd by omega])
      (try rw [show Im % 65536 = Im by omega])
      (try rw [show Fn / 16 % 16 = Fn / 16 by omega])
      (try rw [show Im % 67108864 = Im by omega])
      (try rw [show idx Fn % 16 = idx Fn by omega])
      (try rw [show op % 64 = op by omega])
      (repeat' split) <;> omega
    · have m1 : ¬ op = 2 := by omega
      have hoT : (op = 3) = True := eq_true (by omega)
      simp only [n1, n20, n21, n22, n23, n24, n25, n26, n27, r4, r12, W.eq_d, W.ge_d, W.lt_d, W.pick_eq, decide_true, decide_false, cond_true, cond_false, br_t, br_f, hoT, m1, one_eq, bit_eq, index_eq, number_eq, fm_5_21, fm_5_16, fm_5_11, fm_1_10, fm_4_6, fm_2_19, fm_16_0, fm_11_0, fm_26_0, fm_1_11, fm_4_12, rs_26, rs_21, rs_16, rs_11, rs_19, rs_6, rs_12, rb_10, rb_11, mk_16, mk_11, mk_26, mk_5, mk_1, mk_4, mk_2]
      refine congrArg (fun z => k (z, (0 : Int))) (Eq.trans (orS 19 524288 (by decide) (orS 19 524288 (by decide) (orS 21 2097152 (by decide) (orS 26 67108864 (by decide) rfl (by omega)) (by omega)) (by omega)) (by omega)) ?_)
      simp only [encI]
      (try rw [show D % 32 = D by omega])
      (try rw [show A % 32 = A by omega])
      (try rw [show B % 32 = B by omega])
      (try rw [show Pt % 4 = Pt by omega])
      (try rw [show b1 Wd % 2 = b1 Wd by omega])
      (try rw [show Im % 65536 = Im by omega])
      (try rw [show Fn / 16 % 16 = Fn / 16 by omega])
      (try rw [show Im % 67108864 = Im by omega])
      (try rw [show idx Fn % 16 = idx Fn by omega])
      (try rw [show op % 64 = op by omega])
      (repeat' split) <;> omega
  · have n1 : ¬ op = 1 := by omega
    have n2 : ¬ op = 2 := by omega
    have n3 : ¬ op = 3 := by omega
    have n20 : ¬ op = 20 := by omega
    have n21 : ¬ op = 21 := by omega
    have n22 : ¬ op = 22 := by omega
    have n23 : ¬ op = 23 := by omega
    have n24 : ¬ op = 24 := by omega
    have n25 : ¬ op = 25 := by omega
    have n26 : ¬ op = 26 := by omega
    have n27 : ¬ op = 27 := by omega
    have r4 : 4 ≤ op := ho.1
    have s4 : op < 12 := ho.2
    have r12 : ¬ 12 ≤ op := by omega
    have s12 : op < 20 := by omega
    simp only [n1, n2, n3, n20, n21, n22, n23, n24, n25, n26, n27, r4, s4, r12, s12, W.eq_d, W.ge_d, W.lt_d, W.pick_eq, decide_true, decide_false, cond_true, cond_false, br_t, br_f, one_eq, bit_eq, index_eq, number_eq, fm_5_21, fm_5_16, fm_5_11, fm_1_10, fm_4_6, fm_2_19, fm_16_0, fm_11_0, fm_26_0, fm_1_11, fm_4_12, rs_26, rs_21, rs_16, rs_11, rs_19, rs_6, rs_12, rb_10, rb_11, mk_16, mk_11, mk_26, mk_5, mk_1, mk_4, mk_2]
    refine congrArg (fun z => k (z, (0 : Int))) (Eq.trans (orS 16 65536 (by decide) (orS 21 2097152 (by decide) (orS 26 67108864 (by decide) rfl (by omega)) (by omega)) (by omega)) ?_)
    simp only [encI]
    (try rw [show D % 32 = D by omega])
    (try rw [show A % 32 = A by omega])
    (try rw [show B % 32 = B by omega])
    (try rw [show Pt % 4 = Pt by omega])
    (try rw [show b1 Wd % 2 = b1 Wd by omega])
    (try rw [show Im % 65536 = Im by omega])
    (try rw [show Fn / 16 % 16 = Fn / 16 by omega])
    (try rw [show Im % 67108864 = Im by omega])
    (try rw [show idx Fn % 16 = idx Fn by omega])
    (try rw [show op % 64 = op by omega])
    (repeat' split) <;> omega
  · have n1 : ¬ op = 1 := by omega
    have n2 : ¬ op = 2 := by omega
    have n3 : ¬ op = 3 := by omega
    have n20 : ¬ op = 20 := by omega
    have n21 : ¬ op = 21 := by omega
    have n22 : ¬ op = 22 := by omega
    have n23 : ¬ op = 23 := by omega
    have n24 : ¬ op = 24 := by omega
    have n25 : ¬ op = 25 := by omega
    have n26 : ¬ op = 26 := by omega
    have n27 : ¬ op = 27 := by omega
    have r12 : 12 ≤ op := ho.1
    have s12 : op < 20 := ho.2
    have s4 : ¬ op < 12 := by omega
    have r4 : 4 ≤ op := by omega
    simp only [n1, n2, n3, n20, n21, n22, n23, n24, n25, n26, n27, r12, s12, s4, r4, W.eq_d, W.ge_d, W.lt_d, W.pick_eq, decide_true, decide_false, cond_true, cond_false, br_t, br_f, one_eq, bit_eq, index_eq, number_eq, fm_5_21, fm_5_16, fm_5_11, fm_1_10, fm_4_6, fm_2_19, fm_16_0, fm_11_0, fm_26_0, fm_1_11, fm_4_12, rs_26, rs_21, rs_16, rs_11, rs_19, rs_6, rs_12, rb_10, rb_11, mk_16, mk_11, mk_26, mk_5, mk_1, mk_4, mk_2]
    refine congrArg (fun z => k (z, (0 : Int))) (Eq.trans (orS 16 65536 (by decide) (orS 26 67108864 (by decide) (orS 26 67108864 (by decide) rfl (by omega)) (by omega)) (by omega)) ?_)
    simp only [encI]
    (try rw [show D % 32 = D by omega])
    (try rw [show A % 32 = A by omega])
    (try rw [show B % 32 = B by omega])
    (try rw [show Pt % 4 = Pt by omega])
    (try rw [show b1 Wd % 2 = b1 Wd by omega])
    (try rw [show Im % 65536 = Im by omega])
    (try rw [show Fn / 16 % 16 = Fn / 16 by omega])
    (try rw [show Im % 67108864 = Im by omega])
    (try rw [show idx Fn % 16 = idx Fn by omega])
    (try rw [show op % 64 = op by omega])
    (repeat' split) <;> omega
  · have n1 : ¬ op = 1 := by omega
    have n2 : ¬ op = 2 := by omega
    have n3 : ¬ op = 3 := by omega
    have n21 : ¬ op = 21 := by omega
    have n22 : ¬ op = 22 := by omega
    have n23 : ¬ op = 23 := by omega
    have n24 : ¬ op = 24 := by omega
    have n25 : ¬ op = 25 := by omega
    have n26 : ¬ op = 26 := by omega
    have n27 : ¬ op = 27 := by omega
    have s4 : ¬ op < 12 := by omega
    have s12 : ¬ op < 20 := by omega
    have r4 : 4 ≤ op := by omega
    have r12 : 12 ≤ op := by omega
    rw [index_eq]
    have hoT : (op = 20) = True := eq_true (by omega)
    simp only [n1, n2, n3, n21, n22, n23, n24, n25, n26, n27, s4, s12, r4, r12, W.eq_d, W.ge_d, W.lt_d, W.pick_eq, decide_true, decide_false, cond_true, cond_false, br_t, br_f, hoT, one_eq, bit_eq, index_eq, number_eq, fm_5_21, fm_5_16, fm_5_11, fm_1_10, fm_4_6, fm_2_19, fm_16_0, fm_11_0, fm_26_0, fm_1_11, fm_4_12, rs_26, rs_21, rs_16, rs_11, rs_19, rs_6, rs_12, rb_10, rb_11, mk_16, mk_11, mk_26, mk_5, mk_1, mk_4, mk_2]
    refine congrArg (fun z => k (z, (0 : Int))) (Eq.trans (orS 11 2048 (by decide) (orS 12 4096 (by decide) (orS 16 65536 (by decide) (orS 21 2097152 (by decide) (orS 26 67108864 (by decide) rfl (by omega)) (by omega)) (by omega)) (by omega)) (by omega)) ?_)
    simp only [encI]
    (try rw [show D % 32 = D by omega])
    (try rw [show A % 32 = A by omega])
    (try rw [show B % 32 = B by omega])
    (try rw [show Pt % 4 = Pt by omega])
    (try rw [show b1 Wd % 2 = b1 Wd by omega])
    (try rw [show Im % 65536 = Im by omega])
    (try rw [show Fn / 16 % 16 = Fn / 16 by omega])
    (try rw [show Im % 67108864 = Im by omega])
    (try rw [show idx Fn % 16 = idx Fn by omega])
    (try rw [show op % 64 = op by omega])
    (repeat' split) <;> omega
  · have n1 : ¬ op = 1 := by omega
    have n2 : ¬ op = 2 := by omega
    have n3 : ¬ op = 3 := by omega
    have n20 : ¬ op = 20 := by omega
    have n22 : ¬ op = 22 := by omega
    have n23 : ¬ op = 23 := by omega
    have n24 : ¬ op = 24 := by omega
    have n25 : ¬ op = 25 := by omega
    have n26 : ¬ op = 26 := by omega
    have n27 : ¬ op = 27 := by omega
    have s4 : ¬ op < 12 := by omega
    have s12 : ¬ op < 20 := by omega
    have r4 : 4 ≤ op := by omega
    have r12 : 12 ≤ op := by omega
    have hoT : (op = 21) = True := eq_true (by omega)
    simp only [n1, n2, n3, n20, n22, n23, n24, n25, n26, n27, s4, s12, r4, r12, W.eq_d, W.ge_d, W.lt_d, W.pick_eq, decide_true, decide_false, cond_true, cond_false, br_t, br_f, hoT, one_eq, bit_eq, index_eq, number_eq, fm_5_21, fm_5_16, fm_5_11, fm_1_10, fm_4_6, fm_2_19, fm_16_0, fm_11_0, fm_26_0, fm_1_11, fm_4_12, rs_26, rs_21, rs_16, rs_11, rs_19, rs_6, rs_12, rb_10, rb_11, mk_16, mk_11, mk_26, mk_5, mk_1, mk_4, mk_2]
    refine congrArg (fun z => k (z, (0 : Int))) (Eq.trans (orS 26 67108864 (by decide) rfl (by omega)) ?_)
    simp only [encI]
    (try rw [show D % 32 = D by omega])
    (try rw [show A % 32 = A by omega])
    (try rw [show B % 32 = B by omega])
    (try rw [show Pt % 4 = Pt by omega])
    (try rw [show b1 Wd % 2 = b1 Wd by omega])
    (try rw [show Im % 65536 = Im by omega])
    (try rw [show Fn / 16 % 16 = Fn / 16 by omega])
    (try rw [show Im % 67108864 = Im by omega])
    (try rw [show idx Fn % 16 = idx Fn by omega])
    (try rw [show op % 64 = op by omega])
    (repeat' split) <;> omega
  · have n1 : ¬ op = 1 := by omega
    have n2 : ¬ op = 2 := by omega
    have n3 : ¬ op = 3 := by omega
    have n20 : ¬ op = 20 := by omega
    have n21 : ¬ op = 21 := by omega
    have n23 : ¬ op = 23 := by omega
    have n24 : ¬ op = 24 := by omega
    have n25 : ¬ op = 25 := by omega
    have n26 : ¬ op = 26 := by omega
    have n27 : ¬ op = 27 := by omega
    have s4 : ¬ op < 12 := by omega
    have s12 : ¬ op < 20 := by omega
    have r4 : 4 ≤ op := by omega
    have r12 : 12 ≤ op := by omega
    have hoT : (op = 22) = True := eq_true (by omega)
    simp only [n1, n2, n3, n20, n21, n23, n24, n25, n26, n27, s4, s12, r4, r12, W.eq_d, W.ge_d, W.lt_d, W.pick_eq, decide_true, decide_false, cond_true, cond_false, br_t, br_f, hoT, one_eq, bit_eq, index_eq, number_eq, fm_5_21, fm_5_16, fm_5_11, fm_1_10, fm_4_6, fm_2_19, fm_16_0, fm_11_0, fm_26_0, fm_1_11, fm_4_12, rs_26, rs_21, rs_16, rs_11, rs_19, rs_6, rs_12, rb_10, rb_11, mk_16, mk_11, mk_26, mk_5, mk_1, mk_4, mk_2]
    refine congrArg (fun z => k (z, (0 : Int))) (Eq.trans (orS 26 67108864 (by decide) rfl (by omega)) ?_)
    simp only [encI]
    (try rw [show D % 32 = D by omega])
    (try rw [show A % 32 = A by omega])
    (try rw [show B % 32 = B by omega])
    (try rw [show Pt % 4 = Pt by omega])
    (try rw [show b1 Wd % 2 = b1 Wd by omega])
    (try rw [show Im % 65536 = Im by omega])
    (try rw [show Fn / 16 % 16 = Fn / 16 by omega])
    (try rw [show Im % 67108864 = Im by omega])
    (try rw [show idx Fn % 16 = idx Fn by omega])
    (try rw [show op % 64 = op by omega])
    (repeat' split) <;> omega
  · have n1 : ¬ op = 1 := by omega
    have n2 : ¬ op = 2 := by omega
    have n3 : ¬ op = 3 := by omega
    have n20 : ¬ op = 20 := by omega
    have n21 : ¬ op = 21 := by omega
    have n22 : ¬ op = 22 := by omega
    have n24 : ¬ op = 24 := by omega
    have n25 : ¬ op = 25 := by omega
    have n26 : ¬ op = 26 := by omega
    have n27 : ¬ op = 27 := by omega
    have s4 : ¬ op < 12 := by omega
    have s12 : ¬ op < 20 := by omega
    have r4 : 4 ≤ op := by omega
    have r12 : 12 ≤ op := by omega
    have hoT : (op = 23) = True := eq_true (by omega)
    simp only [n1, n2, n3, n20, n21, n22, n24, n25, n26, n27, s4, s12, r4, r12, W.eq_d, W.ge_d, W.lt_d, W.pick_eq, decide_true, decide_false, cond_true, cond_false, br_t, br_f, hoT, one_eq, bit_eq, index_eq, number_eq, fm_5_21, fm_5_16, fm_5_11, fm_1_10, fm_4_6, fm_2_19, fm_16_0, fm_11_0, fm_26_0, fm_1_11, fm_4_12, rs_26, rs_21, rs_16, rs_11, rs_19, rs_6, rs_12, rb_10, rb_11, mk_16, mk_11, mk_26, mk_5, mk_1, mk_4, mk_2]
    refine congrArg (fun z => k (z, (0 : Int))) (Eq.trans (orS 26 67108864 (by decide) rfl (by omega)) ?_)
    simp only [encI]
    (try rw [show D % 32 = D by omega])
    (try rw [show A % 32 = A by omega])
    (try rw [show B % 32 = B by omega])
    (try rw [show Pt % 4 = Pt by omega])
    (try rw [show b1 Wd % 2 = b1 Wd by omega])
    (try rw [show Im % 65536 = Im by omega])
    (try rw [show Fn / 16 % 16 = Fn / 16 by omega])
    (try rw [show Im % 67108864 = Im by omega])
    (try rw [show idx Fn % 16 = idx Fn by omega])
    (try rw [show op % 64 = op by omega])
    (repeat' split) <;> omega
  · have n1 : ¬ op = 1 := by omega
    have n2 : ¬ op = 2 := by omega
    have n3 : ¬ op = 3 := by omega
    have n20 : ¬ op = 20 := by omega
    have n21 : ¬ op = 21 := by omega
    have n22 : ¬ op = 22 := by omega
    have n23 : ¬ op = 23 := by omega
    have n26 : ¬ op = 26 := by omega
    have n27 : ¬ op = 27 := by omega
    have s4 : ¬ op < 12 := by omega
    have s12 : ¬ op < 20 := by omega
    have r4 : 4 ≤ op := by omega
    have r12 : 12 ≤ op := by omega
    rcases ho with ho | ho
    · have m1 : ¬ op = 25 := by omega
      have hoT : (op = 24) = True := eq_true (by omega)
      simp only [n1, n2, n3, n20, n21, n22, n23, n26, n27, s4, s12, r4, r12, W.eq_d, W.ge_d, W.lt_d, W.pick_eq, decide_true, decide_false, cond_true, cond_false, br_t, br_f, hoT, m1, one_eq, bit_eq, index_eq, number_eq, fm_5_21, fm_5_16, fm_5_11, fm_1_10, fm_4_6, fm_2_19, fm_16_0, fm_11_0, fm_26_0, fm_1_11, fm_4_12, rs_26, rs_21, rs_16, rs_11, rs_19, rs_6, rs_12, rb_10, rb_11, mk_16, mk_11, mk_26, mk_5, mk_1, mk_4, mk_2]
      refine congrArg (fun z => k (z, (0 : Int))) (Eq.trans (orS 21 2097152 (by decide) (orS 21 2097152 (by decide) (orS 26 67108864 (by decide) rfl (by omega)) (by omega)) (by omega)) ?_)
      simp only [encI]
      (try rw [show D % 32 = D by omega])
      (try rw [show A % 32 = A by omega])
      (try rw [show B % 32 = B by omega])
      (try rw [show Pt % 4 = Pt by omega])
      (try rw [show b1 Wd % 2 = b1 Wd by omega])
      (try rw [show Im % 65536 = Im by omega])
      (try rw [show Fn / 16 % 16 = Fn / 16 by omega])
      (try rw [show Im % 67108864 = Im by omega])
      (try rw [show idx Fn % 16 = idx Fn by omega])
      (try rw [show op % 64 = op by omega])
      (repeat' split) <;> omega
    · have m1 : ¬ op = 24 := by omega
      have hoT : (op = 25) = True := eq_true (by omega)
      simp only [n1, n2, n3, n20, n21, n22, n23, n26, n27, s4, s12, r4, r12, W.eq_d, W.ge_d, W.lt_d, W.pick_eq, decide_true, decide_false, cond_true, cond_false, br_t, br_f, hoT, m1, one_eq, bit_eq, index_eq, number_eq, fm_5_21, fm_5_16, fm_5_11, fm_1_10, fm_4_6, fm_2_19, fm_16_0, fm_11_0, fm_26_0, fm_1_11, fm_4_12, rs_26, rs_21, rs_16, rs_11, rs_19, rs_6, rs_12, rb_10, rb_11, mk_16, mk_11, mk_26, mk_5, mk_1, mk_4, mk_2]
      refine congrArg (fun z => k (z, (0 : Int))) (Eq.trans (orS 21 2097152 (by decide) (orS 21 2097152 (by decide) (orS 26 67108864 (by decide) rfl (by omega)) (by omega)) (by omega)) ?_)
      simp only [encI]
      (try rw [show D % 32 = D by omega])
      (try rw [show A % 32 = A by omega])
      (try rw [show B % 32 = B by omega])
      (try rw [show Pt % 4 = Pt by omega])
      (try rw [show b1 Wd % 2 = b1 Wd by omega])
      (try rw [show Im % 65536 = Im by omega])
      (try rw [show Fn / 16 % 16 = Fn / 16 by omega])
      (try rw [show Im % 67108864 = Im by omega])
      (try rw [show idx Fn % 16 = idx Fn by omega])
      (try rw [show op % 64 = op by omega])
      (repeat' split) <;> omega
  · have n1 : ¬ op = 1 := by omega
    have n2 : ¬ op = 2 := by omega
    have n3 : ¬ op = 3 := by omega
    have n20 : ¬ op = 20 := by omega
    have n21 : ¬ op = 21 := by omega
    have n22 : ¬ op = 22 := by omega
    have n23 : ¬ op = 23 := by omega
    have n24 : ¬ op = 24 := by omega
    have n25 : ¬ op = 25 := by omega
    have s4 : ¬ op < 12 := by omega
    have s12 : ¬ op < 20 := by omega
    have r4 : 4 ≤ op := by omega
    have r12 : 12 ≤ op := by omega
    rcases ho with ho | ho
    · have m1 : ¬ op = 27 := by omega
      have hoT : (op = 26) = True := eq_true (by omega)
      simp only [n1, n2, n3, n20, n21, n22, n23, n24, n25, s4, s12, r4, r12, W.eq_d, W.ge_d, W.lt_d, W.pick_eq, decide_true, decide_false, cond_true, cond_false, br_t, br_f, hoT, m1, one_eq, bit_eq, index_eq, number_eq, fm_5_21, fm_5_16, fm_5_11, fm_1_10, fm_4_6, fm_2_19, fm_16_0, fm_11_0, fm_26_0, fm_1_11, fm_4_12, rs_26, rs_21, rs_16, rs_11, rs_19, rs_6, rs_12, rb_10, rb_11, mk_16, mk_11, mk_26, mk_5, mk_1, mk_4, mk_2]
      refine congrArg (fun z => k (z, (0 : Int))) (Eq.trans (orS 26 67108864 (by decide) rfl (by omega)) ?_)
      simp only [encI]
      (try rw [show D % 32 = D by omega])
      (try rw [show A % 32 = A by omega])
      (try rw [show B % 32 = B by omega])
      (try rw [show Pt % 4 = Pt by omega])
      (try rw [show b1 Wd % 2 = b1 Wd by omega])
      (try rw [show Im % 65536 = Im by omega])
      (try rw [show Fn / 16 % 16 = Fn / 16 by omega])
      (try rw [show Im % 67108864 = Im by omega])
      (try rw [show idx Fn % 16 = idx Fn by omega])
      (try rw [show op % 64 = op by omega])
      (repeat' split) <;> omega
    · have m1 : ¬ op = 26 := by omega
      have hoT : (op = 27) = True := eq_true (by omega)
      simp only [n1, n2, n3, n20, n21, n22, n23, n24, n25, s4, s12, r4, r12, W.eq_d, W.ge_d, W.lt_d, W.pick_eq, decide_true, decide_false, cond_true, cond_false, br_t, br_f, hoT, m1, one_eq, bit_eq, index_eq, number_eq, fm_5_21, fm_5_16, fm_5_11, fm_1_10, fm_4_6, fm_2_19, fm_16_0, fm_11_0, fm_26_0, fm_1_11, fm_4_12, rs_26, rs_21, rs_16, rs_11, rs_19, rs_6, rs_12, rb_10, rb_11, mk_16, mk_11, mk_26, mk_5, mk_1, mk_4, mk_2]
      refine congrArg (fun z => k (z, (0 : Int))) (Eq.trans (orS 26 67108864 (by decide) rfl (by omega)) ?_)
      simp only [encI]
      (try rw [show D % 32 = D by omega])
      (try rw [show A % 32 = A by omega])
      (try rw [show B % 32 = B by omega])
      (try rw [show Pt % 4 = Pt by omega])
      (try rw [show b1 Wd % 2 = b1 Wd by omega])
      (try rw [show Im % 65536 = Im by omega])
      (try rw [show Fn / 16 % 16 = Fn / 16 by omega])
      (try rw [show Im % 67108864 = Im by omega])
      (try rw [show idx Fn % 16 = idx Fn by omega])
      (try rw [show op % 64 = op by omega])
      (repeat' split) <;> omega
open Classical in
theorem renc_eq (x : PTs.D ps_clevisref23Encode) (k : Int × Int → Option R) : F_clevisref23Encode R x k = k (wordR x) := by
  obtain ⟨(op : Int), (D : Int), (A : Int), (B : Int), (Fn : Int), (Wd : Bool), (Pt : Int), (Im : Int)⟩ := x
  show N_clevisref23Encode F_clevisref23number F_clevisref23Check F_clevisref23bit R (op, D, A, B, Fn, Wd, Pt, Im) k = _
  unfold N_clevisref23Encode
  simp only [rcheck_eq]
  by_cases h : okR (op, D, A, B, Fn, Wd, Pt, Im)
  rotate_left
  · simp [wordR, h, W.not, br_t]
  have ew : wordR (op, D, A, B, Fn, Wd, Pt, Im) = (encI (op, D, A, B, Fn, Wd, Pt, Im), 0) := if_pos h
  rw [ew]
  simp only [h, decide_true, W.not, Bool.not_true, br_f]
  have hw := b1_le Wd
  have hi := idx_le Fn
  simp only [okR] at h
  rcases h with ⟨ho, hD, hA, hB, hF, hP, hI⟩ | ⟨ho, hD, hA, hB, hF, hW, hP, hI⟩ | ⟨ho, hD, hA, hB, hF, hW, hP, hI⟩ | ⟨ho, hD, hA, hB, hF, hW, hP, hI⟩ | ⟨ho, hD, hA, hB, hF, hP, hI⟩ | ⟨ho, hD, hA, hB, hF, hW, hP, hI⟩ | ⟨ho, hD, hA, hB, hF, hW, hP, hI⟩ | ⟨ho, hD, hA, hB, hF, hW, hP, hI⟩ | ⟨ho, hD, hA, hB, hF, hW, hP, hI⟩ | ⟨ho, hD, hA, hB, hF, hW, hP, hI⟩
  · have n2 : ¬ op = 2 := by omega
    have n3 : ¬ op = 3 := by omega
    have n20 : ¬ op = 20 := by omega
    have n21 : ¬ op = 21 := by omega
    have n22 : ¬ op = 22 := by omega
    have n23 : ¬ op = 23 := by omega
    have n24 : ¬ op = 24 := by omega
    have n25 : ¬ op = 25 := by omega
    have n26 : ¬ op = 26 := by omega
    have n27 : ¬ op = 27 := by omega
    have r4 : ¬ 4 ≤ op := by omega
    have r12 : ¬ 12 ≤ op := by omega
    rw [alu_ok] at hF
    obtain ⟨q1, q2, q3⟩ := quo16 hF
    simp only [q1]
    have hoT : (op = 1) = True := eq_true (by omega)
    simp only [n2, n3, n20, n21, n22, n23, n24, n25, n26, n27, r4, r12, W.eq_d, W.ge_d, W.lt_d, W.pick_eq, decide_true, decide_false, cond_true, cond_false, br_t, br_f, hoT, one_eq, bit_eq, index_eq, number_eq, fm_5_21, fm_5_16, fm_5_11, fm_1_10, fm_4_6, fm_2_19, fm_16_0, fm_11_0, fm_26_0, fm_1_11, fm_4_12, rs_26, rs_21, rs_16, rs_11, rs_19, rs_6, rs_12, rb_10, rb_11, mk_16, mk_11, mk_26, mk_5, mk_1, mk_4, mk_2]
    refine congrArg (fun z => k (z, (0 : Int))) (Eq.trans (orS 10 1024 (by decide) (orS 11 2048 (by decide) (orS 16 65536 (by decide) (orS 21 2097152 (by decide) (orS 26 67108864 (by decide) rfl (by omega)) (by omega)) (by omega)) (by omega)) (by omega)) ?_)
    simp only [encI]
    (try rw [show D % 32 = D by omega])
    (try rw [show A % 32 = A by omega])
    (try rw [show B % 32 = B by omega])
    (try rw [show Pt % 4 = Pt by omega])
    (try rw [show b1 Wd % 2 = b1 Wd by omega])
    (try rw [show Im % 65536 = Im by omega])
    (try rw [show Fn / 16 % 16 = Fn / 16 by omega])
    (try rw [show Im % 67108864 = Im by omega])
    (try rw [show idx Fn % 16 = idx Fn by omega])
    (try rw [show op % 64 = op by omega])
    (repeat' split) <;> omega
  · have n1 : ¬ op = 1 := by omega
    have n20 : ¬ op = 20 := by omega
    have n21 : ¬ op = 21 := by omega
    have n22 : ¬ op = 22 := by omega
    have n23 : ¬ op = 23 := by omega
    have n24 : ¬ op = 24 := by omega
    have n25 : ¬ op = 25 := by omega
    have n26 : ¬ op = 26 := by omega
    have n27 : ¬ op = 27 := by omega
    have r4 : ¬ 4 ≤ op := by omega
    have r12 : ¬ 12 ≤ op := by omega
    rcases ho with ho | ho
    · have m1 : ¬ op = 3 := by omega
      have hoT : (op = 2) = True := eq_true (by omega)
      simp only [n1, n20, n21, n22, n23, n24, n25, n26, n27, r4, r12, W.eq_d, W.ge_d, W.lt_d, W.pick_eq, decide_true, decide_false, cond_true, cond_false, br_t, br_f, hoT, m1, one_eq, bit_eq, index_eq, number_eq, fm_5_21, fm_5_16, fm_5_11, fm_1_10, fm_4_6, fm_2_19, fm_16_0, fm_11_0, fm_26_0, fm_1_11, fm_4_12, rs_26, rs_21, rs_16, rs_11, rs_19, rs_6, rs_12, rb_10, rb_11, mk_16, mk_11, mk_26, mk_5, mk_1, mk_4, mk_2]
      refine congrArg (fun z => k (z, (0 : Int))) (Eq.trans (orS 19 524288 (by decide) (orS 21 2097152 (by decide) (orS 16 65536 (by decide) (orS 21 2097152 (by decide) (orS 26 67108864 (by decide) rfl (by omega)) (by omega)) (by omega)) (by omega)) (by omega)) ?_)
      simp only [encI]
      (try rw [show D % 32 = D by omega])
      (try rw [show A % 32 = A by omega])
      (try rw [show B % 32 = B by omega])
      (try rw [show Pt % 4 = Pt by omega])
      (try rw [show b1 Wd % 2 = b1 Wd by omega])
      (try rw [show Im % 65536 = Im by omega])
      (try rw [show Fn / 16 % 16 = Fn / 16 by omega])
      (try rw [show Im % 67108864 = Im by omega])
      (try rw [show idx Fn % 16 = idx Fn by omega])
      (try rw [show op % 64 = op by omega])
      (repeat' split) <;> omega
    · have m1 : ¬ op = 2 := by omega
      have hoT : (op = 3) = True := eq_true (by omega)
      simp only [n1, n20, n21, n22, n23, n24, n25, n26, n27, r4, r12, W.eq_d, W.ge_d, W.lt_d, W.pick_eq, decide_true, decide_false, cond_true, cond_false, br_t, br_f, hoT, m1, one_eq, bit_eq, index_eq, number_eq, fm_5_21, fm_5_16, fm_5_11, fm_1_10, fm_4_6, fm_2_19, fm_16_0, fm_11_0, fm_26_0, fm_1_11, fm_4_12, rs_26, rs_21, rs_16, rs_11, rs_19, rs_6, rs_12, rb_10, rb_11, mk_16, mk_11, mk_26, mk_5, mk_1, mk_4, mk_2]
      refine congrArg (fun z => k (z, (0 : Int))) (Eq.trans (orS 19 524288 (by decide) (orS 21 2097152 (by decide) (orS 16 65536 (by decide) (orS 21 2097152 (by decide) (orS 26 67108864 (by decide) rfl (by omega)) (by omega)) (by omega)) (by omega)) (by omega)) ?_)
      simp only [encI]
      (try rw [show D % 32 = D by omega])
      (try rw [show A % 32 = A by omega])
      (try rw [show B % 32 = B by omega])
      (try rw [show Pt % 4 = Pt by omega])
      (try rw [show b1 Wd % 2 = b1 Wd by omega])
      (try rw [show Im % 65536 = Im by omega])
      (try rw [show Fn / 16 % 16 = Fn / 16 by omega])
      (try rw [show Im % 67108864 = Im by omega])
      (try rw [show idx Fn % 16 = idx Fn by omega])
      (try rw [show op % 64 = op by omega])
      (repeat' split) <;> omega
  · have n1 : ¬ op = 1 := by omega
    have n2 : ¬ op = 2 := by omega
    have n3 : ¬ op = 3 := by omega
    have n20 : ¬ op = 20 := by omega
    have n21 : ¬ op = 21 := by omega
    have n22 : ¬ op = 22 := by omega
    have n23 : ¬ op = 23 := by omega
    have n24 : ¬ op = 24 := by omega
    have n25 : ¬ op = 25 := by omega
    have n26 : ¬ op = 26 := by omega
    have n27 : ¬ op = 27 := by omega
    have r4 : 4 ≤ op := ho.1
    have s4 : op < 12 := ho.2
    have r12 : ¬ 12 ≤ op := by omega
    have s12 : op < 20 := by omega
    simp only [n1, n2, n3, n20, n21, n22, n23, n24, n25, n26, n27, r4, s4, r12, s12, W.eq_d, W.ge_d, W.lt_d, W.pick_eq, decide_true, decide_false, cond_true, cond_false, br_t, br_f, one_eq, bit_eq, index_eq, number_eq, fm_5_21, fm_5_16, fm_5_11, fm_1_10, fm_4_6, fm_2_19, fm_16_0, fm_11_0, fm_26_0, fm_1_11, fm_4_12, rs_26, rs_21, rs_16, rs_11, rs_19, rs_6, rs_12, rb_10, rb_11, mk_16, mk_11, mk_26, mk_5, mk_1, mk_4, mk_2]
    refine congrArg (fun z => k (z, (0 : Int))) (Eq.trans (orS 16 65536 (by decide) (orS 16 65536 (by decide) (orS 21 2097152 (by decide) (orS 26 67108864 (by decide) rfl (by omega)) (by omega)) (by omega)) (by omega)) ?_)
    simp only [encI]
    (try rw [show D % 32 = D by omega])
    (try rw [show A % 32 = A by omega])
    (try rw [show B % 32 = B by omega])
    (try rw [show Pt % 4 = Pt by omega])
    (try rw [show b1 Wd % 2 = b1 Wd by omega])
    (try rw [show Im % 65536 = Im by omega])
    (try rw [show Fn / 16 % 16 = Fn / 16 by omega])
    (try rw [show Im % 67108864 = Im by omega])
    (try rw [show idx Fn % 16 = idx Fn by omega])
    (try rw [show op % 64 = op by omega])
    (repeat' split) <;> omega
  · have n1 : ¬ op = 1 := by omega
    have n2 : ¬ op = 2 := by omega
    have n3 : ¬ op = 3 := by omega
    have n20 : ¬ op = 20 := by omega
    have n21 : ¬ op = 21 := by omega
    have n22 : ¬ op = 22 := by omega
    have n23 : ¬ op = 23 := by omega
    have n24 : ¬ op = 24 := by omega
    have n25 : ¬ op = 25 := by omega
    have n26 : ¬ op = 26 := by omega
    have n27 : ¬ op = 27 := by omega
    have r12 : 12 ≤ op := ho.1
    have s12 : op < 20 := ho.2
    have s4 : ¬ op < 12 := by omega
    have r4 : 4 ≤ op := by omega
    simp only [n1, n2, n3, n20, n21, n22, n23, n24, n25, n26, n27, r12, s12, s4, r4, W.eq_d, W.ge_d, W.lt_d, W.pick_eq, decide_true, decide_false, cond_true, cond_false, br_t, br_f, one_eq, bit_eq, index_eq, number_eq, fm_5_21, fm_5_16, fm_5_11, fm_1_10, fm_4_6, fm_2_19, fm_16_0, fm_11_0, fm_26_0, fm_1_11, fm_4_12, rs_26, rs_21, rs_16, rs_11, rs_19, rs_6, rs_12, rb_10, rb_11, mk_16, mk_11, mk_26, mk_5, mk_1, mk_4, mk_2]
    refine congrArg (fun z => k (z, (0 : Int))) (Eq.trans (orS 16 65536 (by decide) (orS 16 65536 (by decide) (orS 21 2097152 (by decide) (orS 26 67108864 (by decide) rfl (by omega)) (by omega)) (by omega)) (by omega)) ?_)
    simp only [encI]
    (try rw [show D % 32 = D by omega])
    (try rw [show A % 32 = A by omega])
    (try rw [show B % 32 = B by omega])
    (try rw [show Pt % 4 = Pt by omega])
    (try rw [show b1 Wd % 2 = b1 Wd by omega])
    (try rw [show Im % 65536 = Im by omega])
    (try rw [show Fn / 16 % 16 = Fn / 16 by omega])
    (try rw [show Im % 67108864 = Im by omega])
    (try rw [show idx Fn % 16 = idx Fn by omega])
    (try rw [show op % 64 = op by omega])
    (repeat' split) <;> omega
  · have n1 : ¬ op = 1 := by omega
    have n2 : ¬ op = 2 := by omega
    have n3 : ¬ op = 3 := by omega
    have n21 : ¬ op = 21 := by omega
    have n22 : ¬ op = 22 := by omega
    have n23 : ¬ op = 23 := by omega
    have n24 : ¬ op = 24 := by omega
    have n25 : ¬ op = 25 := by omega
    have n26 : ¬ op = 26 := by omega
    have n27 : ¬ op = 27 := by omega
    have s4 : ¬ op < 12 := by omega
    have s12 : ¬ op < 20 := by omega
    have r4 : 4 ≤ op := by omega
    have r12 : 12 ≤ op := by omega
    have hoT : (op = 20) = True := eq_true (by omega)
    simp only [n1, n2, n3, n21, n22, n23, n24, n25, n26, n27, s4, s12, r4, r12, W.eq_d, W.ge_d, W.lt_d, W.pick_eq, decide_true, decide_false, cond_true, cond_false, br_t, br_f, hoT, one_eq, bit_eq, index_eq, number_eq, fm_5_21, fm_5_16, fm_5_11, fm_1_10, fm_4_6, fm_2_19, fm_16_0, fm_11_0, fm_26_0, fm_1_11, fm_4_12, rs_26, rs_21, rs_16, rs_11, rs_19, rs_6, rs_12, rb_10, rb_11, mk_16, mk_11, mk_26, mk_5, mk_1, mk_4, mk_2]
    refine congrArg (fun z => k (z, (0 : Int))) (Eq.trans (orS 11 2048 (by decide) (orS 12 4096 (by decide) (orS 16 65536 (by decide) (orS 21 2097152 (by decide) (orS 26 67108864 (by decide) rfl (by omega)) (by omega)) (by omega)) (by omega)) (by omega)) ?_)
    simp only [encI]
    (try rw [show D % 32 = D by omega])
    (try rw [show A % 32 = A by omega])
    (try rw [show B % 32 = B by omega])
    (try rw [show Pt % 4 = Pt by omega])
    (try rw [show b1 Wd % 2 = b1 Wd by omega])
    (try rw [show Im % 65536 = Im by omega])
    (try rw [show Fn / 16 % 16 = Fn / 16 by omega])
    (try rw [show Im % 67108864 = Im by omega])
    (try rw [show idx Fn % 16 = idx Fn by omega])
    (try rw [show op % 64 = op by omega])
    (repeat' split) <;> omega
  · have n1 : ¬ op = 1 := by omega
    have n2 : ¬ op = 2 := by omega
    have n3 : ¬ op = 3 := by omega
    have n20 : ¬ op = 20 := by omega
    have n22 : ¬ op = 22 := by omega
    have n23 : ¬ op = 23 := by omega
    have n24 : ¬ op = 24 := by omega
    have n25 : ¬ op = 25 := by omega
    have n26 : ¬ op = 26 := by omega
    have n27 : ¬ op = 27 := by omega
    have s4 : ¬ op < 12 := by omega
    have s12 : ¬ op < 20 := by omega
    have r4 : 4 ≤ op := by omega
    have r12 : 12 ≤ op := by omega
    have hoT : (op = 21) = True := eq_true (by omega)
    simp only [n1, n2, n3, n20, n22, n23, n24, n25, n26, n27, s4, s12, r4, r12, W.eq_d, W.ge_d, W.lt_d, W.pick_eq, decide_true, decide_false, cond_true, cond_false, br_t, br_f, hoT, one_eq, bit_eq, index_eq, number_eq, fm_5_21, fm_5_16, fm_5_11, fm_1_10, fm_4_6, fm_2_19, fm_16_0, fm_11_0, fm_26_0, fm_1_11, fm_4_12, rs_26, rs_21, rs_16, rs_11, rs_19, rs_6, rs_12, rb_10, rb_11, mk_16, mk_11, mk_26, mk_5, mk_1, mk_4, mk_2]
    refine congrArg (fun z => k (z, (0 : Int))) (Eq.trans (orS 26 67108864 (by decide) (orS 26 67108864 (by decide) (orS 26 67108864 (by decide) (orS 26 67108864 (by decide) rfl (by omega)) (by omega)) (by omega)) (by omega)) ?_)
    simp only [encI]
    (try rw [show D % 32 = D by omega])
    (try rw [show A % 32 = A by omega])
    (try rw [show B % 32 = B by omega])
    (try rw [show Pt % 4 = Pt by omega])
    (try rw [show b1 Wd % 2 = b1 Wd by omega])
    (try rw [show Im % 65536 = Im by omega])
    (try rw [show Fn / 16 % 16 = Fn / 16 by omega])
    (try rw [show Im % 67108864 = Im by omega])
    (try rw [show idx Fn % 16 = idx Fn by omega])
    (try rw [show op % 64 = op by omega])
    (repeat' split) <;> omega
  · have n1 : ¬ op = 1 := by omega
    have n2 : ¬ op = 2 := by omega
    have n3 : ¬ op = 3 := by omega
    have n20 : ¬ op = 20 := by omega
    have n21 : ¬ op = 21 := by omega
    have n23 : ¬ op = 23 := by omega
    have n24 : ¬ op = 24 := by omega
    have n25 : ¬ op = 25 := by omega
    have n26 : ¬ op = 26 := by omega
    have n27 : ¬ op = 27 := by omega
    have s4 : ¬ op < 12 := by omega
    have s12 : ¬ op < 20 := by omega
    have r4 : 4 ≤ op := by omega
    have r12 : 12 ≤ op := by omega
    have hoT : (op = 22) = True := eq_true (by omega)
    simp only [n1, n2, n3, n20, n21, n23, n24, n25, n26, n27, s4, s12, r4, r12, W.eq_d, W.ge_d, W.lt_d, W.pick_eq, decide_true, decide_false, cond_true, cond_false, br_t, br_f, hoT, one_eq, bit_eq, index_eq, number_eq, fm_5_21, fm_5_16, fm_5_11, fm_1_10, fm_4_6, fm_2_19, fm_16_0, fm_11_0, fm_26_0, fm_1_11, fm_4_12, rs_26, rs_21, rs_16, rs_11, rs_19, rs_6, rs_12, rb_10, rb_11, mk_16, mk_11, mk_26, mk_5, mk_1, mk_4, mk_2]
    refine congrArg (fun z => k (z, (0 : Int))) (Eq.trans (orS 26 67108864 (by decide) (orS 26 67108864 (by decide) (orS 26 67108864 (by decide) (orS 26 67108864 (by decide) rfl (by omega)) (by omega)) (by omega)) (by omega)) ?_)
    simp only [encI]
    (try rw [show D % 32 = D by omega])
    (try rw [show A % 32 = A by omega])
    (try rw [show B % 32 = B by omega])
    (try rw [show Pt % 4 = Pt by omega])
    (try rw [show b1 Wd % 2 = b1 Wd by omega])
    (try rw [show Im % 65536 = Im by omega])
    (try rw [show Fn / 16 % 16 = Fn / 16 by omega])
    (try rw [show Im % 67108864 = Im by omega])
    (try rw [show idx Fn % 16 = idx Fn by omega])
    (try rw [show op % 64 = op by omega])
    (repeat' split) <;> omega
  · have n1 : ¬ op = 1 := by omega
    have n2 : ¬ op = 2 := by omega
    have n3 : ¬ op = 3 := by omega
    have n20 : ¬ op = 20 := by omega
    have n21 : ¬ op = 21 := by omega
    have n22 : ¬ op = 22 := by omega
    have n24 : ¬ op = 24 := by omega
    have n25 : ¬ op = 25 := by omega
    have n26 : ¬ op = 26 := by omega
    have n27 : ¬ op = 27 := by omega
    have s4 : ¬ op < 12 := by omega
    have s12 : ¬ op < 20 := by omega
    have r4 : 4 ≤ op := by omega
    have r12 : 12 ≤ op := by omega
    have hoT : (op = 23) = True := eq_true (by omega)
    simp only [n1, n2, n3, n20, n21, n22, n24, n25, n26, n27, s4, s12, r4, r12, W.eq_d, W.ge_d, W.lt_d, W.pick_eq, decide_true, decide_false, cond_true, cond_false, br_t, br_f, hoT, one_eq, bit_eq, index_eq, number_eq, fm_5_21, fm_5_16, fm_5_11, fm_1_10, fm_4_6, fm_2_19, fm_16_0, fm_11_0, fm_26_0, fm_1_11, fm_4_12, rs_26, rs_21, rs_16, rs_11, rs_19, rs_6, rs_12, rb_10, rb_11, mk_16, mk_11, mk_26, mk_5, mk_1, mk_4, mk_2]
    refine congrArg (fun z => k (z, (0 : Int))) (Eq.trans (orS 16 65536 (by decide) (orS 16 65536 (by decide) (orS 21 2097152 (by decide) (orS 26 67108864 (by decide) rfl (by omega)) (by omega)) (by omega)) (by omega)) ?_)
    simp only [encI]
    (try rw [show D % 32 = D by omega])
    (try rw [show A % 32 = A by omega])
    (try rw [show B % 32 = B by omega])
    (try rw [show Pt % 4 = Pt by omega])
    (try rw [show b1 Wd % 2 = b1 Wd by omega])
    (try rw [show Im % 65536 = Im by omega])
    (try rw [show Fn / 16 % 16 = Fn / 16 by omega])
    (try rw [show Im % 67108864 = Im by omega])
    (try rw [show idx Fn % 16 = idx Fn by omega])
    (try rw [show op % 64 = op by omega])
    (repeat' split) <;> omega
  · have n1 : ¬ op = 1 := by omega
    have n2 : ¬ op = 2 := by omega
    have n3 : ¬ op = 3 := by omega
    have n20 : ¬ op = 20 := by omega
    have n21 : ¬ op = 21 := by omega
    have n22 : ¬ op = 22 := by omega
    have n23 : ¬ op = 23 := by omega
    have n26 : ¬ op = 26 := by omega
    have n27 : ¬ op = 27 := by omega
    have s4 : ¬ op < 12 := by omega
    have s12 : ¬ op < 20 := by omega
    have r4 : 4 ≤ op := by omega
    have r12 : 12 ≤ op := by omega
    rcases ho with ho | ho
    · have m1 : ¬ op = 25 := by omega
      have hoT : (op = 24) = True := eq_true (by omega)
      simp only [n1, n2, n3, n20, n21, n22, n23, n26, n27, s4, s12, r4, r12, W.eq_d, W.ge_d, W.lt_d, W.pick_eq, decide_true, decide_false, cond_true, cond_false, br_t, br_f, hoT, m1, one_eq, bit_eq, index_eq, number_eq, fm_5_21, fm_5_16, fm_5_11, fm_1_10, fm_4_6, fm_2_19, fm_16_0, fm_11_0, fm_26_0, fm_1_11, fm_4_12, rs_26, rs_21, rs_16, rs_11, rs_19, rs_6, rs_12, rb_10, rb_11, mk_16, mk_11, mk_26, mk_5, mk_1, mk_4, mk_2]
      refine congrArg (fun z => k (z, (0 : Int))) (Eq.trans (orS 16 65536 (by decide) (orS 16 65536 (by decide) (orS 21 2097152 (by decide) (orS 26 67108864 (by decide) rfl (by omega)) (by omega)) (by omega)) (by omega)) ?_)
      simp only [encI]
      (try rw [show D % 32 = D by omega])
      (try rw [show A % 32 = A by omega])
      (try rw [show B % 32 = B by omega])
      (try rw [show Pt % 4 = Pt by omega])
      (try rw [show b1 Wd % 2 = b1 Wd by omega])
      (try rw [show Im % 65536 = Im by omega])
      (try rw [show Fn / 16 % 16 = Fn / 16 by omega])
      (try rw [show Im % 67108864 = Im by omega])
      (try rw [show idx Fn % 16 = idx Fn by omega])
      (try rw [show op % 64 = op by omega])
      (repeat' split) <;> omega
    · have m1 : ¬ op = 24 := by omega
      have hoT : (op = 25) = True := eq_true (by omega)
      simp only [n1, n2, n3, n20, n21, n22, n23, n26, n27, s4, s12, r4, r12, W.eq_d, W.ge_d, W.lt_d, W.pick_eq, decide_true, decide_false, cond_true, cond_false, br_t, br_f, hoT, m1, one_eq, bit_eq, index_eq, number_eq, fm_5_21, fm_5_16, fm_5_11, fm_1_10, fm_4_6, fm_2_19, fm_16_0, fm_11_0, fm_26_0, fm_1_11, fm_4_12, rs_26, rs_21, rs_16, rs_11, rs_19, rs_6, rs_12, rb_10, rb_11, mk_16, mk_11, mk_26, mk_5, mk_1, mk_4, mk_2]
      refine congrArg (fun z => k (z, (0 : Int))) (Eq.trans (orS 16 65536 (by decide) (orS 16 65536 (by decide) (orS 21 2097152 (by decide) (orS 26 67108864 (by decide) rfl (by omega)) (by omega)) (by omega)) (by omega)) ?_)
      simp only [encI]
      (try rw [show D % 32 = D by omega])
      (try rw [show A % 32 = A by omega])
      (try rw [show B % 32 = B by omega])
      (try rw [show Pt % 4 = Pt by omega])
      (try rw [show b1 Wd % 2 = b1 Wd by omega])
      (try rw [show Im % 65536 = Im by omega])
      (try rw [show Fn / 16 % 16 = Fn / 16 by omega])
      (try rw [show Im % 67108864 = Im by omega])
      (try rw [show idx Fn % 16 = idx Fn by omega])
      (try rw [show op % 64 = op by omega])
      (repeat' split) <;> omega
  · have n1 : ¬ op = 1 := by omega
    have n2 : ¬ op = 2 := by omega
    have n3 : ¬ op = 3 := by omega
    have n20 : ¬ op = 20 := by omega
    have n21 : ¬ op = 21 := by omega
    have n22 : ¬ op = 22 := by omega
    have n23 : ¬ op = 23 := by omega
    have n24 : ¬ op = 24 := by omega
    have n25 : ¬ op = 25 := by omega
    have s4 : ¬ op < 12 := by omega
    have s12 : ¬ op < 20 := by omega
    have r4 : 4 ≤ op := by omega
    have r12 : 12 ≤ op := by omega
    rcases ho with ho | ho
    · have m1 : ¬ op = 27 := by omega
      have hoT : (op = 26) = True := eq_true (by omega)
      simp only [n1, n2, n3, n20, n21, n22, n23, n24, n25, s4, s12, r4, r12, W.eq_d, W.ge_d, W.lt_d, W.pick_eq, decide_true, decide_false, cond_true, cond_false, br_t, br_f, hoT, m1, one_eq, bit_eq, index_eq, number_eq, fm_5_21, fm_5_16, fm_5_11, fm_1_10, fm_4_6, fm_2_19, fm_16_0, fm_11_0, fm_26_0, fm_1_11, fm_4_12, rs_26, rs_21, rs_16, rs_11, rs_19, rs_6, rs_12, rb_10, rb_11, mk_16, mk_11, mk_26, mk_5, mk_1, mk_4, mk_2]
      refine congrArg (fun z => k (z, (0 : Int))) (Eq.trans (orS 16 65536 (by decide) (orS 16 65536 (by decide) (orS 21 2097152 (by decide) (orS 26 67108864 (by decide) rfl (by omega)) (by omega)) (by omega)) (by omega)) ?_)
      simp only [encI]
      (try rw [show D % 32 = D by omega])
      (try rw [show A % 32 = A by omega])
      (try rw [show B % 32 = B by omega])
      (try rw [show Pt % 4 = Pt by omega])
      (try rw [show b1 Wd % 2 = b1 Wd by omega])
      (try rw [show Im % 65536 = Im by omega])
      (try rw [show Fn / 16 % 16 = Fn / 16 by omega])
      (try rw [show Im % 67108864 = Im by omega])
      (try rw [show idx Fn % 16 = idx Fn by omega])
      (try rw [show op % 64 = op by omega])
      (repeat' split) <;> omega
    · have m1 : ¬ op = 26 := by omega
      have hoT : (op = 27) = True := eq_true (by omega)
      simp only [n1, n2, n3, n20, n21, n22, n23, n24, n25, s4, s12, r4, r12, W.eq_d, W.ge_d, W.lt_d, W.pick_eq, decide_true, decide_false, cond_true, cond_false, br_t, br_f, hoT, m1, one_eq, bit_eq, index_eq, number_eq, fm_5_21, fm_5_16, fm_5_11, fm_1_10, fm_4_6, fm_2_19, fm_16_0, fm_11_0, fm_26_0, fm_1_11, fm_4_12, rs_26, rs_21, rs_16, rs_11, rs_19, rs_6, rs_12, rb_10, rb_11, mk_16, mk_11, mk_26, mk_5, mk_1, mk_4, mk_2]
      refine congrArg (fun z => k (z, (0 : Int))) (Eq.trans (orS 16 65536 (by decide) (orS 16 65536 (by decide) (orS 21 2097152 (by decide) (orS 26 67108864 (by decide) rfl (by omega)) (by omega)) (by omega)) (by omega)) ?_)
      simp only [encI]
      (try rw [show D % 32 = D by omega])
      (try rw [show A % 32 = A by omega])
      (try rw [show B % 32 = B by omega])
      (try rw [show Pt % 4 = Pt by omega])
      (try rw [show b1 Wd % 2 = b1 Wd by omega])
      (try rw [show Im % 65536 = Im by omega])
      (try rw [show Fn / 16 % 16 = Fn / 16 by omega])
      (try rw [show Im % 67108864 = Im by omega])
      (try rw [show idx Fn % 16 = idx Fn by omega])
      (try rw [show op % 64 = op by omega])
      (repeat' split) <;> omega
end Go.Proofs.YtiojpgompgmicaaDoor
