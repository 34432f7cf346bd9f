import Derived.Test.YtbngpphpdabakaaFns
import Derived.Test.YtbngpphpdabakaaWordPure
import Derived.Test.YtbngpphpdabakaaEnwLoops
set_option linter.unusedVariables false
set_option linter.unusedSimpArgs false
set_option maxHeartbeats 4000000
set_option maxRecDepth 100000
namespace Go.Proofs.Ytbngpphpdabakaa
open Go Go.Eng
variable {R : Type}
theorem low_eq (x : PTs.D ps_word_low) (k : Int → Option R) : F_word_low R x k = k (low x.1 x.2) := by
  obtain ⟨(x0 : Int), (x1 : Bool)⟩ := x
  have h : x0 % 4294967296 % 18446744073709551616 = x0 % 4294967296 := by omega
  cases x1 <;> simp [F_word_low, N_word_low, br_t, br_f, low, W.wu64, W.wu32, h]
theorem shift_eq (x : PTs.D ps_word_shift) (hb : p64 x.2.2.1) (k : Int → Option R) : F_word_shift R x k = k (shf x.1 x.2.1 x.2.2.1 x.2.2.2) := by
  obtain ⟨(op : Int), (a : Int), (b : Int), (w : Bool)⟩ := x
  have h1 : W.wrap .u64 (b % 32) = b % 32 := by rw [W.wu64]; omega
  have h2 : W.wrap .u64 (b % 64) = b % 64 := by rw [W.wu64]; omega
  cases w <;> by_cases h96 : op = 96 <;> by_cases h112 : op = 112 <;> simp [F_word_shift, N_word_shift, br_ite, W.not_t, W.not, W.eq_t, h96, h112, shf, cnt, sar, W.and_31, W.and_63, h1, h2]
theorem plain_eq (x : PTs.D ps_word_plain) (k : Int × Bool → Option R) : F_word_plain R x k = k (
    if x.1 = 0 then (W.wrap .u64 (W.add x.2.1 x.2.2), true) else if x.1 = 16 then (W.wrap .u64 (W.sub x.2.1 x.2.2), true) else if x.1 = 32 then (W.wrap .u64 (W.mul x.2.1 x.2.2), true)
    else if x.1 = 64 then (W.wrap .u64 (W.or .u64 x.2.1 x.2.2), true) else if x.1 = 80 then (W.wrap .u64 (W.and .u64 x.2.1 x.2.2), true) else if x.1 = 160 then (W.wrap .u64 (W.xor .u64 x.2.1 x.2.2), true)
    else if x.1 = 128 then (W.wrap .u64 (W.sub 0 x.2.1), true) else if x.1 = 176 then (x.2.2, true) else (0, false)) := by
  obtain ⟨(op : Int), (a : Int), (b : Int)⟩ := x
  simp only [F_word_plain, N_word_plain, br_ite, W.eq_t, apply_ite k]
theorem alu_eq (x : PTs.D ps_word_Alu) (hx : p64 x.2.1) (hy : p64 x.2.2.1) (k : Int × Bool → Option R) : F_word_Alu R x k = k (alu x.1 x.2.1 x.2.2.1 x.2.2.2) := by
  obtain ⟨(op : Int), (a : Int), (b : Int), (w : Bool)⟩ := x
  have hb := low_p (w := w) hy
  simp only [F_word_Alu, N_word_Alu, low_eq, plain_eq, shift_eq, hb, alu, br_l, br_r]
  by_cases h48 : op = 48
  · subst h48; by_cases hz : low b w = 0 <;> simp [br_ite, W.eq_t, hz]
  by_cases h144 : op = 144
  · subst h144; by_cases hz : low b w = 0 <;> simp [br_ite, W.eq_t, hz]
  by_cases h96 : op = 96
  · subst h96; simp [br_ite, W.eq_t]
  by_cases h112 : op = 112
  · subst h112; simp [br_ite, W.eq_t]
  by_cases h192 : op = 192
  · subst h192; simp [br_ite, W.eq_t]
  simp only [br_ite, W.eq_t, h48, h144, h96, h112, h192, if_false, or_self]
  repeat' split
  all_goals rfl
theorem cmpi_eq (x : PTs.D ps_word_compare_int64) (k : Int → Option R) : F_word_compare_int64 R x k = k (cmp x.1 x.2) := by
  obtain ⟨(a : Int), (b : Int)⟩ := x
  simp only [F_word_compare_int64, N_word_compare_int64, br_ite, W.lt_t, W.gt_t, cmp, apply_ite k]
theorem cmpu_eq (x : PTs.D ps_word_compare_uint64) (k : Int → Option R) : F_word_compare_uint64 R x k = k (cmp x.1 x.2) := by
  obtain ⟨(a : Int), (b : Int)⟩ := x
  simp only [F_word_compare_uint64, N_word_compare_uint64, br_ite, W.lt_t, W.gt_t, cmp, apply_ite k]
theorem order_eq (x : PTs.D ps_word_order) (k : Int → Option R) : F_word_order R x k = k (ord x.1 x.2.1 x.2.2.1 x.2.2.2) := by
  obtain ⟨(op : Int), (a : Int), (b : Int), (w : Bool)⟩ := x
  simp only [F_word_order, N_word_order, cmpi_eq, cmpu_eq, br_ite, W.eq_t, W.not_t, ord, sgn]
  by_cases h1 : op = 96
  · subst h1; cases w <;> simp
  by_cases h2 : op = 112
  · subst h2; cases w <;> simp
  by_cases h3 : op = 192
  · subst h3; cases w <;> simp
  by_cases h4 : op = 208
  · subst h4; cases w <;> simp
  simp [h1, h2, h3, h4]
theorem cond_eq (x : PTs.D ps_word_Cond) (k : Bool × Bool → Option R) : F_word_Cond R x k = k (cnd x.1 x.2.1 x.2.2.1 x.2.2.2) := by
  obtain ⟨(op : Int), (x : Int), (y : Int), (w : Bool)⟩ := x
  simp only [F_word_Cond, N_word_Cond, low_eq, order_eq, br_l, br_r, cnd]
  by_cases h1 : op = 16
  · subst h1; simp [br_ite, W.eq_t]
  by_cases h2 : op = 80
  · subst h2; simp [br_ite, W.eq_t]
  by_cases h3 : op = 64
  · subst h3; simp [br_ite, W.eq_t]
  by_cases h4 : op = 32
  · subst h4; simp [br_ite, W.eq_t]
  by_cases h5 : op = 96
  · subst h5; simp [br_ite, W.eq_t]
  by_cases h6 : op = 48
  · subst h6; simp [br_ite, W.eq_t]
  by_cases h7 : op = 112
  · subst h7; simp [br_ite, W.eq_t]
  by_cases h8 : op = 160
  · subst h8; simp [br_ite, W.eq_t]
  by_cases h9 : op = 192
  · subst h9; simp [br_ite, W.eq_t]
  by_cases h10 : op = 176
  · subst h10; simp [br_ite, W.eq_t]
  by_cases h11 : op = 208
  · subst h11; simp [br_ite, W.eq_t]
  simp [br_ite, W.eq_t, h1, h2, h3, h4, h5, h6, h7, h8, h9, h10, h11]
theorem rsize_eq (n : Int) (k : Bool → Option R) : F_clevisref01Size R n k = k (sz n) := by
  simp only [F_clevisref01Size, N_clevisref01Size]
  congr 1
  rw [Bool.eq_iff_iff]
  simp only [W.picko_t, W.eq_t, sz, decide_eq_true_eq]
  omega
theorem rsign_eq (a : PTs.D ps_clevisref01Sign) (hx : p64 a.1) (k : Int → Option R) : F_clevisref01Sign R a k = k (sgnN a.1 a.2) := by
  obtain ⟨(x : Int), (n : Int)⟩ := a
  have hx : p64 x := hx
  simp only [F_clevisref01Sign, N_clevisref01Sign, rsize_eq, br_ite, W.picko_t, W.not_t, W.eq_t]
  by_cases h : sz n = false ∨ n = 8
  · rw [if_pos h]
    have : ¬ n = 1 ∧ ¬ n = 2 ∧ ¬ n = 4 := by simp [sz] at h; omega
    simp [sgnN, this]
  · rw [if_neg h]
    have hs : n = 1 ∨ n = 2 ∨ n = 4 := by simp [sz] at h; omega
    rw [shl1 hs]
    unfold p64 at hx
    have hr : ∀ m : Int, W.rem x m = x % m := fun m => Int.tmod_eq_emod_of_nonneg hx.1
    rcases hs with h | h | h <;> subst h <;> simp [hr, sgnN, W.quo, W.ge_t, W.wu64, W.wi8, W.wi16, W.wi32, W.sub]
    · by_cases hc : 128 ≤ x % 256
      · simp [hc]; congr 1; split <;> omega
      · simp [hc]; congr 1; split <;> omega
    · by_cases hc : 32768 ≤ x % 65536
      · simp [hc]; congr 1; split <;> omega
      · simp [hc]; congr 1; split <;> omega
    · by_cases hc : 2147483648 ≤ x % 4294967296
      · simp [hc]; congr 1; split <;> omega
      · simp [hc]; congr 1; split <;> omega
theorem rimm_eq (a : PTs.D ps_clevisref01Imm) (k : Int → Option R) : F_clevisref01Imm R a k = k (low (W.wrap .u64 (W.wrap .i32 a.1)) a.2) := by
  obtain ⟨(x : Int), (w : Bool)⟩ := a
  simp only [F_clevisref01Imm, N_clevisref01Imm, rsign_eq, wrap_p', br_ite]
  cases w
  · simp [low, W.and_32, W.wu64, W.wi32]; congr 1; split <;> omega
  · simp [low, sgnN, W.wu64, W.wi32]
end Go.Proofs.Ytbngpphpdabakaa
