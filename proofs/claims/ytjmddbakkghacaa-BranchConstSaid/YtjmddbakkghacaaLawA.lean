import Derived.Test.YtjmddbakkghacaaFns
import Derived.Test.YtjmddbakkghacaaMemPure
set_option linter.unusedVariables false
set_option linter.unusedSimpArgs false
set_option maxHeartbeats 4000000
set_option maxRecDepth 100000
namespace Go.Proofs.Ytjmddbakkghacaa
open Go Go.Eng
variable {R : Type}
theorem low_eq (x : PTs.D ps_word_low) (k : Int → Option R) : F_word_low R x k = k (low x.1 x.2) := by
  obtain ⟨(x0 : Int), (x1 : Bool)⟩ := x
  have h : x0 % 4294967296 % 18446744073709551616 = x0 % 4294967296 := by omega
  cases x1 <;> simp [F_word_low, N_word_low, br_t, br_f, low, W.wu64, W.wu32, h]
theorem cmpi_eq (x : PTs.D ps_word_compare_int64) (k : Int → Option R) : F_word_compare_int64 R x k = k (cmp x.1 x.2) := by
  obtain ⟨(a : Int), (b : Int)⟩ := x
  simp only [F_word_compare_int64, N_word_compare_int64, br_ite, W.lt_t, W.gt_t, cmp, apply_ite k]
theorem cmpu_eq (x : PTs.D ps_word_compare_uint64) (k : Int → Option R) : F_word_compare_uint64 R x k = k (cmp x.1 x.2) := by
  obtain ⟨(a : Int), (b : Int)⟩ := x
  simp only [F_word_compare_uint64, N_word_compare_uint64, br_ite, W.lt_t, W.gt_t, cmp, apply_ite k]
theorem order_eq (x : PTs.D ps_word_order) (k : Int → Option R) : F_word_order R x k = k (ord x.1 x.2.1 x.2.2.1 x.2.2.2) := by
  obtain ⟨(op : Int), (a : Int), (b : Int), (w : Bool)⟩ := x
  simp only [F_word_order, N_word_order, cmpi_eq, cmpu_eq, br_ite, W.eq_t, W.not_t, ord, sgn]
  by_cases h1 : op = 96
  · subst h1; cases w <;> simp
  by_cases h2 : op = 112
  · subst h2; cases w <;> simp
  by_cases h3 : op = 192
  · subst h3; cases w <;> simp
  by_cases h4 : op = 208
  · subst h4; cases w <;> simp
  simp [h1, h2, h3, h4]
theorem cond_eq (x : PTs.D ps_word_Cond) (k : Bool × Bool → Option R) : F_word_Cond R x k = k (cnd x.1 x.2.1 x.2.2.1 x.2.2.2) := by
  obtain ⟨(op : Int), (x : Int), (y : Int), (w : Bool)⟩ := x
  simp only [F_word_Cond, N_word_Cond, low_eq, order_eq, br_l, br_r, cnd]
  by_cases h1 : op = 16
  · subst h1; simp [br_ite, W.eq_t]
  by_cases h2 : op = 80
  · subst h2; simp [br_ite, W.eq_t]
  by_cases h3 : op = 64
  · subst h3; simp [br_ite, W.eq_t]
  by_cases h4 : op = 32
  · subst h4; simp [br_ite, W.eq_t]
  by_cases h5 : op = 96
  · subst h5; simp [br_ite, W.eq_t]
  by_cases h6 : op = 48
  · subst h6; simp [br_ite, W.eq_t]
  by_cases h7 : op = 112
  · subst h7; simp [br_ite, W.eq_t]
  by_cases h8 : op = 160
  · subst h8; simp [br_ite, W.eq_t]
  by_cases h9 : op = 192
  · subst h9; simp [br_ite, W.eq_t]
  by_cases h10 : op = 176
  · subst h10; simp [br_ite, W.eq_t]
  by_cases h11 : op = 208
  · subst h11; simp [br_ite, W.eq_t]
  simp [br_ite, W.eq_t, h1, h2, h3, h4, h5, h6, h7, h8, h9, h10, h11]
theorem neg_eq (x : PTs.D ps_clevisref01neg) (hx : p64 x.1) (k : Bool → Option R) : F_clevisref01neg R x k = k (ng x.1 x.2) := by
  obtain ⟨(x : Int), (w : Bool)⟩ := x
  unfold p64 at hx
  simp only [F_clevisref01neg, N_clevisref01neg, br_ite]
  have e1 := shr_u (x := x) (n := 63) (by omega)
  have e2 := shr_u (x := x) (n := 31) (by omega)
  simp only [show ((63 : Nat) : Int) = 63 from rfl, show ((31 : Nat) : Int) = 31 from rfl] at e1 e2
  rw [e1, e2, W.and_1, W.wu64]
  simp only at hx
  cases w
  · simp only [Bool.false_eq_true, if_false, ng, W.eq]
    congr 1
    have : (2 : Int) ^ 31 = 2147483648 := by decide
    rw [this]
    by_cases h : 2147483648 ≤ x % 4294967296
    · simp only [h, decide_true, beq_iff_eq]; omega
    · simp only [h, decide_false, beq_eq_false_iff_ne]; omega
  · simp only [if_true, ng, W.eq]
    congr 1
    have : (2 : Int) ^ 63 = 9223372036854775808 := by decide
    rw [this]
    by_cases h : 9223372036854775808 ≤ x
    · simp only [h, decide_true, beq_iff_eq]; omega
    · simp only [h, decide_false, beq_eq_false_iff_ne]; omega
theorem less_eq (x : PTs.D ps_clevisref01less) (ha : p64 x.1) (hb : p64 x.2.1) (k : Bool → Option R) : F_clevisref01less R x k = k (les x.1 x.2.1 x.2.2.1 x.2.2.2) := by
  obtain ⟨(a : Int), (b : Int), (s : Bool), (w : Bool)⟩ := x
  simp only [F_clevisref01less, N_clevisref01less, neg_eq, ha, hb, br_ite, W.pickf_t, W.not_t, les]
  cases s
  · simp [W.lt]
  · by_cases h : ng a w = ng b w
    · simp [h, W.eqB, W.lt]
    · simp [h, W.eqB]
theorem rcond_eq (x : PTs.D ps_clevisref01Cond) (hx : p64 x.2.1) (hy : p64 x.2.2.1) (k : Bool × Bool → Option R) : F_clevisref01Cond R x k = k (rcnd x.1 x.2.1 x.2.2.1 x.2.2.2) := by
  obtain ⟨(op : Int), (x : Int), (y : Int), (w : Bool)⟩ := x
  have hm : ∀ z : Int, W.wrap .u64 (W.and .u64 z 4294967295) = z % 4294967296 := by intro z; rw [W.and_32, W.wu64]; omega
  have hp : ∀ z : Int, p64 (z % 4294967296) := by intro z; unfold p64; omega
  cases w
  · simp only [F_clevisref01Cond, N_clevisref01Cond, hm, less_eq, hp, hx, hy, rcnd, low, W.not, Bool.not_false, br_t, br_f, Bool.false_eq_true, if_false]
    simp only [br_ite, W.eq_t, apply_ite k]
  · simp only [F_clevisref01Cond, N_clevisref01Cond, hm, less_eq, hp, hx, hy, rcnd, low, W.not, Bool.not_true, br_t, br_f, if_true]
    simp only [br_ite, W.eq_t, apply_ite k]
end Go.Proofs.Ytjmddbakkghacaa
