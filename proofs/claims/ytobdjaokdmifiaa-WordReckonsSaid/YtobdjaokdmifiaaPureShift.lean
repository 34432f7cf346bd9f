import Derived.Test.YtobdjaokdmifiaaPureRing
import Derived.Test.YtobdjaokdmifiaaPureAsks
set_option linter.unusedVariables false
set_option linter.unusedSimpArgs false
set_option maxHeartbeats 4000000
set_option maxRecDepth 100000
namespace Go.Proofs.Ytobdjaokdmifiaa
open Go Go.Eng
variable {R : Type}
def it (op y3 : Int) : Nat → Int → Int
  | 0, y => y
  | m + 1, y => it op y3 m (if op = 96 then (y * 2) % 18446744073709551616 else (W.or .u64 (W.quo y 2 % 18446744073709551616) y3) % 18446744073709551616)
theorem shift_loop {F : FT ps_clevisref01neg qs_clevisref01neg} {fl : Nat} {op y2 y3 : Int} {k : Int → Option R} : ∀ (m e : Nat) (y1 y4 : Int), 0 ≤ y4 → y2 = y4 + m → y2 ≤ 64 →
    P_clevisref01shift_7_0 F fl (e + m + 1) R op y1 y2 y3 y4 k = k (it op y3 m y1)
  | 0, e, y1, y4, h0, h, h2 => by
    rw [P_clevisref01shift_7_0_s]
    have : ¬ y4 < y2 := by omega
    simp only [br_ite, W.lt_t, this, if_false, it]
  | m + 1, e, y1, y4, h0, h, h2 => by
    rw [P_clevisref01shift_7_0_s]
    have h3 : y4 < y2 := by omega
    have h4 : W.wrap .i64 (W.add y4 1) = y4 + 1 := by unfold W.add; exact W.wi64_id (by omega) (by omega)
    rw [h4]
    simp only [br_ite, W.lt_t, h3, if_true, W.eq_t, it]
    have ih := fun y => shift_loop (F := F) (fl := fl) (op := op) (y2 := y2) (y3 := y3) (k := k) m e y (y4 + 1) (by omega) (by omega) h2
    rw [show e + (m + 1) = e + m + 1 from rfl, ih, ih]
    simp only [W.wu64, W.mul]
    split <;> rfl
def top (w : Bool) : Int := if w then 9223372036854775808 else 2147483648
theorem rshift_eq (x : PTs.D ps_clevisref01shift) (ha : p64 x.2.1) (hn : 0 ≤ x.2.2.1 ∧ x.2.2.1 ≤ 64) (k : Int → Option R) :
    F_clevisref01shift R x k = k (it x.1 (if ng x.2.1 x.2.2.2 = true ∧ x.1 = 192 then top x.2.2.2 else 0) x.2.2.1.toNat x.2.1) := by
  obtain ⟨(op : Int), (a : Int), (n : Int), (w : Bool)⟩ := x
  simp only at ha
  have hn : (0 : Int) ≤ n ∧ n ≤ 64 := hn
  simp only [F_clevisref01shift, N_clevisref01shift, neg_eq, ha]
  obtain ⟨e, he⟩ : ∃ e, W.big = e + n.toNat + 1 := ⟨W.big - n.toNat - 1, by unfold W.big; omega⟩
  have hl := fun y3 => shift_loop (F := F_clevisref01neg) (fl := W.big) (op := op) (y2 := n) (y3 := y3) (k := k) n.toNat e a 0 (by omega) (by omega) (by omega)
  rw [← he] at hl
  simp only [hl, br_ite, W.pickf_t, W.eq_t]
  cases w
  · simp only [Bool.false_eq_true, if_false, top]; split <;> rfl
  · simp only [if_true, top]; split <;> rfl
theorem or_pow {a : Int} {n : Nat} (hn : n < 64) (ha : 0 ≤ a) (h : a < 2 ^ n) : W.or .u64 a (2 ^ n) = a + 2 ^ n := by
  have h1 : (BitVec.ofInt 64 a).toNat = a.toNat := by
    have h2 := W.ofInt_nat a
    have : (2 : Int) ^ n < 2 ^ 64 := Int.pow_lt_pow_of_lt (by omega) hn
    have h3 : (2 : Int) ^ 64 = 18446744073709551616 := by decide
    omega
  have h2 : (BitVec.ofInt 64 (2 ^ n)).toNat = 2 ^ n := by
    have h2 := W.ofInt_nat (2 ^ n)
    have h4 : (2 : Int) ^ n < 2 ^ 64 := Int.pow_lt_pow_of_lt (by omega) hn
    have h3 : (2 : Int) ^ 64 = 18446744073709551616 := by decide
    have h5 : (0 : Int) ≤ 2 ^ n := Int.pow_nonneg (by omega)
    have h6 : ((2 ^ n : Nat) : Int) = (2 : Int) ^ n := by simp
    omega
  show (((BitVec.ofInt 64 a ||| BitVec.ofInt 64 (2 ^ n)).toNat : Nat) : Int) = _
  rw [BitVec.toNat_or, h1, h2]
  have h6 : ((2 ^ n : Nat) : Int) = (2 : Int) ^ n := by simp
  have h7 : a.toNat < 2 ^ n := by omega
  have h3 := Nat.two_pow_add_eq_or_of_lt h7 1
  rw [Nat.mul_one] at h3
  rw [Nat.or_comm, ← h3]
  omega
theorem or_zero {a : Int} (ha : p64 a) : W.or .u64 a 0 = a := by
  show (((BitVec.ofInt 64 a ||| BitVec.ofInt 64 0).toNat : Nat) : Int) = _
  have := W.ofInt_nat a
  unfold p64 at ha
  simp
  omega
theorem quo2 {y : Int} (h : 0 ≤ y) : W.quo y 2 = y / 2 := Int.tdiv_eq_ediv_of_nonneg h
theorem it_shl : ∀ (m : Nat) (y3 y : Int), p64 y → it 96 y3 m y = (y * 2 ^ m) % 18446744073709551616
  | 0, y3, y, h => by unfold p64 at h; simp [it]; omega
  | m + 1, y3, y, h => by
    simp only [it, if_true]
    rw [it_shl m y3 _ (by unfold p64; omega), Int.mul_emod, Int.emod_emod, ← Int.mul_emod, Int.pow_succ, Int.mul_assoc, Int.mul_comm 2]
theorem it_shr {op : Int} (ho : op ≠ 96) : ∀ (m : Nat) (y : Int), p64 y → it op 0 m y = y / 2 ^ m
  | 0, y, h => by simp [it]
  | m + 1, y, h => by
    have h' := h
    unfold p64 at h
    have h1 : (W.or .u64 (W.quo y 2 % 18446744073709551616) 0) % 18446744073709551616 = y / 2 := by
      rw [quo2 h.1, or_zero (by unfold p64; omega)]; omega
    simp only [it, if_neg ho, h1]
    rw [it_shr ho m _ (by unfold p64; omega), Int.ediv_ediv_of_nonneg (by omega), Int.pow_succ, Int.mul_comm]
theorem it_sar64 {op : Int} (ho : op ≠ 96) : ∀ (m : Nat) (y : Int), 9223372036854775808 ≤ y → y < 18446744073709551616 → it op 9223372036854775808 m y = (y - 18446744073709551616) / 2 ^ m + 18446744073709551616
  | 0, y, h, h' => by simp [it]
  | m + 1, y, h, h' => by
    have h1 : (W.or .u64 (W.quo y 2 % 18446744073709551616) 9223372036854775808) % 18446744073709551616 = y / 2 + 9223372036854775808 := by
      have hp : (2 : Int) ^ 63 = 9223372036854775808 := by decide
      have := or_pow (a := y / 2) (n := 63) (by omega) (by omega) (by omega)
      rw [hp] at this
      rw [quo2 (by omega), show y / 2 % 18446744073709551616 = y / 2 by omega, this]; omega
    simp only [it, if_neg ho, h1]
    rw [it_sar64 ho m _ (by omega) (by omega), show y / 2 + 9223372036854775808 - 18446744073709551616 = (y - 18446744073709551616) / 2 by omega, Int.ediv_ediv_of_nonneg (by omega), Int.pow_succ, Int.mul_comm (2 ^ m)]
theorem it_sar32 {op : Int} (ho : op ≠ 96) : ∀ (m : Nat) (y : Int), 2147483648 ≤ y → y < 4294967296 → it op 2147483648 m y = (y - 4294967296) / 2 ^ m + 4294967296
  | 0, y, h, h' => by simp [it]
  | m + 1, y, h, h' => by
    have h1 : (W.or .u64 (W.quo y 2 % 18446744073709551616) 2147483648) % 18446744073709551616 = y / 2 + 2147483648 := by
      have hp : (2 : Int) ^ 31 = 2147483648 := by decide
      have := or_pow (a := y / 2) (n := 31) (by omega) (by omega) (by omega)
      rw [hp] at this
      rw [quo2 (by omega), show y / 2 % 18446744073709551616 = y / 2 by omega, this]; omega
    simp only [it, if_neg ho, h1]
    rw [it_sar32 ho m _ (by omega) (by omega), show y / 2 + 2147483648 - 4294967296 = (y - 4294967296) / 2 by omega, Int.ediv_ediv_of_nonneg (by omega), Int.pow_succ, Int.mul_comm (2 ^ m)]
end Go.Proofs.Ytobdjaokdmifiaa
