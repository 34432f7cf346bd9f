import Derived.Test.YtomdfcjnmogcbaaLawC
set_option linter.unusedVariables false
set_option linter.unusedSimpArgs false
set_option maxHeartbeats 4000000
set_option maxRecDepth 100000
namespace Go.Proofs.Ytomdfcjnmogcbaa
open Go Go.Eng
variable {R : Type}
theorem or_ge {a b t : Nat} : a ||| b < 2 ^ t ↔ a < 2 ^ t ∧ b < 2 ^ t := by
  constructor
  · intro h
    exact ⟨Nat.lt_of_le_of_lt Nat.left_le_or h, Nat.lt_of_le_of_lt Nat.right_le_or h⟩
  · intro h; exact Nat.or_lt_two_pow h.1 h.2
theorem nat_half (z : Nat) (h : z < 2 ^ 64) : W.wrap .u64 (W.quo (z : Int) 2) = ((z / 2 : Nat) : Int) := by
  unfold W.quo
  rw [Int.tdiv_eq_ediv_of_nonneg (by omega), W.wu64_id (by omega) (by omega)]; omega
theorem nat_odd (z : Nat) : W.rem (z : Int) 2 = ((z % 2 : Nat) : Int) := by
  unfold W.rem; rw [Int.tmod_eq_emod_of_nonneg (by omega)]; omega
theorem half_step {a t : Nat} (ha : a < 2 ^ 64) : W.wrap .u64 (W.quo ((a / 2 ^ t : Nat) : Int) 2) = ((a / 2 ^ (t + 1) : Nat) : Int) := by
  rw [nat_half _ (Nat.lt_of_le_of_lt (Nat.div_le_self _ _) ha), Nat.div_div_eq_div_mul, ← Nat.pow_succ]
theorem odd_test {a : BitVec 64} {t : Nat} : W.eq (W.rem ((a.toNat / 2 ^ t : Nat) : Int) 2) 1 = a.getLsbD t := by
  rw [nat_odd]
  have : a.getLsbD t = a.toNat.testBit t := rfl
  rw [this, Nat.testBit_eq_decide_div_mod_eq, W.eq_d]
  apply decide_eq_decide.2
  generalize a.toNat / 2 ^ t % 2 = z
  omega
theorem twice {b : BitVec 64} {t : Nat} : W.wrap .u64 (W.mul (U (b <<< t)) 2) = U (b <<< (t + 1)) := by
  rw [W.wrap_u64, W.B64_mul, B64_U, BitVec.shiftLeft_add]
  congr 1
  have : B64 2 = BitVec.twoPow 64 1 := by decide
  rw [this]
  exact (BitVec.shiftLeft_eq_mul_twoPow _ 1).symm
theorem rmul_loop {fl : Nat} {y5 y6 : Int} (a am b bm : BitVec 64) {k : Int × Int → Option R} : ∀ (j e t : Nat), t + j = blen (a ||| am).toNat →
    P_clevisref07Mul_3_0 F_clevisref07Add fl (e + j + 1) R (U (a * b)) ((a.toNat / 2 ^ t : Nat) : Int) ((am.toNat / 2 ^ t : Nat) : Int) (U (b <<< t)) (U (bm <<< t)) y5 y6 (uT (mulQ a am b bm t)).1 (uT (mulQ a am b bm t)).2 k =
      k (uT (addV (a * b) 0#64 (mulQ a am b bm (blen (a ||| am).toNat)).1 (mulQ a am b bm (blen (a ||| am).toNat)).2))
  | 0, e, t, ht => by
    have : t = blen (a ||| am).toNat := by omega
    subst this
    have hl := blen_lt (a ||| am).toNat
    rw [BitVec.toNat_or] at hl
    obtain ⟨h1, h2⟩ := or_ge.1 hl
    rw [P_clevisref07Mul_3_0_s, br_neg]
    · simp only [rtAdd_eq, addI, uT, B64_U, B64_0]
    · rw [Bool.eq_false_iff]; intro h
      rw [W.picko_t, W.ne_t, W.ne_t, BitVec.toNat_or, Nat.div_eq_of_lt h1, Nat.div_eq_of_lt h2] at h
      omega
  | j + 1, e, t, ht => by
    have hge : ¬ (a ||| am).toNat < 2 ^ t := fun h => by have := blen_le h; omega
    rw [BitVec.toNat_or, or_ge] at hge
    have hcond : W.pick (W.ne ((a.toNat / 2 ^ t : Nat) : Int) 0) true (W.ne ((am.toNat / 2 ^ t : Nat) : Int) 0) = true := by
      rw [W.picko_t, W.ne_t, W.ne_t]
      false_or_by_contra
      rename_i hc
      simp only [not_or, ne_eq, Classical.not_not] at hc
      have q : ∀ z : Nat, ((z / 2 ^ t : Nat) : Int) = 0 → z < 2 ^ t := by
        intro z hz
        have : z / 2 ^ t = 0 := by omega
        rcases (Nat.div_eq_zero_iff).1 this with h | h
        · have := Nat.two_pow_pos t; omega
        · exact h
      exact hge ⟨q _ hc.1, q _ hc.2⟩
    have ih := rmul_loop (fl := fl) (y5 := y5) (y6 := y6) a am b bm (k := k) j e (t + 1) (by omega)
    have hs : mulQ a am b bm (t + 1) = mulStep a am b bm t (mulQ a am b bm t) := rfl
    rw [hs] at ih
    unfold mulStep at ih
    rw [P_clevisref07Mul_3_0_s, br_pos hcond, odd_test, odd_test, half_step a.isLt, half_step am.isLt, twice, twice]
    simp only [rtAdd_eq]
    cases h1 : a.getLsbD t with
    | true =>
      rw [br_t]
      rw [h1, if_pos rfl] at ih
      simp only [addI, uT, B64_U, B64_0] at ih ⊢
      exact ih
    | false =>
      rw [br_f]
      rw [h1, if_neg (by simp)] at ih
      cases h2 : am.getLsbD t with
      | true =>
        rw [br_t]
        rw [h2, if_pos rfl, BitVec.or_comm] at ih
        simp only [addI, uT, B64_U, B64_0, W.or_u64, W.wrap_u64] at ih ⊢
        exact ih
      | false =>
        rw [br_f]
        rw [h2, if_neg (by simp)] at ih
        exact ih
theorem rtMul_eq (x : PTs.D ps_clevisref07Mul) (h1 : p64 x.1.1) (h2 : p64 x.1.2) (h3 : p64 x.2.1) (h4 : p64 x.2.2) (k : PTs.D qs_clevisref07Mul → Option R) : F_clevisref07Mul R x k = k (mulI x.1.1 x.1.2 x.2.1 x.2.2) := by
  obtain ⟨⟨(v : Int), (m : Int)⟩, (v' : Int), (m' : Int)⟩ := x
  simp only [F_clevisref07Mul, N_clevisref07Mul]
  have hb : blen (B64 v ||| B64 m).toNat ≤ 64 := blen_le (B64 v ||| B64 m).isLt
  have := rmul_loop (R := R) (fl := W.big) (y5 := 0) (y6 := 0) (B64 v) (B64 m) (B64 v') (B64 m') (k := k) (blen (B64 v ||| B64 m).toNat) (W.big - blen (B64 v ||| B64 m).toNat - 1) 0 (by omega)
  rw [show W.big - blen (B64 v ||| B64 m).toNat - 1 + blen (B64 v ||| B64 m).toNat + 1 = W.big by unfold W.big; omega] at this
  have e1 : (((B64 v).toNat / 2 ^ 0 : Nat) : Int) = v := by rw [Nat.pow_zero, Nat.div_one]; exact U_B64 (wfI_q h1)
  have e2 : (((B64 m).toNat / 2 ^ 0 : Nat) : Int) = m := by rw [Nat.pow_zero, Nat.div_one]; exact U_B64 (wfI_q h2)
  have e3 : U (B64 v' <<< 0) = v' := by rw [BitVec.shiftLeft_zero]; exact U_B64 (wfI_q h3)
  have e4 : U (B64 m' <<< 0) = m' := by rw [BitVec.shiftLeft_zero]; exact U_B64 (wfI_q h4)
  rw [e1, e2, e3, e4] at this
  have e5 : W.wrap .u64 (W.mul v v') = U (B64 v * B64 v') := by rw [W.wrap_u64, W.B64_mul]
  rw [e5]
  refine this.trans ?_
  congr 1
  unfold mulI mulV
  have hs := mulQ_stop (b := B64 v') (bm := B64 m') (blen_lt (B64 v ||| B64 m).toNat) (64 - blen (B64 v ||| B64 m).toNat)
  rw [show blen (B64 v ||| B64 m).toNat + (64 - blen (B64 v ||| B64 m).toNat) = 64 by omega] at hs
  rw [hs]
/-! ### sums and differences with signs -/
noncomputable def fitP (z : Int) : Prop := -9223372036854775808 ≤ z ∧ z ≤ 9223372036854775807
theorem sgn_bit {x : Int} (h : -9223372036854775808 ≤ x ∧ x < 9223372036854775808) : (B64 x).msb = decide (x < 0) := by
  have h1 : (B64 x).toInt = x := by
    have := I_B64 (n := x) (by rw [wfI_iff]; simp [IntKind.min, IntKind.max, IntKind.signed, IntKind.bits]; omega)
    exact this
  rw [BitVec.msb_eq_toInt, h1]
theorem i64_and (a b : Int) : W.and .i64 a b = U (B64 a &&& B64 b) := rfl
theorem i64_xor (a b : Int) : W.xor .i64 a b = U (B64 a ^^^ B64 b) := rfl
theorem B64_wi (z : Int) : B64 (W.wrap .i64 z) = B64 z := by rw [W.wrap_i64, B64_I]
theorem neg_msb (v : BitVec 64) : W.lt (I v) 0 = v.msb := by
  rw [W.lt_d, BitVec.msb_eq_toInt]; rfl
open Classical in
theorem carries_eq (x y : Int) (hx : wfI .i64 x) (hy : wfI .i64 y) (k : Bool → Option R) : F_arith_carries R (x, y) k = k (decide (¬ fitP (x + y))) := by
  have hx := i64_lo hx
  have hy := i64_lo hy
  simp only [F_arith_carries, N_arith_carries]
  congr 1
  rw [i64_and, i64_xor, i64_xor, W.wrap_i64 (U _)]
  simp only [B64_wi, B64_U]
  rw [neg_msb, BitVec.msb_and, BitVec.msb_xor, BitVec.msb_xor, sgn_bit hx, sgn_bit hy]
  have hs := W.wi64 (x + y)
  have hs2 := sgn_bit (x := W.wrap .i64 (W.add x y)) (by rw [W.add_eq, hs]; split <;> omega)
  rw [B64_wi] at hs2
  rw [hs2, W.add_eq]
  unfold fitP
  by_cases h0 : (x + y) % 18446744073709551616 < 9223372036854775808
  · rw [if_pos h0] at hs
    rw [hs, Bool.eq_iff_iff]
    simp only [Bool.and_eq_true, bne_iff_ne, ne_eq, decide_eq_decide, decide_eq_true_eq]
    omega
  · rw [if_neg h0] at hs
    rw [hs, Bool.eq_iff_iff]
    simp only [Bool.and_eq_true, bne_iff_ne, ne_eq, decide_eq_decide, decide_eq_true_eq]
    omega
open Classical in
theorem borrows_eq (x y : Int) (hx : wfI .i64 x) (hy : wfI .i64 y) (k : Bool → Option R) : F_arith_borrows R (x, y) k = k (decide (¬ fitP (x - y))) := by
  have hx := i64_lo hx
  have hy := i64_lo hy
  simp only [F_arith_borrows, N_arith_borrows]
  congr 1
  rw [i64_and, i64_xor, i64_xor, W.wrap_i64 (U _)]
  simp only [B64_wi, B64_U]
  rw [neg_msb, BitVec.msb_and, BitVec.msb_xor, BitVec.msb_xor, sgn_bit hx, sgn_bit hy]
  have hs := W.wi64 (x - y)
  have hs2 := sgn_bit (x := W.wrap .i64 (W.sub x y)) (by rw [W.sub_eq, hs]; split <;> omega)
  rw [B64_wi] at hs2
  rw [hs2, W.sub_eq]
  unfold fitP
  by_cases h0 : (x - y) % 18446744073709551616 < 9223372036854775808
  · rw [if_pos h0] at hs
    rw [hs, Bool.eq_iff_iff]
    simp only [Bool.and_eq_true, bne_iff_ne, ne_eq, decide_eq_decide, decide_eq_true_eq]
    omega
  · rw [if_neg h0] at hs
    rw [hs, Bool.eq_iff_iff]
    simp only [Bool.and_eq_true, bne_iff_ne, ne_eq, decide_eq_decide, decide_eq_true_eq]
    omega
open Classical in
theorem fits_eq (x y : Int) (hx : wfI .i64 x) (hy : wfI .i64 y) (k : Bool → Option R) : F_clevisref09fits R (x, y) k = k (decide (fitP (x + y))) := by
  have hx := i64_lo hx
  have hy := i64_lo hy
  simp only [F_clevisref09fits, N_clevisref09fits]
  unfold fitP
  by_cases h : 0 ≤ y
  · rw [br_pos (W.ge_t.2 h), W.le_d, W.sub_eq, W.wi64_id (by omega) (by omega)]
    congr 1
    apply decide_eq_decide.2; omega
  · rw [br_neg (by rw [W.ge_d]; simpa using h), W.ge_d, W.sub_eq, W.wi64_id (by omega) (by omega)]
    congr 1
    apply decide_eq_decide.2; omega
open Classical in
theorem less9_eq (x y : Int) (hx : wfI .i64 x) (hy : wfI .i64 y) (k : Bool → Option R) : F_clevisref09less R (x, y) k = k (decide (fitP (x - y))) := by
  have hx := i64_lo hx
  have hy := i64_lo hy
  simp only [F_clevisref09less, N_clevisref09less]
  unfold fitP
  by_cases h : 0 ≤ y
  · rw [br_pos (W.ge_t.2 h), W.ge_d, W.add_eq, W.wi64_id (by omega) (by omega)]
    congr 1
    apply decide_eq_decide.2; omega
  · rw [br_neg (by rw [W.ge_d]; simpa using h), W.le_d, W.add_eq, W.wi64_id (by omega) (by omega)]
    congr 1
    apply decide_eq_decide.2; omega
end Go.Proofs.Ytomdfcjnmogcbaa
