import Derived.Test.YtflkcceicgaipaaLawB
set_option linter.unusedVariables false
set_option linter.unusedSimpArgs false
set_option maxRecDepth 100000
namespace Go.Proofs.Ytflkcceicgaipaa
open Go Go.Eng

/-! ### how many bits a number has -/
noncomputable def blen (n : Nat) : Nat := if n = 0 then 0 else n.log2 + 1
theorem blen_iff {n k : Nat} (h : n ≠ 0) : blen n = k + 1 ↔ 2 ^ k ≤ n ∧ n < 2 ^ (k + 1) := by
  unfold blen; rw [if_neg h]
  rw [← Nat.log2_eq_iff h]; omega
theorem blen_lt (n : Nat) : n < 2 ^ blen n := by
  by_cases h : n = 0
  · subst h; decide
  · have := (blen_iff (k := n.log2) h).1 (by unfold blen; rw [if_neg h])
    unfold blen; rw [if_neg h]; exact this.2
theorem blen_le {n k : Nat} (h : n < 2 ^ k) : blen n ≤ k := by
  by_cases h0 : n = 0
  · subst h0; simp [blen]
  · unfold blen; rw [if_neg h0]
    have := (Nat.log2_lt h0).2 h
    omega
theorem blen_div {n k : Nat} (h : 2 ^ k ≤ n) : blen n = k + blen (n / 2 ^ k) := by
  have hp : 0 < 2 ^ k := Nat.two_pow_pos k
  have h0 : n ≠ 0 := by omega
  have h1 : n / 2 ^ k ≠ 0 := by
    have := (Nat.le_div_iff_mul_le hp (x := 1) (y := n)).2 (by omega)
    omega
  have h2 := (blen_iff (k := (n / 2 ^ k).log2) h1).1 (by unfold blen; rw [if_neg h1])
  have h3 : blen (n / 2 ^ k) = (n / 2 ^ k).log2 + 1 := by unfold blen; rw [if_neg h1]
  rw [h3, ← Nat.add_assoc]
  refine (blen_iff h0).2 ⟨?_, ?_⟩
  · rw [Nat.pow_add, Nat.mul_comm]; exact (Nat.le_div_iff_mul_le hp).1 h2.1
  · rw [Nat.add_assoc, Nat.pow_add, Nat.mul_comm]; exact (Nat.div_lt_iff_lt_mul hp).1 h2.2
theorem tab_len : ∀ i : Fin 256, W.byte lenTab i.val = (blen i.val : Int) := by decide +kernel
theorem wrap_small {k : IntKind} {n : Int} (h : wfI k n) : W.wrap k n = n := by
  simp only [wfI, Lit.wf, Bool.and_eq_true, decide_eq_true_eq] at h
  cases k <;> simp [W.wrap, IntKind.wrap, IntKind.min, IntKind.max, IntKind.signed, IntKind.bits] at h ⊢ <;> (try split) <;> omega
theorem leaf_eq {R : Type} {n y : Nat} (hn : n ≤ 56) (hy : y < 256) (k : Int → Option R) : leafK (n : Int) (y : Int) k = k ((n + blen y : Nat) : Int) := by
  have h1 : W.wrap .u8 (y : Int) = y := wrap_small (by simp [wfI, Lit.wf, IntKind.min, IntKind.max, IntKind.signed, IntKind.bits]; omega)
  have h2 : W.byte lenTab y = (blen y : Int) := tab_len ⟨y, hy⟩
  have h3 : blen y ≤ 8 := blen_le (by omega)
  have h4 : W.wrap .i64 (blen y : Int) = blen y := wrap_small (by simp [wfI, Lit.wf, IntKind.min, IntKind.max, IntKind.signed, IntKind.bits]; omega)
  have h5 : W.wrap .i64 ((n : Int) + (blen y : Int)) = (n : Int) + (blen y : Int) := wrap_small (by simp [wfI, Lit.wf, IntKind.min, IntKind.max, IntKind.signed, IntKind.bits]; omega)
  have h6 : W.toNat (y : Int) = y := rfl
  have h7 : W.le 0 (y : Int) = true := W.le_t.2 (by omega)
  have h8 : W.lt (y : Int) 256 = true := W.lt_t.2 (by omega)
  unfold leafK
  rw [h1, h6, h2, h4, h7, h8]
  simp only [W.and2, Bool.and_self, br, cond_true, W.add, h5]
  rw [Int.natCast_add]
theorem shr_nat (y : Nat) (n : Nat) (hn : n ≤ 64) : W.shr .u64 (y : Int) (n : Int) = ((y / 2 ^ n : Nat) : Int) := by
  simp only [W.shr, IntKind.bits, Int.toNat_natCast, Nat.min_eq_left hn]
  rw [Int.fdiv_eq_ediv_of_nonneg _ (by exact_mod_cast Nat.zero_le _)]
  norm_cast
theorem ge_nat {x n : Nat} : W.ge (x : Int) (n : Int) = decide (n ≤ x) := by
  simp only [W.ge, ge_iff_le]; exact decide_eq_decide.2 (by omega)
theorem Len64_eq {R : Type} {x : Nat} (hx : x < 2 ^ 64) (k : Int → Option R) : F_bits_Len64 R (x : Int) k = k ((blen x : Nat) : Int) := by
  have s32 : W.shr .u64 (x : Int) 32 = ((x / 2 ^ 32 : Nat) : Int) := shr_nat x 32 (by omega)
  have s16 : W.shr .u64 (x : Int) 16 = ((x / 2 ^ 16 : Nat) : Int) := shr_nat x 16 (by omega)
  have s8 : W.shr .u64 (x : Int) 8 = ((x / 2 ^ 8 : Nat) : Int) := shr_nat x 8 (by omega)
  have t16 : W.shr .u64 ((x / 2 ^ 32 : Nat) : Int) 16 = ((x / 2 ^ 32 / 2 ^ 16 : Nat) : Int) := shr_nat (x / 2 ^ 32) 16 (by omega)
  have t8 : W.shr .u64 ((x / 2 ^ 32 : Nat) : Int) 8 = ((x / 2 ^ 32 / 2 ^ 8 : Nat) : Int) := shr_nat (x / 2 ^ 32) 8 (by omega)
  have u8 : W.shr .u64 ((x / 2 ^ 32 / 2 ^ 16 : Nat) : Int) 8 = ((x / 2 ^ 32 / 2 ^ 16 / 2 ^ 8 : Nat) : Int) := shr_nat (x / 2 ^ 32 / 2 ^ 16) 8 (by omega)
  have v8 : W.shr .u64 ((x / 2 ^ 16 : Nat) : Int) 8 = ((x / 2 ^ 16 / 2 ^ 8 : Nat) : Int) := shr_nat (x / 2 ^ 16) 8 (by omega)
  have g (y n : Nat) : W.ge (y : Int) (n : Int) = decide (n ≤ y) := ge_nat
  have g1 (y : Nat) : W.ge (y : Int) 4294967296 = decide (4294967296 ≤ y) := g y 4294967296
  have g2 (y : Nat) : W.ge (y : Int) 65536 = decide (65536 ≤ y) := g y 65536
  have g3 (y : Nat) : W.ge (y : Int) 256 = decide (256 ≤ y) := g y 256
  unfold F_bits_Len64 N_bits_Len64
  simp only [s32, s16, s8, t16, t8, u8, v8, g1, g2, g3, br]
  by_cases c1 : 4294967296 ≤ x
  · rw [decide_eq_true c1, cond_true]
    have e1 := blen_div (n := x) (k := 32) (by omega)
    by_cases c2 : 65536 ≤ x / 2 ^ 32
    · rw [decide_eq_true c2, cond_true]
      have e2 := blen_div (n := x / 2 ^ 32) (k := 16) (by omega)
      by_cases c3 : 256 ≤ x / 2 ^ 32 / 2 ^ 16
      · rw [decide_eq_true c3, cond_true]
        have e3 := blen_div (n := x / 2 ^ 32 / 2 ^ 16) (k := 8) (by omega)
        exact (leaf_eq (n := 56) (by omega) (by omega) k).trans (congrArg k (by omega))
      · rw [decide_eq_false c3, cond_false]
        exact (leaf_eq (n := 48) (by omega) (by omega) k).trans (congrArg k (by omega))
    · rw [decide_eq_false c2, cond_false]
      by_cases c3 : 256 ≤ x / 2 ^ 32
      · rw [decide_eq_true c3, cond_true]
        have e3 := blen_div (n := x / 2 ^ 32) (k := 8) (by omega)
        exact (leaf_eq (n := 40) (by omega) (by omega) k).trans (congrArg k (by omega))
      · rw [decide_eq_false c3, cond_false]
        exact (leaf_eq (n := 32) (by omega) (by omega) k).trans (congrArg k (by omega))
  · rw [decide_eq_false c1, cond_false]
    by_cases c2 : 65536 ≤ x
    · rw [decide_eq_true c2, cond_true]
      have e2 := blen_div (n := x) (k := 16) (by omega)
      by_cases c3 : 256 ≤ x / 2 ^ 16
      · rw [decide_eq_true c3, cond_true]
        have e3 := blen_div (n := x / 2 ^ 16) (k := 8) (by omega)
        exact (leaf_eq (n := 24) (by omega) (by omega) k).trans (congrArg k (by omega))
      · rw [decide_eq_false c3, cond_false]
        exact (leaf_eq (n := 16) (by omega) (by omega) k).trans (congrArg k (by omega))
    · rw [decide_eq_false c2, cond_false]
      by_cases c3 : 256 ≤ x
      · rw [decide_eq_true c3, cond_true]
        have e3 := blen_div (n := x) (k := 8) (by omega)
        exact (leaf_eq (n := 8) (by omega) (by omega) k).trans (congrArg k (by omega))
      · rw [decide_eq_false c3, cond_false]
        exact (leaf_eq (n := 0) (by omega) (by omega) k).trans (congrArg k (by omega))

/-! ### the bits that a range leaves open -/
/-- The mask of the lowest n bits. -/
noncomputable def low (n : Nat) : BitVec 64 := BitVec.ofNat 64 (2 ^ n - 1)
theorem low_get {n i : Nat} (hi : i < 64) : (low n).getLsbD i = decide (i < n) := by
  unfold low
  rw [BitVec.getLsbD_ofNat, Nat.testBit_two_pow_sub_one, decide_eq_true hi, Bool.true_and]
/-- What a range keeps: the bits above the highest in which its ends differ. -/
noncomputable def rangeV (lo hi : BitVec 64) : BitVec 64 := low (blen (lo ^^^ hi).toNat)
theorem range_keeps {lo hi x : BitVec 64} (h1 : lo.toNat ≤ x.toNat) (h2 : x.toNat ≤ hi.toNat) : x &&& ~~~(rangeV lo hi) = lo &&& ~~~(rangeV lo hi) := by
  have hb := blen_lt (lo ^^^ hi).toNat
  unfold rangeV
  generalize blen (lo ^^^ hi).toNat = n at hb ⊢
  have hs : lo.toNat >>> n = hi.toNat >>> n := by
    have h3 : (lo ^^^ hi).toNat >>> n = 0 := by rw [Nat.shiftRight_eq_div_pow]; exact Nat.div_eq_of_lt hb
    rw [BitVec.toNat_xor, Nat.shiftRight_xor_distrib] at h3
    apply Nat.eq_of_testBit_eq; intro i
    have h4 := congrArg (fun m => m.testBit i) h3
    simp only [Nat.testBit_xor, Nat.zero_testBit] at h4
    revert h4
    cases (lo.toNat >>> n).testBit i <;> cases (hi.toNat >>> n).testBit i <;> simp
  have hx : x.toNat >>> n = lo.toNat >>> n := by
    apply Nat.le_antisymm
    · rw [hs]; simp only [Nat.shiftRight_eq_div_pow]; exact Nat.div_le_div_right h2
    · simp only [Nat.shiftRight_eq_div_pow]; exact Nat.div_le_div_right h1
  apply BitVec.eq_of_getLsbD_eq; intro i hi'
  rw [BitVec.getLsbD_and, BitVec.getLsbD_and, BitVec.getLsbD_not, low_get hi']
  by_cases hc : i < n
  · rw [decide_eq_true hc]; simp only [Bool.not_true, Bool.and_false]
  · have h4 : x.getLsbD i = lo.getLsbD i := by
      have h5 := congrArg (fun m => m.testBit (i - n)) hx
      simp only [Nat.testBit_shiftRight] at h5
      rw [show n + (i - n) = i by omega] at h5
      exact h5
    rw [h4]
end Go.Proofs.Ytflkcceicgaipaa
