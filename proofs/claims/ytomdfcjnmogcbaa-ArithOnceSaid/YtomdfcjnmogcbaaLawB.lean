import Derived.Test.YtomdfcjnmogcbaaLawA
set_option linter.unusedVariables false
set_option linter.unusedSimpArgs false
set_option maxHeartbeats 4000000
set_option maxRecDepth 100000
namespace Go.Proofs.Ytomdfcjnmogcbaa
open Go Go.Eng
variable {R : Type}

noncomputable def inP (b : Bd) (x : Int) : Prop := (b.1 ≤ x ∧ x ≤ b.2.1) ∧ (b.2.2.1 ≤ I (B64 x) ∧ I (B64 x) ≤ b.2.2.2.1) ∧ U (B64 x &&& ~~~(B64 b.2.2.2.2.2)) = b.2.2.2.2.1
noncomputable def chkP (b : Bd) : Prop := b.1 ≤ b.2.1 ∧ b.2.2.1 ≤ b.2.2.2.1 ∧ b.2.2.2.2.1 = U (B64 b.2.2.2.2.1 &&& ~~~(B64 b.2.2.2.2.2))
noncomputable def withinP (p q : Bd) : Prop :=
  (p.1 ≤ q.1 ∧ q.1 ≤ p.2.1) ∧ (p.1 ≤ q.2.1 ∧ q.2.1 ≤ p.2.1) ∧ (p.2.2.1 ≤ q.2.2.1 ∧ q.2.2.1 ≤ p.2.2.2.1) ∧ (p.2.2.1 ≤ q.2.2.2.1 ∧ q.2.2.2.1 ≤ p.2.2.2.1) ∧
    U (B64 q.2.2.2.2.2 ||| B64 p.2.2.2.2.2) = p.2.2.2.2.2 ∧ U (B64 q.2.2.2.2.1 &&& ~~~(B64 p.2.2.2.2.2)) = p.2.2.2.2.1
open Classical in
theorem Check_eq {R : Type} (x : PTs.D ps_bound_Check) (k : PTs.D qs_bound_Check → Option R) : F_bound_Check R x k = k (decide (chkP x)) := by
  obtain ⟨a, b, c, d, v, m⟩ := x
  simp only [F_bound_Check, N_bound_Check, F_tnum_Check, N_tnum_Check, F_tnum_tidy, N_tnum_tidy, br_k k, W.wrap_u64, W.wrap_i64, W.andNot_u64, B64_U, B64_I]
  exact congrArg k (dec_eq (by simp [W.pick, W.le, W.and2, W.eq, chkP] <;> grind))
theorem within_in {p q : Bd} {y : Int} (h : withinP p q) (h' : inP q y) : inP p y := by
  obtain ⟨h1, h2, h3, h4, h5, h6⟩ := h
  obtain ⟨h7, h8, h9⟩ := h'
  refine ⟨by omega, by omega, ?_⟩
  rw [← h6, ← h9, ← h5, B64_U, B64_U, U_inj]
  ext i hi
  simp
  cases (B64 q.2.2.2.2.2)[i] <;> simp
noncomputable def wfB (b : Bd) : Prop := wfI .u64 b.1 ∧ wfI .u64 b.2.1 ∧ wfI .i64 b.2.2.1 ∧ wfI .i64 b.2.2.2.1 ∧ wfI .u64 b.2.2.2.2.1 ∧ wfI .u64 b.2.2.2.2.2
theorem bitsB_eq (a b c d v m : Int) : bitsB (a, b, c, d, v, m) = (W.max a v, W.min b (U (B64 v ||| B64 m)), W.max c (I (B64 v ||| (B64 m &&& top))), W.min d (I (B64 v ||| (B64 m &&& ~~~top))), v, m) := by
  simp only [bitsB, W.wrap_u64, W.wrap_i64, W.or_u64, W.and_u64, W.andNot_u64, B64_U, B64_top]
theorem wf_bits {b : Bd} (h : wfB b) : wfB (bitsB b) := by
  obtain ⟨a, b, c, d, v, m⟩ := b
  obtain ⟨h1, h2, h3, h4, h5, h6⟩ := h
  rw [bitsB_eq]
  exact ⟨wf_max h1 h5, wf_min h2 (wf_U _), wf_max h3 (wf_I _), wf_min h4 (wf_I _), h5, h6⟩
/-- The bits' part loses no number, and lets none in. -/
theorem bits_in {b : Bd} {x : Int} (h : wfB b) (hx : wfI .u64 x) : inP (bitsB b) x ↔ inP b x := by
  obtain ⟨a, b, c, d, v, m⟩ := b
  rw [bitsB_eq]
  simp only [inP, W.max_le, W.le_min]
  constructor
  · rintro ⟨⟨⟨h1, h2⟩, h3, h4⟩, ⟨⟨h5, h6⟩, h7, h8⟩, h9⟩; exact ⟨⟨h1, h3⟩, ⟨h5, h7⟩, h9⟩
  · rintro ⟨⟨h1, h3⟩, ⟨h5, h7⟩, h9⟩
    have e : B64 v = B64 x &&& ~~~(B64 m) := by rw [← h9, B64_U]
    have hv : v = U (B64 x &&& ~~~(B64 m)) := h9.symm
    have k1 := bits_lo (B64 x) (B64 m)
    have k2 := bits_hi (B64 x) (B64 m)
    have k3 := bits_slo (B64 x) (B64 m)
    have k4 := bits_shi (B64 x) (B64 m)
    rw [U_B64 hx] at k1 k2
    rw [e]
    exact ⟨⟨⟨h1, by omega⟩, h3, by omega⟩, ⟨⟨h5, by omega⟩, h7, by omega⟩, h9⟩
noncomputable def signsB (b : Bd) : Bd :=
  if b.2.2.1 ≥ 0 ∨ b.2.2.2.1 < 0 then
    (W.max b.1 (U (B64 b.2.2.1)), W.min b.2.1 (U (B64 b.2.2.2.1)), I (B64 (W.max b.1 (U (B64 b.2.2.1)))), I (B64 (W.min b.2.1 (U (B64 b.2.2.2.1)))), b.2.2.2.2.1, b.2.2.2.2.2)
  else if I (B64 b.2.1) ≥ 0 then (b.1, U (B64 (W.min b.2.2.2.1 (I (B64 b.2.1)))), I (B64 b.1), W.min b.2.2.2.1 (I (B64 b.2.1)), b.2.2.2.2.1, b.2.2.2.2.2)
  else if I (B64 b.1) < 0 then (U (B64 (W.max b.2.2.1 (I (B64 b.1)))), b.2.1, W.max b.2.2.1 (I (B64 b.1)), I (B64 b.2.1), b.2.2.2.2.1, b.2.2.2.2.2)
  else b
theorem signsK_eq {R : Type} (b : Bd) (k : Bd → Option R) : signsK b k = k (signsB b) := by
  obtain ⟨a, b, c, d, v, m⟩ := b
  simp only [signsK, signsB, W.wrap_u64, W.wrap_i64, pick_o, W.ge, W.lt]
  by_cases h1 : c ≥ 0 ∨ d < 0
  · rw [if_pos h1]; simp only [← Bool.decide_or, h1, decide_true, br, cond_true]
  · rw [if_neg h1]; simp only [← Bool.decide_or, h1, decide_false, br, cond_false]
    by_cases h2 : I (B64 b) ≥ 0
    · rw [if_pos h2]; simp only [h2, decide_true, cond_true]
    · rw [if_neg h2]; simp only [h2, decide_false, cond_false]
      by_cases h3 : I (B64 a) < 0
      · rw [if_pos h3]; simp only [h3, decide_true, cond_true]
      · rw [if_neg h3]; simp only [h3, decide_false, cond_false]
theorem wf_signs {b : Bd} (h : wfB b) : wfB (signsB b) := by
  obtain ⟨a, b, c, d, v, m⟩ := b
  obtain ⟨h1, h2, h3, h4, h5, h6⟩ := h
  simp only [signsB]
  split
  · exact ⟨wf_max h1 (wf_U _), wf_min h2 (wf_U _), wf_I _, wf_I _, h5, h6⟩
  split
  · exact ⟨h1, wf_U _, wf_I _, wf_min h4 (wf_I _), h5, h6⟩
  split
  · exact ⟨wf_U _, h2, wf_max h3 (wf_I _), wf_I _, h5, h6⟩
  · exact ⟨h1, h2, h3, h4, h5, h6⟩
theorem signs_in {b : Bd} {x : Int} (h : wfB b) (hx : wfI .u64 x) (he : b.1 ≤ b.2.1 ∧ b.2.2.1 ≤ b.2.2.2.1) : inP (signsB b) x ↔ inP b x := by
  obtain ⟨a, b, c, d, v, m⟩ := b
  obtain ⟨h1, h2, h3, h4, h5, h6⟩ := h
  obtain ⟨he1, he2⟩ := he
  simp only at h1 h2 h3 h4 h5 h6 he1 he2
  have r1 := u64_lo h1; have r2 := u64_lo h2; have r3 := i64_lo h3; have r4 := i64_lo h4; have rx := u64_lo hx
  simp only [signsB]
  split
  · rename_i hc
    have w1 := wf_max h1 (wf_U (B64 c)); have w2 := wf_min h2 (wf_U (B64 d))
    simp only [inP, ← and_assoc]
    rw [I_of_u w1, I_of_u w2, I_of_u hx, U_of_i h3, U_of_i h4]
    apply and_congr_left; intro _
    simp only [W.max, W.min]
    grind
  split
  · rename_i hc hb
    have w1 := wf_min h4 (wf_I (B64 b))
    simp only [inP, ← and_assoc]
    rw [U_of_i w1]
    rw [I_of_u h2] at hb ⊢
    rw [I_of_u h1, I_of_u hx]
    apply and_congr_left; intro _
    simp only [W.max, W.min]
    grind
  split
  · rename_i hc hb ha
    have w1 := wf_max h3 (wf_I (B64 a))
    simp only [inP, ← and_assoc]
    rw [U_of_i w1]
    rw [I_of_u h1] at ha ⊢
    rw [I_of_u h2] at hb ⊢
    rw [I_of_u hx]
    apply and_congr_left; intro _
    simp only [W.max, W.min]
    grind
  · rfl

/-! ### how many bits a number has -/
noncomputable def blen (n : Nat) : Nat := if n = 0 then 0 else n.log2 + 1
theorem blen_iff {n k : Nat} (h : n ≠ 0) : blen n = k + 1 ↔ 2 ^ k ≤ n ∧ n < 2 ^ (k + 1) := by
  unfold blen; rw [if_neg h]
  rw [← Nat.log2_eq_iff h]; omega
theorem blen_lt (n : Nat) : n < 2 ^ blen n := by
  by_cases h : n = 0
  · subst h; decide
  · have := (blen_iff (k := n.log2) h).1 (by unfold blen; rw [if_neg h])
    unfold blen; rw [if_neg h]; exact this.2
theorem blen_le {n k : Nat} (h : n < 2 ^ k) : blen n ≤ k := by
  by_cases h0 : n = 0
  · subst h0; simp [blen]
  · unfold blen; rw [if_neg h0]
    have := (Nat.log2_lt h0).2 h
    omega
theorem blen_div {n k : Nat} (h : 2 ^ k ≤ n) : blen n = k + blen (n / 2 ^ k) := by
  have hp : 0 < 2 ^ k := Nat.two_pow_pos k
  have h0 : n ≠ 0 := by omega
  have h1 : n / 2 ^ k ≠ 0 := by
    have := (Nat.le_div_iff_mul_le hp (x := 1) (y := n)).2 (by omega)
    omega
  have h2 := (blen_iff (k := (n / 2 ^ k).log2) h1).1 (by unfold blen; rw [if_neg h1])
  have h3 : blen (n / 2 ^ k) = (n / 2 ^ k).log2 + 1 := by unfold blen; rw [if_neg h1]
  rw [h3, ← Nat.add_assoc]
  refine (blen_iff h0).2 ⟨?_, ?_⟩
  · rw [Nat.pow_add, Nat.mul_comm]; exact (Nat.le_div_iff_mul_le hp).1 h2.1
  · rw [Nat.add_assoc, Nat.pow_add, Nat.mul_comm]; exact (Nat.div_lt_iff_lt_mul hp).1 h2.2
theorem tab_len : ∀ i : Fin 256, W.byte lenTab i.val = (blen i.val : Int) := by decide +kernel
theorem wrap_small {k : IntKind} {n : Int} (h : wfI k n) : W.wrap k n = n := by
  simp only [wfI, Lit.wf, Bool.and_eq_true, decide_eq_true_eq] at h
  cases k <;> simp [W.wrap, IntKind.wrap, IntKind.min, IntKind.max, IntKind.signed, IntKind.bits] at h ⊢ <;> (try split) <;> omega
theorem leaf_eq {R : Type} {n y : Nat} (hn : n ≤ 56) (hy : y < 256) (k : Int → Option R) : leafK (n : Int) (y : Int) k = k ((n + blen y : Nat) : Int) := by
  have h1 : W.wrap .u8 (y : Int) = y := wrap_small (by simp [wfI, Lit.wf, IntKind.min, IntKind.max, IntKind.signed, IntKind.bits]; omega)
  have h2 : W.byte lenTab y = (blen y : Int) := tab_len ⟨y, hy⟩
  have h3 : blen y ≤ 8 := blen_le (by omega)
  have h4 : W.wrap .i64 (blen y : Int) = blen y := wrap_small (by simp [wfI, Lit.wf, IntKind.min, IntKind.max, IntKind.signed, IntKind.bits]; omega)
  have h5 : W.wrap .i64 ((n : Int) + (blen y : Int)) = (n : Int) + (blen y : Int) := wrap_small (by simp [wfI, Lit.wf, IntKind.min, IntKind.max, IntKind.signed, IntKind.bits]; omega)
  have h6 : W.toNat (y : Int) = y := rfl
  have h7 : W.le 0 (y : Int) = true := W.le_t.2 (by omega)
  have h8 : W.lt (y : Int) 256 = true := W.lt_t.2 (by omega)
  unfold leafK
  rw [h1, h6, h2, h4, h7, h8]
  simp only [W.and2, Bool.and_self, br, cond_true, W.add, h5]
  rw [Int.natCast_add]
theorem shr_nat (y : Nat) (n : Nat) (hn : n ≤ 64) : W.shr .u64 (y : Int) (n : Int) = ((y / 2 ^ n : Nat) : Int) := by
  simp only [W.shr, IntKind.bits, Int.toNat_natCast, Nat.min_eq_left hn]
  rw [Int.fdiv_eq_ediv_of_nonneg _ (by exact_mod_cast Nat.zero_le _)]
  norm_cast
theorem ge_nat {x n : Nat} : W.ge (x : Int) (n : Int) = decide (n ≤ x) := by
  simp only [W.ge, ge_iff_le]; exact decide_eq_decide.2 (by omega)
theorem Len64_eq {R : Type} {x : Nat} (hx : x < 2 ^ 64) (k : Int → Option R) : F_bits_Len64 R (x : Int) k = k ((blen x : Nat) : Int) := by
  have s32 : W.shr .u64 (x : Int) 32 = ((x / 2 ^ 32 : Nat) : Int) := shr_nat x 32 (by omega)
  have s16 : W.shr .u64 (x : Int) 16 = ((x / 2 ^ 16 : Nat) : Int) := shr_nat x 16 (by omega)
  have s8 : W.shr .u64 (x : Int) 8 = ((x / 2 ^ 8 : Nat) : Int) := shr_nat x 8 (by omega)
  have t16 : W.shr .u64 ((x / 2 ^ 32 : Nat) : Int) 16 = ((x / 2 ^ 32 / 2 ^ 16 : Nat) : Int) := shr_nat (x / 2 ^ 32) 16 (by omega)
  have t8 : W.shr .u64 ((x / 2 ^ 32 : Nat) : Int) 8 = ((x / 2 ^ 32 / 2 ^ 8 : Nat) : Int) := shr_nat (x / 2 ^ 32) 8 (by omega)
  have u8 : W.shr .u64 ((x / 2 ^ 32 / 2 ^ 16 : Nat) : Int) 8 = ((x / 2 ^ 32 / 2 ^ 16 / 2 ^ 8 : Nat) : Int) := shr_nat (x / 2 ^ 32 / 2 ^ 16) 8 (by omega)
  have v8 : W.shr .u64 ((x / 2 ^ 16 : Nat) : Int) 8 = ((x / 2 ^ 16 / 2 ^ 8 : Nat) : Int) := shr_nat (x / 2 ^ 16) 8 (by omega)
  have g (y n : Nat) : W.ge (y : Int) (n : Int) = decide (n ≤ y) := ge_nat
  have g1 (y : Nat) : W.ge (y : Int) 4294967296 = decide (4294967296 ≤ y) := g y 4294967296
  have g2 (y : Nat) : W.ge (y : Int) 65536 = decide (65536 ≤ y) := g y 65536
  have g3 (y : Nat) : W.ge (y : Int) 256 = decide (256 ≤ y) := g y 256
  unfold F_bits_Len64 N_bits_Len64
  simp only [s32, s16, s8, t16, t8, u8, v8, g1, g2, g3, br]
  by_cases c1 : 4294967296 ≤ x
  · rw [decide_eq_true c1, cond_true]
    have e1 := blen_div (n := x) (k := 32) (by omega)
    by_cases c2 : 65536 ≤ x / 2 ^ 32
    · rw [decide_eq_true c2, cond_true]
      have e2 := blen_div (n := x / 2 ^ 32) (k := 16) (by omega)
      by_cases c3 : 256 ≤ x / 2 ^ 32 / 2 ^ 16
      · rw [decide_eq_true c3, cond_true]
        have e3 := blen_div (n := x / 2 ^ 32 / 2 ^ 16) (k := 8) (by omega)
        exact (leaf_eq (n := 56) (by omega) (by omega) k).trans (congrArg k (by omega))
      · rw [decide_eq_false c3, cond_false]
        exact (leaf_eq (n := 48) (by omega) (by omega) k).trans (congrArg k (by omega))
    · rw [decide_eq_false c2, cond_false]
      by_cases c3 : 256 ≤ x / 2 ^ 32
      · rw [decide_eq_true c3, cond_true]
        have e3 := blen_div (n := x / 2 ^ 32) (k := 8) (by omega)
        exact (leaf_eq (n := 40) (by omega) (by omega) k).trans (congrArg k (by omega))
      · rw [decide_eq_false c3, cond_false]
        exact (leaf_eq (n := 32) (by omega) (by omega) k).trans (congrArg k (by omega))
  · rw [decide_eq_false c1, cond_false]
    by_cases c2 : 65536 ≤ x
    · rw [decide_eq_true c2, cond_true]
      have e2 := blen_div (n := x) (k := 16) (by omega)
      by_cases c3 : 256 ≤ x / 2 ^ 16
      · rw [decide_eq_true c3, cond_true]
        have e3 := blen_div (n := x / 2 ^ 16) (k := 8) (by omega)
        exact (leaf_eq (n := 24) (by omega) (by omega) k).trans (congrArg k (by omega))
      · rw [decide_eq_false c3, cond_false]
        exact (leaf_eq (n := 16) (by omega) (by omega) k).trans (congrArg k (by omega))
    · rw [decide_eq_false c2, cond_false]
      by_cases c3 : 256 ≤ x
      · rw [decide_eq_true c3, cond_true]
        have e3 := blen_div (n := x) (k := 8) (by omega)
        exact (leaf_eq (n := 8) (by omega) (by omega) k).trans (congrArg k (by omega))
      · rw [decide_eq_false c3, cond_false]
        exact (leaf_eq (n := 0) (by omega) (by omega) k).trans (congrArg k (by omega))

/-! ### the bits that a range leaves open -/
/-- The mask of the lowest n bits. -/
noncomputable def low (n : Nat) : BitVec 64 := BitVec.ofNat 64 (2 ^ n - 1)
theorem low_get {n i : Nat} (hi : i < 64) : (low n).getLsbD i = decide (i < n) := by
  unfold low
  rw [BitVec.getLsbD_ofNat, Nat.testBit_two_pow_sub_one, decide_eq_true hi, Bool.true_and]
/-- What a range keeps: the bits above the highest in which its ends differ. -/
noncomputable def rangeV (lo hi : BitVec 64) : BitVec 64 := low (blen (lo ^^^ hi).toNat)
theorem range_keeps {lo hi x : BitVec 64} (h1 : lo.toNat ≤ x.toNat) (h2 : x.toNat ≤ hi.toNat) : x &&& ~~~(rangeV lo hi) = lo &&& ~~~(rangeV lo hi) := by
  have hb := blen_lt (lo ^^^ hi).toNat
  unfold rangeV
  generalize blen (lo ^^^ hi).toNat = n at hb ⊢
  have hs : lo.toNat >>> n = hi.toNat >>> n := by
    have h3 : (lo ^^^ hi).toNat >>> n = 0 := by rw [Nat.shiftRight_eq_div_pow]; exact Nat.div_eq_of_lt hb
    rw [BitVec.toNat_xor, Nat.shiftRight_xor_distrib] at h3
    apply Nat.eq_of_testBit_eq; intro i
    have h4 := congrArg (fun m => m.testBit i) h3
    simp only [Nat.testBit_xor, Nat.zero_testBit] at h4
    revert h4
    cases (lo.toNat >>> n).testBit i <;> cases (hi.toNat >>> n).testBit i <;> simp
  have hx : x.toNat >>> n = lo.toNat >>> n := by
    apply Nat.le_antisymm
    · rw [hs]; simp only [Nat.shiftRight_eq_div_pow]; exact Nat.div_le_div_right h2
    · simp only [Nat.shiftRight_eq_div_pow]; exact Nat.div_le_div_right h1
  apply BitVec.eq_of_getLsbD_eq; intro i hi'
  rw [BitVec.getLsbD_and, BitVec.getLsbD_and, BitVec.getLsbD_not, low_get hi']
  by_cases hc : i < n
  · rw [decide_eq_true hc]; simp only [Bool.not_true, Bool.and_false]
  · have h4 : x.getLsbD i = lo.getLsbD i := by
      have h5 := congrArg (fun m => m.testBit (i - n)) hx
      simp only [Nat.testBit_shiftRight] at h5
      rw [show n + (i - n) = i by omega] at h5
      exact h5
    rw [h4]
theorem low_sub {n : Nat} (h : n < 64) : B64 (W.shl .u64 1 (n : Int)) - 1#64 = low n := by
  have h1 : W.shl .u64 1 (n : Int) = ((2 ^ n : Nat) : Int) := by
    simp only [W.shl, IntKind.bits, Int.toNat_natCast]
    rw [Nat.min_eq_left (by omega), Int.one_mul]; norm_cast
  have h2 : B64 ((2 ^ n : Nat) : Int) = BitVec.ofNat 64 (2 ^ n) := BitVec.ofInt_natCast ..
  rw [h1, h2]
  have h3 : 2 ^ n < 2 ^ 64 := Nat.pow_lt_pow_right (by omega) h
  have h4 : 0 < 2 ^ n := Nat.two_pow_pos n
  apply BitVec.eq_of_toNat_eq
  simp only [low, BitVec.toNat_sub, BitVec.toNat_ofNat]
  omega
theorem low_all : low 64 = BitVec.allOnes 64 := by decide
theorem Range_eq {R : Type} (x : PTs.D ps_tnum_Range) (k : PTs.D qs_tnum_Range → Option R) :
    F_tnum_Range R (x.1, x.2) k = k (if blen (B64 x.1 ^^^ B64 x.2).toNat = 64 then (0, 18446744073709551615) else (U (B64 x.1 &&& ~~~(rangeV (B64 x.1) (B64 x.2))), U (rangeV (B64 x.1) (B64 x.2)))) := by
  obtain ⟨a, b⟩ := x
  have hl := blen_le (B64 a ^^^ B64 b).isLt
  simp only [F_tnum_Range, N_tnum_Range, W.wrap_u64, W.xor_u64, B64_U]
  rw [show U (B64 a ^^^ B64 b) = (((B64 a ^^^ B64 b).toNat : Nat) : Int) from rfl, Len64_eq (B64 a ^^^ B64 b).isLt]
  by_cases h : blen (B64 a ^^^ B64 b).toNat = 64
  · rw [if_pos h, h]
    simp only [F_tnum_Any, N_tnum_Any, W.eq, br]
    rfl
  · rw [if_neg h]
    have h1 : W.eq ((blen (B64 a ^^^ B64 b).toNat : Nat) : Int) 64 = false := by simp only [W.eq, beq_eq_false_iff_ne, ne_eq]; omega
    have h2 : W.lt ((blen (B64 a ^^^ B64 b).toNat : Nat) : Int) 0 = false := by simp only [W.lt, decide_eq_false_iff_not]; omega
    simp only [h1, h2, br, cond_false, W.B64_sub, B64_U, show B64 1 = 1#64 from rfl, low_sub (show blen (B64 a ^^^ B64 b).toNat < 64 by omega), F_tnum_tidy, N_tnum_tidy, W.wrap_u64, W.andNot_u64]
    rfl
noncomputable def rangeT (a b : Int) : Int × Int := (U (B64 a &&& ~~~(rangeV (B64 a) (B64 b))), U (rangeV (B64 a) (B64 b)))
theorem Range_eq' {R : Type} (a b : Int) (k : PTs.D qs_tnum_Range → Option R) : F_tnum_Range R (a, b) k = k (rangeT a b) := by
  rw [Range_eq (a, b)]
  by_cases h : blen (B64 a ^^^ B64 b).toNat = 64
  · have : rangeV (B64 a) (B64 b) = BitVec.allOnes 64 := by unfold rangeV; rw [h]; exact low_all
    rw [if_pos h, rangeT, this]; simp [U]
  · rw [if_neg h]; rfl
noncomputable def meetT (v m v' m' : Int) : (Int × Int) × Bool :=
  ((U ((B64 v ||| B64 v') &&& ~~~(B64 m &&& B64 m')), U (B64 m &&& B64 m')), decide ((B64 v ^^^ B64 v') &&& ~~~(B64 m) &&& ~~~(B64 m') = 0#64))
theorem U_zero {z : BitVec 64} : W.eq (U z) 0 = decide (z = 0#64) := by
  have : U z = 0 ↔ z = 0#64 := ⟨fun h => by rw [← B64_U z, h]; rfl, fun h => by rw [h]; rfl⟩
  simp only [W.eq]
  rw [Bool.eq_iff_iff]; simp [this]
theorem Meet_eq {R : Type} (v m v' m' : Int) (k : PTs.D qs_tnum_Meet → Option R) : F_tnum_Meet R ((v, m), (v', m')) k = k (meetT v m v' m') := by
  simp only [F_tnum_Meet, N_tnum_Meet, F_tnum_tidy, N_tnum_tidy, W.wrap_u64, W.or_u64, W.and_u64, W.xor_u64, W.andNot_u64, B64_U, U_zero, meetT]
noncomputable def emptyB (b : Bd) : Bool := decide (¬(b.1 ≤ b.2.1 ∧ b.2.2.1 ≤ b.2.2.2.1))
theorem empty_eq {R : Type} (b : Bd) (k : Bool → Option R) : F_bound_empty R b k = k (emptyB b) := by
  obtain ⟨a, b, c, d, v, m⟩ := b
  simp only [F_bound_empty, N_bound_empty]
  exact congrArg k (dec_eq (by simp only [pick_o, W.gt]; simp; omega))
noncomputable def roundB (b : Bd) : Option Bd :=
  bif emptyB (bitsB b) then none else
  let d := signsB (bitsB b)
  let r := rangeT d.1 d.2.1
  let t := meetT d.2.2.2.2.1 d.2.2.2.2.2 r.1 r.2
  bif t.2 && !emptyB d then some (d.1, d.2.1, d.2.2.1, d.2.2.2.1, t.1.1, t.1.2) else none
noncomputable def opt {α β : Type} (o : Option α) (k0 : β) (k : α → β) : β := match o with
  | none => k0
  | some a => k a
theorem roundK_eq {R : Type} (b : Bd) (k0 : Option R) (k : Bd → Option R) : roundK F_bound_empty F_tnum_Meet F_tnum_Range b k0 k = opt (roundB b) k0 k := by
  unfold roundK roundB
  rw [empty_eq]
  cases h : emptyB (bitsB b)
  · simp only [br, cond_false, signsK_eq]
    rw [Range_eq', Meet_eq]
    cases h1 : (meetT (signsB (bitsB b)).2.2.2.2.1 (signsB (bitsB b)).2.2.2.2.2 (rangeT (signsB (bitsB b)).1 (signsB (bitsB b)).2.1).1 (rangeT (signsB (bitsB b)).1 (signsB (bitsB b)).2.1).2).2
    · rfl
    · simp only [W.not, Bool.not_true, Bool.not_false, cond_true, Bool.true_and]
      rw [empty_eq]
      cases emptyB (signsB (bitsB b)) <;> rfl
  · rfl
noncomputable def tidyB (b : Bd) : Option Bd := (roundB b).bind roundB
theorem Tidy_eq {R : Type} (b : PTs.D ps_bound_Tidy) (k : PTs.D qs_bound_Tidy → Option R) : F_bound_Tidy R b k = k (opt (tidyB b) ((0, 0, 0, 0, 0, 0), false) fun c => (c, true)) := by
  unfold F_bound_Tidy N_bound_Tidy tidyB
  rw [roundK_eq]
  cases h : roundB b with
  | none => rfl
  | some c =>
    simp only [opt, Option.bind_some]
    rw [roundK_eq]
    cases roundB c <;> rfl
noncomputable def chkT (b : Bd) : Prop := b.2.2.2.2.1 = U (B64 b.2.2.2.2.1 &&& ~~~(B64 b.2.2.2.2.2))
theorem signs_bits (b : Bd) : (signsB b).2.2.2.2 = b.2.2.2.2 := by
  unfold signsB; split; · rfl
  split; · rfl
  split <;> rfl
theorem meet_bits {x v m v' m' : BitVec 64} (h1 : v &&& m = 0#64) (h2 : v' &&& m' = 0#64) :
    (x &&& ~~~m = v ∧ x &&& ~~~m' = v') ↔ ((v ^^^ v') &&& ~~~m &&& ~~~m' = 0#64 ∧ x &&& ~~~(m &&& m') = (v ||| v') &&& ~~~(m &&& m')) := by
  have b {p q : BitVec 64} : p = q ↔ ∀ i, i < 64 → p.getLsbD i = q.getLsbD i := ⟨fun h i _ => by rw [h], fun h => BitVec.eq_of_getLsbD_eq h⟩
  constructor
  · rintro ⟨rfl, rfl⟩
    refine ⟨b.2 fun i hi => ?_, b.2 fun i hi => ?_⟩ <;>
      simp only [BitVec.getLsbD_and, BitVec.getLsbD_xor, BitVec.getLsbD_or, BitVec.getLsbD_not, BitVec.getLsbD_zero, decide_eq_true hi, Bool.true_and] <;>
      cases x.getLsbD i <;> cases m.getLsbD i <;> cases m'.getLsbD i <;> rfl
  · rintro ⟨h3, h4⟩
    rw [b] at h1 h2 h3 h4
    refine ⟨b.2 fun i hi => ?_, b.2 fun i hi => ?_⟩
    all_goals
      have g1 := h1 i hi; have g2 := h2 i hi; have g3 := h3 i hi; have g4 := h4 i hi
      simp only [BitVec.getLsbD_and, BitVec.getLsbD_xor, BitVec.getLsbD_or, BitVec.getLsbD_not, BitVec.getLsbD_zero, decide_eq_true hi, Bool.true_and] at g1 g2 g3 g4 ⊢
      revert g1 g2 g3 g4
      cases x.getLsbD i <;> cases m.getLsbD i <;> cases m'.getLsbD i <;> cases v.getLsbD i <;> cases v'.getLsbD i <;> simp
theorem chk_zero {v m : Int} (h : v = U (B64 v &&& ~~~(B64 m))) : B64 v &&& B64 m = 0#64 := by
  have h1 : B64 v = B64 v &&& ~~~(B64 m) := by conv => lhs; rw [h, B64_U]
  generalize B64 v = a at h1 ⊢
  generalize B64 m = b at h1 ⊢
  have e : ∀ i, i < 64 → (a &&& b).getLsbD i = (0#64).getLsbD i := by
    intro i hi
    have h2 := congrArg (fun z => z.getLsbD i) h1
    simp only [BitVec.getLsbD_and, BitVec.getLsbD_not, BitVec.getLsbD_zero, decide_eq_true hi, Bool.true_and] at h2 ⊢
    revert h2; cases a.getLsbD i <;> cases b.getLsbD i <;> simp
  exact BitVec.eq_of_getLsbD_eq e
theorem empty_f {b : Bd} : emptyB b = false ↔ (b.1 ≤ b.2.1 ∧ b.2.2.1 ≤ b.2.2.2.1) := by
  unfold emptyB; rw [decide_eq_false_iff_not, Classical.not_not]
theorem not_in_empty {b : Bd} {x : Int} (h : emptyB b = true) : ¬inP b x := by
  unfold emptyB at h; rw [decide_eq_true_iff] at h
  rintro ⟨⟨h1, h2⟩, ⟨h3, h4⟩, _⟩
  exact h ⟨by omega, by omega⟩
theorem in_range {a b x : Int} (ha : wfI .u64 a) (hb : wfI .u64 b) (hx : wfI .u64 x) (h1 : a ≤ x) (h2 : x ≤ b) :
    B64 x &&& ~~~(B64 (rangeT a b).2) = B64 (rangeT a b).1 := by
  simp only [rangeT, B64_U]
  have e1 : ((B64 a).toNat : Int) = a := U_B64 ha
  have e2 : ((B64 b).toNat : Int) = b := U_B64 hb
  have e3 : ((B64 x).toNat : Int) = x := U_B64 hx
  exact range_keeps (by omega) (by omega)
theorem range_chk (a b : Int) : B64 (rangeT a b).1 &&& B64 (rangeT a b).2 = 0#64 := by
  simp only [rangeT, B64_U]
  generalize rangeV (B64 a) (B64 b) = r
  generalize B64 a = p
  ext i hi; simp
theorem round_none {b : Bd} (hw : wfB b) (hc : chkT b) (h : roundB b = none) {x : Int} (hx : wfI .u64 x) : ¬inP b x := by
  intro hin
  have h1 := (bits_in hw hx).2 hin
  unfold roundB at h
  cases he : emptyB (bitsB b) with
  | true => exact not_in_empty he h1
  | false =>
    rw [he] at h
    simp only [cond_false] at h
    have h2 := (signs_in (wf_bits hw) hx (empty_f.1 he)).2 h1
    have hs := wf_signs (wf_bits hw)
    have hb : (signsB (bitsB b)).2.2.2.2 = b.2.2.2.2 := by rw [signs_bits]; rfl
    generalize signsB (bitsB b) = d at h h2 hs hb
    have he2 : emptyB d = false := by
      cases he2 : emptyB d with
      | false => rfl
      | true => exact absurd h2 (not_in_empty he2)
    obtain ⟨w1, w2, w3, w4, w5, w6⟩ := hs
    obtain ⟨⟨i1, i2⟩, i3, i4⟩ := h2
    have hr := in_range w1 w2 hx i1 i2
    have i5 : B64 x &&& ~~~(B64 d.2.2.2.2.2) = B64 d.2.2.2.2.1 := by rw [← i4, B64_U]
    have hcz : B64 d.2.2.2.2.1 &&& B64 d.2.2.2.2.2 = 0#64 := by rw [hb]; exact chk_zero hc
    have hm := (meet_bits hcz (range_chk d.1 d.2.1)).1 ⟨i5, hr⟩
    simp only [meetT, decide_eq_true hm.1, he2, Bool.not_false, Bool.and_self, cond_true] at h
    cases h
theorem round_some {b c : Bd} (hw : wfB b) (hc : chkT b) (h : roundB b = some c) : wfB c ∧ chkP c ∧ ∀ {x : Int}, wfI .u64 x → (inP c x ↔ inP b x) := by
  unfold roundB at h
  cases he : emptyB (bitsB b) with
  | true => rw [he] at h; cases h
  | false =>
    rw [he] at h
    simp only [cond_false] at h
    have h2 : ∀ {x : Int}, wfI .u64 x → (inP (signsB (bitsB b)) x ↔ inP b x) := fun hx => (signs_in (wf_bits hw) hx (empty_f.1 he)).trans (bits_in hw hx)
    have hs := wf_signs (wf_bits hw)
    have hb : (signsB (bitsB b)).2.2.2.2 = b.2.2.2.2 := by rw [signs_bits]; rfl
    generalize signsB (bitsB b) = d at h h2 hs hb
    cases he2 : emptyB d with
    | true => rw [he2] at h; simp at h
    | false =>
      rw [he2] at h
      obtain ⟨w1, w2, w3, w4, w5, w6⟩ := hs
      have hcz : B64 d.2.2.2.2.1 &&& B64 d.2.2.2.2.2 = 0#64 := by rw [hb]; exact chk_zero hc
      simp only [meetT, Bool.not_false, Bool.and_true] at h
      cases hd : decide ((B64 d.2.2.2.2.1 ^^^ B64 (rangeT d.1 d.2.1).1) &&& ~~~(B64 d.2.2.2.2.2) &&& ~~~(B64 (rangeT d.1 d.2.1).2) = 0#64) with
      | false => rw [hd] at h; cases h
      | true =>
        rw [hd] at h
        simp only [cond_true, Option.some.injEq] at h
        subst h
        have he3 := empty_f.1 he2
        refine ⟨⟨w1, w2, w3, w4, wf_U _, wf_U _⟩, ⟨he3.1, he3.2, ?_⟩, fun {x} hx => ?_⟩
        · simp only [B64_U]; rw [BitVec.and_assoc, BitVec.and_self]
        · rw [← h2 hx]
          simp only [inP, B64_U]
          constructor
          · rintro ⟨i1, i2, i3⟩
            rw [U_inj] at i3
            have hm := (meet_bits hcz (range_chk d.1 d.2.1)).2 ⟨of_decide_eq_true hd, i3⟩
            exact ⟨i1, i2, by rw [hm.1, U_B64 w5]⟩
          · rintro ⟨⟨i1, i2⟩, i3, i4⟩
            have hr := in_range w1 w2 hx i1 i2
            have i5 : B64 x &&& ~~~(B64 d.2.2.2.2.2) = B64 d.2.2.2.2.1 := by rw [← i4, B64_U]
            have hm := (meet_bits hcz (range_chk d.1 d.2.1)).1 ⟨i5, hr⟩
            exact ⟨⟨i1, i2⟩, i3, by rw [hm.2]⟩
theorem tidy_none {b : Bd} (hw : wfB b) (hc : chkT b) (h : tidyB b = none) {x : Int} (hx : wfI .u64 x) : ¬inP b x := by
  unfold tidyB at h
  cases h1 : roundB b with
  | none => exact round_none hw hc h1 hx
  | some c =>
    rw [h1] at h
    obtain ⟨h2, h3, h4⟩ := round_some hw hc h1
    rw [← h4 hx]
    exact round_none h2 h3.2.2 h hx
theorem tidy_some {b c : Bd} (hw : wfB b) (hc : chkT b) (h : tidyB b = some c) : wfB c ∧ chkP c ∧ ∀ {x : Int}, wfI .u64 x → (inP c x ↔ inP b x) := by
  unfold tidyB at h
  cases h1 : roundB b with
  | none => rw [h1] at h; cases h
  | some e =>
    rw [h1] at h
    obtain ⟨h2, h3, h4⟩ := round_some hw hc h1
    obtain ⟨h5, h6, h7⟩ := round_some h2 h3.2.2 h
    exact ⟨h5, h6, fun hx => (h7 hx).trans (h4 hx)⟩
theorem wfB_of {x : Bd} (h : WfP (.agg (.prod (.int .u64) (.prod (.int .u64) (.prod (.int .i64) (.prod (.int .i64) (.prod (.int .u64) (.int .u64))))))) x) : wfB x := h

/-! ### what is in both, what is in one -/
noncomputable def narrowB (p q : Bd) (t : Int × Int) : Bd := (W.max p.1 q.1, W.min p.2.1 q.2.1, W.max p.2.2.1 q.2.2.1, W.min p.2.2.2.1 q.2.2.2.1, t.1, t.2)
noncomputable def meetB (p q : Bd) : Option Bd :=
  let t := meetT p.2.2.2.2.1 p.2.2.2.2.2 q.2.2.2.2.1 q.2.2.2.2.2
  bif t.2 then tidyB (narrowB p q t.1) else none
noncomputable def joinB (p q : Bd) : Bd :=
  (W.min p.1 q.1, W.max p.2.1 q.2.1, W.min p.2.2.1 q.2.2.1, W.max p.2.2.2.1 q.2.2.2.1,
    U ((B64 p.2.2.2.2.1 &&& B64 q.2.2.2.2.1) &&& ~~~((B64 p.2.2.2.2.2 ||| B64 q.2.2.2.2.2) ||| (B64 p.2.2.2.2.1 ^^^ B64 q.2.2.2.2.1))),
    U ((B64 p.2.2.2.2.2 ||| B64 q.2.2.2.2.2) ||| (B64 p.2.2.2.2.1 ^^^ B64 q.2.2.2.2.1)))
theorem meet_wf {p q : Bd} (hp : wfB p) (hq : wfB q) : wfB (narrowB p q (meetT p.2.2.2.2.1 p.2.2.2.2.2 q.2.2.2.2.1 q.2.2.2.2.2).1) := by
  obtain ⟨h1, h2, h3, h4, h5, h6⟩ := hp
  obtain ⟨g1, g2, g3, g4, g5, g6⟩ := hq
  exact ⟨wf_max h1 g1, wf_min h2 g2, wf_max h3 g3, wf_min h4 g4, wf_U _, wf_U _⟩
theorem meet_chk (p q : Bd) : chkT (narrowB p q (meetT p.2.2.2.2.1 p.2.2.2.2.2 q.2.2.2.2.1 q.2.2.2.2.2).1) := by
  simp only [chkT, narrowB, meetT, B64_U]; rw [BitVec.and_assoc, BitVec.and_self]
theorem meet_in {p q : Bd} (hp : wfB p) (hq : wfB q) (cp : chkT p) (cq : chkT q) {x : Int} (hx : wfI .u64 x) :
    (inP p x ∧ inP q x) ↔ ((meetT p.2.2.2.2.1 p.2.2.2.2.2 q.2.2.2.2.1 q.2.2.2.2.2).2 = true ∧ inP (narrowB p q (meetT p.2.2.2.2.1 p.2.2.2.2.2 q.2.2.2.2.1 q.2.2.2.2.2).1) x) := by
  obtain ⟨w1, w2, w3, w4, w5, w6⟩ := hp
  obtain ⟨u1, u2, u3, u4, u5, u6⟩ := hq
  have hm := @meet_bits (B64 x) (B64 p.2.2.2.2.1) (B64 p.2.2.2.2.2) (B64 q.2.2.2.2.1) (B64 q.2.2.2.2.2) (chk_zero cp) (chk_zero cq)
  have e1 : U (B64 x &&& ~~~(B64 p.2.2.2.2.2)) = p.2.2.2.2.1 ↔ B64 x &&& ~~~(B64 p.2.2.2.2.2) = B64 p.2.2.2.2.1 := ⟨fun h => by rw [← h, B64_U], fun h => by rw [h, U_B64 w5]⟩
  have e2 : U (B64 x &&& ~~~(B64 q.2.2.2.2.2)) = q.2.2.2.2.1 ↔ B64 x &&& ~~~(B64 q.2.2.2.2.2) = B64 q.2.2.2.2.1 := ⟨fun h => by rw [← h, B64_U], fun h => by rw [h, U_B64 u5]⟩
  simp only [inP, narrowB, meetT, B64_U, U_inj, e1, e2, W.max_le, W.le_min, decide_eq_true_iff]
  grind
theorem meetB_none {p q : Bd} (hp : wfB p) (hq : wfB q) (cp : chkT p) (cq : chkT q) (h : meetB p q = none) {x : Int} (hx : wfI .u64 x) : ¬(inP p x ∧ inP q x) := by
  rw [meet_in hp hq cp cq hx]
  rintro ⟨h1, h2⟩
  simp only [meetB, h1, cond_true] at h
  exact tidy_none (meet_wf hp hq) (meet_chk p q) h hx h2
theorem meetB_some {p q c : Bd} (hp : wfB p) (hq : wfB q) (cp : chkT p) (cq : chkT q) (h : meetB p q = some c) {x : Int} (hx : wfI .u64 x) : inP c x ↔ (inP p x ∧ inP q x) := by
  rw [meet_in hp hq cp cq hx]
  unfold meetB at h
  cases h1 : (meetT p.2.2.2.2.1 p.2.2.2.2.2 q.2.2.2.2.1 q.2.2.2.2.2).2 with
  | false => simp [h1] at h
  | true =>
    simp only [h1, cond_true] at h
    rw [(tidy_some (meet_wf hp hq) (meet_chk p q) h).2.2 hx]
    simp
theorem join_l {p q : Bd} {x : Int} (h : inP p x) : inP (joinB p q) x := by
  obtain ⟨⟨h1, h2⟩, ⟨h3, h4⟩, h5⟩ := h
  refine ⟨?_, ?_, ?_⟩
  · simp only [joinB, W.min, W.max]; split <;> split <;> omega
  · simp only [joinB, W.min, W.max]; split <;> split <;> omega
  · simp only [joinB, B64_U]; rw [U_inj, ← h5, B64_U]
    generalize B64 x = a; generalize B64 p.2.2.2.2.2 = m; generalize B64 q.2.2.2.2.2 = n; generalize B64 q.2.2.2.2.1 = v
    ext i hi
    simp only [BitVec.getElem_xor, BitVec.getElem_or, BitVec.getElem_and, BitVec.getElem_not]
    cases a[i] <;> cases m[i] <;> cases n[i] <;> cases v[i] <;> rfl
theorem join_r {p q : Bd} {x : Int} (h : inP q x) : inP (joinB p q) x := by
  obtain ⟨⟨h1, h2⟩, ⟨h3, h4⟩, h5⟩ := h
  refine ⟨?_, ?_, ?_⟩
  · simp only [joinB, W.min, W.max]; split <;> split <;> omega
  · simp only [joinB, W.min, W.max]; split <;> split <;> omega
  · simp only [joinB, B64_U]; rw [U_inj, ← h5, B64_U]
    generalize B64 x = a; generalize B64 p.2.2.2.2.2 = m; generalize B64 q.2.2.2.2.2 = n; generalize B64 p.2.2.2.2.1 = v
    ext i hi
    simp only [BitVec.getElem_xor, BitVec.getElem_or, BitVec.getElem_and, BitVec.getElem_not]
    cases a[i] <;> cases m[i] <;> cases n[i] <;> cases v[i] <;> rfl
theorem join_wl {p q : Bd} (hp : chkP p) (hq : chkP q) : withinP (joinB p q) p := by
  obtain ⟨h1, h2, h3⟩ := hp
  obtain ⟨g1, g2, g3⟩ := hq
  refine ⟨?_, ?_, ?_, ?_, ?_, ?_⟩
  · simp only [joinB, W.min, W.max]; split <;> split <;> omega
  · simp only [joinB, W.min, W.max]; split <;> split <;> omega
  · simp only [joinB, W.min, W.max]; split <;> split <;> omega
  · simp only [joinB, W.min, W.max]; split <;> split <;> omega
  · simp only [joinB, B64_U]; rw [U_inj]
    generalize B64 p.2.2.2.2.1 = a; generalize B64 p.2.2.2.2.2 = m; generalize B64 q.2.2.2.2.2 = n; generalize B64 q.2.2.2.2.1 = v
    ext i hi
    simp only [BitVec.getElem_xor, BitVec.getElem_or, BitVec.getElem_and, BitVec.getElem_not]
    cases a[i] <;> cases m[i] <;> cases n[i] <;> cases v[i] <;> rfl
  · simp only [joinB, B64_U]; rw [U_inj]
    generalize B64 p.2.2.2.2.1 = a; generalize B64 p.2.2.2.2.2 = m; generalize B64 q.2.2.2.2.2 = n; generalize B64 q.2.2.2.2.1 = v
    ext i hi
    simp only [BitVec.getElem_xor, BitVec.getElem_or, BitVec.getElem_and, BitVec.getElem_not]
    cases a[i] <;> cases m[i] <;> cases n[i] <;> cases v[i] <;> rfl
theorem join_wr {p q : Bd} (hp : chkP p) (hq : chkP q) : withinP (joinB p q) q := by
  obtain ⟨h1, h2, h3⟩ := hp
  obtain ⟨g1, g2, g3⟩ := hq
  refine ⟨?_, ?_, ?_, ?_, ?_, ?_⟩
  · simp only [joinB, W.min, W.max]; split <;> split <;> omega
  · simp only [joinB, W.min, W.max]; split <;> split <;> omega
  · simp only [joinB, W.min, W.max]; split <;> split <;> omega
  · simp only [joinB, W.min, W.max]; split <;> split <;> omega
  · simp only [joinB, B64_U]; rw [U_inj]
    generalize B64 p.2.2.2.2.1 = a; generalize B64 p.2.2.2.2.2 = m; generalize B64 q.2.2.2.2.2 = n; generalize B64 q.2.2.2.2.1 = v
    ext i hi
    simp only [BitVec.getElem_xor, BitVec.getElem_or, BitVec.getElem_and, BitVec.getElem_not]
    cases a[i] <;> cases m[i] <;> cases n[i] <;> cases v[i] <;> rfl
  · simp only [joinB, B64_U]; rw [U_inj]
    generalize B64 p.2.2.2.2.1 = a; generalize B64 p.2.2.2.2.2 = m; generalize B64 q.2.2.2.2.2 = n; generalize B64 q.2.2.2.2.1 = v
    ext i hi
    simp only [BitVec.getElem_xor, BitVec.getElem_or, BitVec.getElem_and, BitVec.getElem_not]
    cases a[i] <;> cases m[i] <;> cases n[i] <;> cases v[i] <;> rfl
abbrev M32 : BitVec 64 := 4294967295#64
theorem u32_bits (z : Int) : W.wrap .u32 z = U (B64 z &&& M32) := by
  have h1 : W.wrap .u32 z = z % 4294967296 := by simp [W.wrap, IntKind.wrap, IntKind.bits, IntKind.signed]
  have h2 : (B64 z &&& M32).toNat = (B64 z).toNat % 4294967296 := by
    rw [BitVec.toNat_and]
    exact Nat.and_two_pow_sub_one_eq_mod _ 32
  have h3 : ((B64 z).toNat : Int) = z % 18446744073709551616 := by
    simp only [B64, BitVec.toNat_ofInt]; omega
  rw [h1]; simp only [U]; rw [h2]; omega
noncomputable def wholeB : Bd := (0, 4294967295, 0, 4294967295, 0, 4294967295)
theorem Size4 {R : Type} (k : PTs.D qs_bound_Size → Option R) : F_bound_Size R (4 : Int) k = k wholeB := Eq.trans (by rfl) (Eq.refl _)
noncomputable def cutB' (b : Bd) : Bd := (0, 4294967295, 0, 4294967295, U (B64 b.2.2.2.2.1 &&& M32), U (B64 b.2.2.2.2.2 &&& M32))
noncomputable def lowC (p q : Int) (o : Option Bd) : Bd :=
  match o with
  | none => wholeB
  | some x => if p = 0 ∧ q = 4294967295 then wholeB else x
noncomputable def lowP (v : Int) : Int := U (B64 v &&& M32)
noncomputable def lowB (b : Bd) : Bd := if b.2.1 ≤ 4294967295 then b else lowC (lowP b.2.2.2.2.1) (lowP b.2.2.2.2.2) (tidyB (cutB' b))
theorem low_small {b : Bd} (h : b.2.1 ≤ 4294967295) : lowB b = b := if_pos h
theorem low_big {b : Bd} (h : ¬ b.2.1 ≤ 4294967295) : lowB b = lowC (lowP b.2.2.2.2.1) (lowP b.2.2.2.2.2) (tidyB (cutB' b)) := if_neg h
theorem lowC_cases (p q : Int) (o : Option Bd) : lowC p q o = wholeB ∨ ∃ x, o = some x ∧ lowC p q o = x := by
  cases o with
  | none => exact .inl rfl
  | some x =>
    simp only [lowC]
    split
    · exact .inl rfl
    · exact .inr ⟨x, rfl, rfl⟩
theorem whole_max : wholeB.2.1 = 4294967295 := by simp only [wholeB]
theorem low_tail {R : Type} (k : Bd → Option R) (o : Option Bd) (p q : Int) (x : Bd × Bool) (hx : x = opt o ((0, 0, 0, 0, 0, 0), false) fun c => (c, true)) :
    (br (W.pick x.2 (W.not (W.and2 true (W.and2 true (W.and2 true (W.and2 true (W.and2 (W.eq p 0) (W.and2 (W.eq q 4294967295) true))))))) false)
      (k (x.1.1, x.1.2.1, x.1.2.2.1, x.1.2.2.2.1, x.1.2.2.2.2.1, x.1.2.2.2.2.2)) (k wholeB)) = k (lowC p q o) := by
  cases o with
  | none => subst hx; rfl
  | some y =>
    have hy : x = (y, true) := hx
    subst hy
    simp only [lowC]
    by_cases hz : p = 0 ∧ q = 4294967295
    · rw [if_pos hz, W.eq_t.2 hz.1, W.eq_t.2 hz.2]; rfl
    · rw [if_neg hz]
      cases h1 : W.eq p 0 with
      | false => rfl
      | true =>
        cases h2 : W.eq q 4294967295 with
        | false => rfl
        | true => exact absurd ⟨W.eq_t.1 h1, W.eq_t.1 h2⟩ hz
theorem Low_s {R : Type} (a b c d v m : Int) (k : Bd → Option R) (h : b ≤ 4294967295) : F_bound_Low R (a, b, c, d, v, m) k = k (a, b, c, d, v, m) := by
  simp only [F_bound_Low, N_bound_Low, Size4, F_tnum_Low, N_tnum_Low, W.wrap_u64, u32_bits, B64_U, Tidy_eq, whole_max]
  have : W.le b 4294967295 = true := W.le_t.2 h
  rw [this]; rfl
theorem lowP_eq (v : Int) : U (B64 v &&& M32) = lowP v := by simp only [lowP]
theorem lowP_id (v : Int) : U (B64 (lowP v)) = lowP v := by simp only [lowP, B64_U]
theorem cut_eq (a b c d v m : Int) : (wholeB.1, 4294967295, wholeB.2.2.1, wholeB.2.2.2.1, lowP v, lowP m) = cutB' (a, b, c, d, v, m) := by simp only [wholeB, cutB', lowP]
theorem whole_v : wholeB.2.2.2.2.1 = 0 := by simp only [wholeB]
theorem whole_m : wholeB.2.2.2.2.2 = 4294967295 := by simp only [wholeB]
theorem whole_eta : (wholeB.1, 4294967295, wholeB.2.2.1, wholeB.2.2.2.1, 0, 4294967295) = wholeB := by simp only [wholeB]
theorem Low_b {R : Type} (a b c d v m : Int) (k : Bd → Option R) (h : W.le b 4294967295 = false) : F_bound_Low R (a, b, c, d, v, m) k = k (lowC (lowP v) (lowP m) (tidyB (cutB' (a, b, c, d, v, m)))) := by
  have e3 : ∀ z : Int, W.eq z z = true := fun z => W.eq_t.2 rfl
  simp only [F_bound_Low, N_bound_Low, Size4, F_tnum_Low, N_tnum_Low, W.wrap_u64, u32_bits, B64_U, lowP_eq, lowP_id, Tidy_eq, whole_max, h, br_f, e3, cut_eq a b c d v m, whole_v, whole_m, whole_eta]
  generalize hx : (opt (tidyB (cutB' (a, b, c, d, v, m))) ((0, 0, 0, 0, 0, 0), false) fun c => (c, true)) = x
  exact low_tail k _ _ _ x hx.symm
theorem Low_eq {R : Type} (x : Bd) (k : Bd → Option R) : F_bound_Low R x k = k (lowB x) := by
  obtain ⟨a, b, c, d, v, m⟩ := x
  cases h : W.le b 4294967295 with
  | true => rw [Low_s a b c d v m k (W.le_t.1 h), low_small (W.le_t.1 h)]
  | false => rw [Low_b a b c d v m k h, low_big (fun e => by rw [W.le_t.2 e] at h; cases h)]
theorem signs_umax {b : Bd} (h : wfB b) (he : b.1 ≤ b.2.1 ∧ b.2.2.1 ≤ b.2.2.2.1) : (signsB b).2.1 ≤ b.2.1 := by
  obtain ⟨a, b, c, d, v, m⟩ := b
  obtain ⟨h1, h2, h3, h4, h5, h6⟩ := h
  simp only [signsB]
  have r2 := u64_lo h2; have r4 := i64_lo h4
  split
  · simp only [W.min]; split <;> omega
  split
  · rename_i hc hb
    have w1 := wf_min h4 (wf_I (B64 b))
    simp only [U_of_i w1]
    simp only [W.min]
    rw [I_of_u h2] at hb ⊢
    simp only at *
    grind
  split
  · exact Int.le_refl _
  · exact Int.le_refl _
theorem round_umax {b c : Bd} (hw : wfB b) (h : roundB b = some c) : c.2.1 ≤ b.2.1 := by
  unfold roundB at h
  cases he : emptyB (bitsB b) with
  | true => rw [he] at h; cases h
  | false =>
    rw [he] at h
    simp only [cond_false] at h
    have h1 := signs_umax (wf_bits hw) (empty_f.1 he)
    have h2 : (bitsB b).2.1 ≤ b.2.1 := by
      simp only [bitsB, W.min]; split <;> omega
    generalize signsB (bitsB b) = d at h h1
    cases hb : ((meetT d.2.2.2.2.1 d.2.2.2.2.2 (rangeT d.1 d.2.1).1 (rangeT d.1 d.2.1).2).2 && !emptyB d) with
    | false => rw [hb] at h; cases h
    | true =>
      rw [hb] at h
      simp only [cond_true, Option.some.injEq] at h
      subst h
      exact Int.le_trans h1 h2
theorem tidy_umax {b c : Bd} (hw : wfB b) (hc : chkT b) (h : tidyB b = some c) : c.2.1 ≤ b.2.1 := by
  unfold tidyB at h
  cases h1 : roundB b with
  | none => rw [h1] at h; cases h
  | some e =>
    rw [h1] at h
    exact Int.le_trans (round_umax (round_some hw hc h1).1 h) (round_umax hw h1)
theorem low_in {b : Bd} (hw : wfB b) (hc : chkP b) {x : Int} (hx : wfI .u64 x) (h : inP b x) : inP (lowB b) (U (B64 x &&& M32)) ∧ (lowB b).2.1 ≤ 4294967295 := by
  have hm : U (B64 x &&& M32) = x % 4294967296 := by
    rw [← u32_bits]; simp [W.wrap, IntKind.wrap, IntKind.bits, IntKind.signed]
  by_cases h1 : b.2.1 ≤ 4294967295
  · rw [low_small h1]
    have : x % 4294967296 = x := by
      obtain ⟨⟨h2, h3⟩, _⟩ := h
      have := u64_lo hx; omega
    rw [hm, this]; exact ⟨h, h1⟩
  · rw [low_big h1]
    have hy : wfI .u64 (U (B64 x &&& M32)) := wf_U _
    have hI : I (B64 x &&& M32) = U (B64 x &&& M32) := by rw [I_eq, if_pos (by rw [hm]; omega)]
    have hr : 0 ≤ U (B64 x &&& M32) ∧ U (B64 x &&& M32) ≤ 4294967295 := by rw [hm]; omega
    have hwhole : inP wholeB (U (B64 x &&& M32)) := by
      refine ⟨hr, ?_, ?_⟩
      · simp only [B64_U, wholeB]; rw [hI]; exact hr
      · simp only [B64_U, wholeB]
        have : B64 x &&& M32 &&& ~~~(B64 4294967295) = 0#64 := by
          show B64 x &&& M32 &&& ~~~M32 = 0#64
          rw [BitVec.and_assoc]; simp
        rw [this]; rfl
    generalize hcut : cutB' b = c
    have w1 : wfB c := by
      subst hcut
      unfold cutB'
      exact ⟨by rfl, by rfl, by rfl, by rfl, wf_U _, wf_U _⟩
    have c1 : chkT c := by
      subst hcut
      unfold cutB'
      simp only [chkT, B64_U]
      rw [U_inj]
      have := chk_zero hc.2.2
      generalize B64 b.2.2.2.2.1 = p at this ⊢
      generalize B64 b.2.2.2.2.2 = q at this ⊢
      apply BitVec.eq_of_getLsbD_eq; intro i hi
      have h2 := congrArg (fun z => z.getLsbD i) this
      simp only [BitVec.getLsbD_and, BitVec.getLsbD_not, BitVec.getLsbD_zero, decide_eq_true hi, Bool.true_and] at h2 ⊢
      revert h2; cases p.getLsbD i <;> cases q.getLsbD i <;> cases M32.getLsbD i <;> simp
    have i1 : inP c (U (B64 x &&& M32)) := by
      subst hcut
      unfold cutB'
      refine ⟨hr, ?_, ?_⟩
      · simp only [B64_U]; rw [hI]; exact hr
      · simp only [B64_U]; rw [U_inj]
        have h5 := h.2.2
        rw [← h5, B64_U]
        generalize B64 x = p
        generalize B64 b.2.2.2.2.2 = q
        apply BitVec.eq_of_getLsbD_eq; intro i hi
        simp only [BitVec.getLsbD_and, BitVec.getLsbD_not, decide_eq_true hi, Bool.true_and]
        cases p.getLsbD i <;> cases q.getLsbD i <;> cases M32.getLsbD i <;> rfl
    have hmax : c.2.1 = 4294967295 := by subst hcut; rfl
    rcases lowC_cases (lowP b.2.2.2.2.1) (lowP b.2.2.2.2.2) (tidyB c) with e | ⟨y, e1, e2⟩
    · rw [e]; exact ⟨hwhole, Int.le_of_eq whole_max⟩
    · rw [e2]
      refine ⟨((tidy_some w1 c1 e1).2.2 hy).2 i1, ?_⟩
      have := tidy_umax w1 c1 e1
      rw [hmax] at this
      exact this
noncomputable def constB (x : Int) : Bd := (x, x, I (B64 x), I (B64 x), x, 0)
noncomputable def anyB : Bd := (0, 18446744073709551615, -9223372036854775808, 9223372036854775807, 0, 18446744073709551615)
theorem Const_eq {R : Type} (x : PTs.D ps_bound_Const) (k : PTs.D qs_bound_Const → Option R) : F_bound_Const R x k = k (constB x) := by
  simp only [F_bound_Const, N_bound_Const, F_tnum_Const, N_tnum_Const, W.wrap_i64, constB]
theorem Any_eq {R : Type} (x : PTs.D ps_bound_Any) (k : PTs.D qs_bound_Any → Option R) : F_bound_Any R x k = k anyB := by
  simp only [F_bound_Any, N_bound_Any, F_tnum_Any, N_tnum_Any, anyB]
theorem Value_eq {R : Type} (x : PTs.D ps_bound_Value) (k : PTs.D qs_bound_Value → Option R) : F_bound_Value R x k = k (if x.1 = x.2.1 then (x.1, true) else (0, false)) := by
  obtain ⟨(a : Int), (b : Int), (c : Int), (d : Int), (v : Int), (m : Int)⟩ := x
  simp only [F_bound_Value, N_bound_Value, br_ite, W.eq_t, apply_ite k]
theorem not0 : ~~~(0#64) = BitVec.allOnes 64 := by decide
theorem and_n0 (v : BitVec 64) : v &&& ~~~(0#64) = v := by rw [not0, BitVec.and_allOnes]
theorem range_one {x : Int} (hx : wfI .u64 x) : rangeT x x = (x, 0) := by
  have h : rangeV (B64 x) (B64 x) = 0#64 := by
    unfold rangeV; rw [BitVec.xor_self]; rfl
  unfold rangeT
  rw [h]
  rw [and_n0, U_B64 hx]; rfl
theorem B64_0 : B64 0 = 0#64 := by decide
theorem I_lo' (x : Int) : -9223372036854775808 ≤ I (B64 x) ∧ I (B64 x) < 9223372036854775808 := I_lo _
theorem wmax_self (a : Int) : W.max a a = a := by unfold W.max; split <;> rfl
theorem wmin_self (a : Int) : W.min a a = a := by unfold W.min; split <;> rfl
theorem bits_const {x : Int} (hx : wfI .u64 x) : bitsB (constB x) = constB x := by
  simp only [constB]
  rw [bitsB_eq, B64_0]
  have h1 : B64 x ||| 0#64 = B64 x := by simp
  have h2 : (0#64 : BitVec 64) &&& top = 0#64 := by simp
  have h3 : (0#64 : BitVec 64) &&& ~~~top = 0#64 := by simp
  rw [h2, h3, h1, U_B64 hx, wmax_self, wmin_self, wmax_self, wmin_self]
theorem U_I (x : Int) (hx : wfI .u64 x) : U (B64 (I (B64 x))) = x := by rw [B64_I, U_B64 hx]
theorem signs_const {x : Int} (hx : wfI .u64 x) : signsB (constB x) = constB x := by
  simp only [signsB, constB, U_I x hx, wmax_self, wmin_self]
  repeat' split
  all_goals rfl
theorem empty_const (x : Int) : emptyB (constB x) = false := by simp [emptyB, constB]
theorem meet_one {x v m : Int} (h : meetT v m x 0 = ((x, 0), true)) : True := trivial
theorem round_of {b d : Bd} {x : Int} (hx : wfI .u64 x) (h1 : emptyB (bitsB b) = false) (h2 : signsB (bitsB b) = d) (h3 : d.1 = x) (h4 : d.2.1 = x) (h5 : meetT d.2.2.2.2.1 d.2.2.2.2.2 x 0 = ((x, 0), true)) (h6 : emptyB d = false) (h7 : d.2.2.1 = I (B64 x)) (h8 : d.2.2.2.1 = I (B64 x)) : roundB b = some (constB x) := by
  unfold roundB
  rw [h1, h2]
  simp only [cond_false, h3, h4, range_one hx, h5, h6, h7, h8, Bool.not_false, Bool.and_self, cond_true, constB]
theorem round_const {x : Int} (hx : wfI .u64 x) : roundB (constB x) = some (constB x) := by
  refine round_of hx (by rw [bits_const hx]; exact empty_const x) (by rw [bits_const hx]; exact signs_const hx) rfl rfl ?_ (empty_const x) rfl rfl
  simp only [constB, meetT, B64_0, BitVec.or_self, BitVec.and_self, BitVec.xor_self, and_n0, U_B64 hx, decide_true]
  rfl
theorem tidy_const {x : Int} (hx : wfI .u64 x) : tidyB (constB x) = some (constB x) := by
  unfold tidyB; rw [round_const hx]; exact round_const hx
theorem all_1 : B64 18446744073709551615 = BitVec.allOnes 64 := by decide
noncomputable def oneB (x : Int) : Bd := (x, x, -9223372036854775808, 9223372036854775807, 0, 18446744073709551615)
theorem bits_one {x : Int} (hx : wfI .u64 x) : bitsB (oneB x) = oneB x := by
  simp only [oneB]
  rw [bitsB_eq, B64_0, all_1]
  have h1 : U (0#64 ||| BitVec.allOnes 64) = 18446744073709551615 := by decide
  have h2 : I (0#64 ||| BitVec.allOnes 64 &&& top) = -9223372036854775808 := by decide
  have h3 : I (0#64 ||| BitVec.allOnes 64 &&& ~~~top) = 9223372036854775807 := by decide
  rw [h1, h2, h3, wmax_self, wmin_self]
  have := u64_lo hx
  have e1 : W.max x 0 = x := by unfold W.max; split <;> omega
  have e2 : W.min x 18446744073709551615 = x := by unfold W.min; split <;> omega
  rw [e1, e2]
theorem signs_one {x : Int} (hx : wfI .u64 x) : signsB (oneB x) = (x, x, I (B64 x), I (B64 x), 0, 18446744073709551615) := by
  have h := I_lo' x
  have e1 : W.min 9223372036854775807 (I (B64 x)) = I (B64 x) := by unfold W.min; split <;> omega
  have e2 : W.max (-9223372036854775808) (I (B64 x)) = I (B64 x) := by unfold W.max; split <;> omega
  simp only [signsB, oneB, e1, e2, U_I x hx]
  rw [if_neg (by omega)]
  by_cases hc : I (B64 x) ≥ 0
  · rw [if_pos hc]
  · rw [if_neg hc, if_pos (by omega)]
theorem round_one {x : Int} (hx : wfI .u64 x) : roundB (oneB x) = some (constB x) := by
  refine round_of (d := (x, x, I (B64 x), I (B64 x), 0, 18446744073709551615)) hx (by rw [bits_one hx]; simp [emptyB, oneB]) (by rw [bits_one hx]; exact signs_one hx) rfl rfl ?_ (by simp [emptyB]) rfl rfl
  have e1 : ~~~(BitVec.allOnes 64) = 0#64 := by decide
  have e2 : BitVec.allOnes 64 &&& 0#64 = 0#64 := by decide
  have e3 : 0#64 ||| B64 x = B64 x := by simp
  have e4 : ∀ v : BitVec 64, v &&& 0#64 &&& ~~~0#64 = 0#64 := by intro v; simp
  simp only [meetT, B64_0, all_1, e1, e2, e3, e4, and_n0, U_B64 hx, decide_true]
  rfl
theorem tidy_one {x : Int} (hx : wfI .u64 x) : tidyB (oneB x) = some (constB x) := by
  unfold tidyB; rw [round_one hx]; exact round_const hx
theorem in_const {x y : Int} (hx : wfI .u64 x) (hy : wfI .u64 y) : inP (constB x) y ↔ x = y := by
  simp only [inP, constB, B64_0]
  constructor
  · rintro ⟨⟨h1, h2⟩, _⟩; omega
  · rintro rfl
    refine ⟨⟨Int.le_refl _, Int.le_refl _⟩, ⟨Int.le_refl _, Int.le_refl _⟩, ?_⟩
    rw [and_n0, U_B64 hx]
theorem within_any {x : Int} (hx : wfI .u64 x) : withinP anyB (constB x) := by
  have h := I_lo' x
  have h2 := u64_lo hx
  simp only [withinP, anyB, constB, B64_0, all_1]
  refine ⟨by omega, by omega, by omega, by omega, by decide, ?_⟩
  simp [U]
theorem join_self {x : Int} (hx : wfI .u64 x) : joinB (constB x) (constB x) = constB x := by
  simp only [joinB, constB, wmin_self, wmax_self, B64_0, BitVec.and_self, BitVec.or_self, BitVec.xor_self, and_n0, U_B64 hx]
  rfl
theorem rValue_eq {R : Type} (x : PTs.D ps_clevisref08Value) (k : PTs.D qs_clevisref08Value → Option R) : F_clevisref08Value R x k = k (if x.1 = x.2.1 then (x.1, true) else (0, false)) := by
  obtain ⟨(a : Int), (b : Int), (c : Int), (d : Int), (v : Int), (m : Int)⟩ := x
  simp only [F_clevisref08Value, N_clevisref08Value, br_ite, W.ne_t, apply_ite k]
  by_cases h : a = b <;> simp [h]
theorem chk_same (v m : BitVec 64) : v &&& m = 0#64 ↔ v = v &&& ~~~m := by
  constructor
  · intro h
    apply BitVec.eq_of_getLsbD_eq; intro i hi
    have h2 := congrArg (fun z => z.getLsbD i) h
    simp only [BitVec.getLsbD_and, BitVec.getLsbD_not, BitVec.getLsbD_zero, decide_eq_true hi, Bool.true_and] at h2 ⊢
    revert h2; cases v.getLsbD i <;> cases m.getLsbD i <;> simp
  · intro h
    apply BitVec.eq_of_getLsbD_eq; intro i hi
    have h2 := congrArg (fun z => z.getLsbD i) h
    simp only [BitVec.getLsbD_and, BitVec.getLsbD_not, BitVec.getLsbD_zero, decide_eq_true hi, Bool.true_and] at h2 ⊢
    revert h2; cases v.getLsbD i <;> cases m.getLsbD i <;> simp
open Classical in
theorem rCheck_eq {R : Type} (x : PTs.D ps_clevisref08Check) (hw : wfB x) (k : PTs.D qs_clevisref08Check → Option R) : F_clevisref08Check R x k = k (decide (chkP x)) := by
  obtain ⟨(a : Int), (b : Int), (c : Int), (d : Int), (v : Int), (m : Int)⟩ := x
  obtain ⟨_, _, _, _, hv, _⟩ := hw
  have hv : wfI .u64 v := hv
  have hc : (v = U (B64 v &&& ~~~(B64 m))) ↔ B64 v &&& B64 m = 0#64 := by
    rw [chk_same]
    constructor
    · intro h; rw [← U_inj, U_B64 hv]; exact h
    · intro h; rw [← h, U_B64 hv]
  simp only [F_clevisref08Check, N_clevisref08Check, F_clevisref07Check, N_clevisref07Check, W.wrap_u64, W.and_u64, B64_U, U_zero, br_ite, W.pickf_t, W.le_t]
  by_cases h1 : a ≤ b ∧ c ≤ d
  · rw [if_pos h1]; refine congrArg k (dec_eq ?_)
    rw [W.pickf_t, decide_eq_true_eq]
    exact ⟨fun h => ⟨h1.1, h1.2, hc.2 h.2⟩, fun h => ⟨rfl, hc.1 h.2.2⟩⟩
  · rw [if_neg h1]; exact congrArg k (dec_eq ⟨(fun h => absurd h (by simp)), fun h2 => absurd ⟨h2.1, h2.2.1⟩ h1⟩)
open Classical in
theorem rIn_eq {R : Type} (x : PTs.D ps_clevisref08In) (k : PTs.D qs_clevisref08In → Option R) : F_clevisref08In R x k = k (decide (inP x.1 x.2)) := by
  obtain ⟨⟨(a : Int), (b : Int), (c : Int), (d : Int), (v : Int), (m : Int)⟩, (x : Int)⟩ := x
  simp only [F_clevisref08In, N_clevisref08In, F_clevisref07In, N_clevisref07In, W.wrap_u64, W.wrap_i64, W.andNot_u64, B64_U, br_ite, W.pickf_t, W.le_t, W.ge_t]
  by_cases h1 : ((x ≥ a ∧ x ≤ b) ∧ I (B64 x) ≥ c) ∧ I (B64 x) ≤ d
  · rw [if_pos h1]; refine congrArg k (dec_eq ?_)
    simp only [W.pick, cond_true, W.eq_t]
    exact ⟨fun h => ⟨h1.1.1, ⟨h1.1.2, h1.2⟩, h⟩, fun h => h.2.2⟩
  · rw [if_neg h1]; refine congrArg k (dec_eq ⟨(fun h => absurd h (by simp)), fun h2 => absurd ⟨⟨h2.1, h2.2.1.1⟩, h2.2.1.2⟩ h1⟩)
theorem or_sub (p q : BitVec 64) : q &&& ~~~p = 0#64 ↔ q ||| p = p := by
  constructor
  · intro h
    apply BitVec.eq_of_getLsbD_eq; intro i hi
    have h2 := congrArg (fun z => z.getLsbD i) h
    simp only [BitVec.getLsbD_and, BitVec.getLsbD_or, BitVec.getLsbD_not, BitVec.getLsbD_zero, decide_eq_true hi, Bool.true_and] at h2 ⊢
    revert h2; cases p.getLsbD i <;> cases q.getLsbD i <;> simp
  · intro h
    apply BitVec.eq_of_getLsbD_eq; intro i hi
    have h2 := congrArg (fun z => z.getLsbD i) h
    simp only [BitVec.getLsbD_and, BitVec.getLsbD_or, BitVec.getLsbD_not, BitVec.getLsbD_zero, decide_eq_true hi, Bool.true_and] at h2 ⊢
    revert h2; cases p.getLsbD i <;> cases q.getLsbD i <;> simp
theorem rConst_eq {R : Type} (x : PTs.D ps_clevisref08Const) (k : PTs.D qs_clevisref08Const → Option R) : F_clevisref08Const R x k = k (constB x) := by
  simp only [F_clevisref08Const, N_clevisref08Const, F_clevisref07Const, N_clevisref07Const, W.wrap_i64, constB]
noncomputable def sizeB (n : Int) : Bd := if n = 1 then (0, 255, 0, 255, 0, 255) else if n = 2 then (0, 65535, 0, 65535, 0, 65535) else if n = 4 then (0, 4294967295, 0, 4294967295, 0, 4294967295) else anyB
theorem Size_eq {R : Type} (n : PTs.D ps_bound_Size) (k : PTs.D qs_bound_Size → Option R) : F_bound_Size R n k = k (sizeB n) := by
  revert n; intro (n : Int)
  by_cases h1 : n = 1
  · subst h1; exact Eq.trans (by rfl) (Eq.refl _)
  by_cases h2 : n = 2
  · subst h2; exact Eq.trans (by rfl) (Eq.refl _)
  by_cases h4 : n = 4
  · subst h4; exact Eq.trans (by rfl) (Eq.refl _)
  have e : W.pick (W.pick (W.ne n 1) (W.ne n 2) false) (W.ne n 4) false = true := by rw [W.pickf_t, W.pickf_t, W.ne_t, W.ne_t, W.ne_t]; exact ⟨⟨h1, h2⟩, h4⟩
  simp only [F_bound_Size, N_bound_Size, e, br_t, Any_eq, sizeB, if_neg h1, if_neg h2, if_neg h4, anyB]
theorem rSize_eq {R : Type} (n : PTs.D ps_clevisref08Size) (k : PTs.D qs_clevisref08Size → Option R) : F_clevisref08Size R n k = k (sizeB n) := by
  revert n; intro (n : Int)
  by_cases h1 : n = 1
  · subst h1; exact Eq.trans (by rfl) (Eq.refl _)
  by_cases h2 : n = 2
  · subst h2; exact Eq.trans (by rfl) (Eq.refl _)
  by_cases h4 : n = 4
  · subst h4; exact Eq.trans (by rfl) (Eq.refl _)
  simp only [F_clevisref08Size, N_clevisref08Size, br_ite, W.eq_t, if_neg h1, if_neg h2, if_neg h4, F_clevisref08Any, N_clevisref08Any, F_clevisref07Any, N_clevisref07Any, sizeB, anyB]
theorem weq_self (z : Int) : W.eq z z = true := W.eq_t.2 (Eq.refl z)
theorem eta6 (z : Bd) : (z.1, z.2.1, z.2.2.1, z.2.2.2.1, z.2.2.2.2.1, z.2.2.2.2.2) = z := Eq.trans (by rfl) (Eq.refl _)
theorem not_top : ~~~top = B64 9223372036854775807 := by decide
theorem rbits_eq {R : Type} (x : PTs.D ps_clevisref08bits) (k : PTs.D qs_clevisref08bits → Option R) : F_clevisref08bits R x k = k (bitsB x) := by
  obtain ⟨(a : Int), (b : Int), (c : Int), (d : Int), (v : Int), (m : Int)⟩ := x
  rw [bitsB_eq]
  simp only [F_clevisref08bits, N_clevisref08bits, W.wrap_u64, W.wrap_i64, W.or_u64, W.and_u64, B64_U, B64_top, not_top]
theorem rsigns_eq {R : Type} (x : PTs.D ps_clevisref08signs) (k : PTs.D qs_clevisref08signs → Option R) : F_clevisref08signs R x k = k (signsB x) := by
  refine Eq.trans ?_ (signsK_eq x k)
  obtain ⟨(a : Int), (b : Int), (c : Int), (d : Int), (v : Int), (m : Int)⟩ := x
  simp only [F_clevisref08signs, N_clevisref08signs, signsK]
theorem rMeet7_eq {R : Type} (v m v' m' : Int) (k : PTs.D qs_clevisref07Meet → Option R) : F_clevisref07Meet R ((v, m), (v', m')) k = k (meetT v m v' m') := by
  have e : ∀ p q r : BitVec 64, p &&& ~~~(q ||| r) = p &&& ~~~q &&& ~~~r := by
    intro p q r
    apply BitVec.eq_of_getLsbD_eq; intro i hi
    simp only [BitVec.getLsbD_and, BitVec.getLsbD_or, BitVec.getLsbD_not, decide_eq_true hi, Bool.true_and]
    cases p.getLsbD i <;> cases q.getLsbD i <;> cases r.getLsbD i <;> rfl
  simp only [F_clevisref07Meet, N_clevisref07Meet, F_clevisref07of, N_clevisref07of, W.wrap_u64, W.or_u64, W.and_u64, W.xor_u64, W.andNot_u64, B64_U, U_zero, e, meetT]
/-- The reference's mask: ones up to the highest place that is set. -/
theorem rrange_loop {R : Type} {fl : Nat} {a : Int} {x : Nat} (hx : x < 2 ^ 64) {y3 y4 : Int} {k : PTs.D qs_clevisref07Range → Option R} : ∀ (m e t : Nat), t + m = blen x →
    P_clevisref07Range_3_0 fl (e + m + 1) R a ((x / 2 ^ t : Nat) : Int) ((2 ^ t - 1 : Nat) : Int) y3 y4 k = k (W.wrap .u64 (W.andNot .u64 a ((2 ^ blen x - 1 : Nat) : Int)), ((2 ^ blen x - 1 : Nat) : Int))
  | 0, e, t, ht => by
    rw [P_clevisref07Range_3_0_s]
    have ht : t = blen x := by omega
    subst ht
    have h0 : x / 2 ^ blen x = 0 := Nat.div_eq_of_lt (blen_lt x)
    have h1 : W.ne ((x / 2 ^ blen x : Nat) : Int) 0 = false := by rw [h0]; rfl
    rw [h1, br_f]
  | m + 1, e, t, ht => by
    rw [P_clevisref07Range_3_0_s]
    have hb : blen x ≤ 64 := blen_le hx
    have h0 : ¬ x < 2 ^ t := fun h => by have := blen_le h; omega
    have h1 : 0 < x / 2 ^ t := Nat.div_pos (by omega) (Nat.two_pow_pos t)
    have h2 : W.ne ((x / 2 ^ t : Nat) : Int) 0 = true := by rw [W.ne_t]; omega
    have h3 : x / 2 ^ t ≤ x := Nat.div_le_self _ _
    have h4 : W.wrap .u64 (W.quo ((x / 2 ^ t : Nat) : Int) 2) = ((x / 2 ^ (t + 1) : Nat) : Int) := by
      have e1 : W.quo ((x / 2 ^ t : Nat) : Int) 2 = ((x / 2 ^ t / 2 : Nat) : Int) := by
        unfold W.quo; rw [Int.tdiv_eq_ediv_of_nonneg (by omega)]; omega
      rw [e1, W.wu64_id (by omega) (by omega), Nat.div_div_eq_div_mul, ← Nat.pow_succ]
    have hp : 2 ^ (t + 1) ≤ 2 ^ 64 := Nat.pow_le_pow_right (by omega) (by omega)
    have hp1 : 1 ≤ 2 ^ t := Nat.one_le_two_pow
    have hps : 2 ^ (t + 1) = 2 ^ t * 2 := Nat.pow_succ ..
    have h5 : W.wrap .u64 (W.add (W.wrap .u64 (W.mul ((2 ^ t - 1 : Nat) : Int) 2)) 1) = ((2 ^ (t + 1) - 1 : Nat) : Int) := by
      unfold W.mul W.add
      rw [W.wu64_id (z := ((2 ^ t - 1 : Nat) : Int) * 2) (by omega) (by omega), W.wu64_id (by omega) (by omega)]
      omega
    rw [h2, br_t, h4, h5]
    exact rrange_loop hx m e (t + 1) (by omega)
theorem low_U {n : Nat} (h : n ≤ 64) : U (low n) = ((2 ^ n - 1 : Nat) : Int) := by
  have hp : 2 ^ n ≤ 2 ^ 64 := Nat.pow_le_pow_right (by omega) h
  have hp1 : 1 ≤ 2 ^ n := Nat.one_le_two_pow
  unfold U low
  rw [BitVec.toNat_ofNat, Nat.mod_eq_of_lt (by omega)]
theorem rRange_eq {R : Type} (a b : Int) (k : PTs.D qs_clevisref07Range → Option R) : F_clevisref07Range R (a, b) k = k (rangeT a b) := by
  simp only [F_clevisref07Range, N_clevisref07Range, W.wrap_u64, W.xor_u64, B64_U]
  have hx := (B64 a ^^^ B64 b).isLt
  have hb : blen (B64 a ^^^ B64 b).toNat ≤ 64 := blen_le hx
  have h := rrange_loop (R := R) (fl := W.big) (a := a) hx (y3 := 0) (y4 := 0) (k := k) (blen (B64 a ^^^ B64 b).toNat) (W.big - (blen (B64 a ^^^ B64 b).toNat + 1)) 0 (by omega)
  rw [show W.big - (blen (B64 a ^^^ B64 b).toNat + 1) + blen (B64 a ^^^ B64 b).toNat + 1 = W.big by unfold W.big; omega] at h
  have e0 : (B64 a ^^^ B64 b).toNat / 2 ^ 0 = (B64 a ^^^ B64 b).toNat := by simp
  have e1 : ((2 ^ 0 - 1 : Nat) : Int) = 0 := rfl
  rw [e0, e1] at h
  refine Eq.trans (show _ = P_clevisref07Range_3_0 W.big W.big R a (((B64 a ^^^ B64 b).toNat : Nat) : Int) 0 0 0 k from rfl) (h.trans ?_)
  rw [← low_U hb, W.andNot_u64, W.wrap_u64, B64_U, B64_U]
  rfl
theorem opt_some' {α β : Type} (a : α) (k0 : β) (k : α → β) : opt (some a) k0 k = k a := Eq.trans (by rfl) (Eq.refl _)
theorem pick_empty (d : Bd) (t : Bool) : W.pick (W.pick (W.not t) true (W.gt d.1 d.2.1)) true (W.gt d.2.2.1 d.2.2.2.1) = !(t && !emptyB d) := by
  rw [Bool.eq_iff_iff]
  simp only [W.picko_t, W.not_t, W.gt_t, emptyB]
  cases t
  · simp
  · simp
theorem pick_empty2 (d : Bd) : W.pick (W.gt d.1 d.2.1) true (W.gt d.2.2.1 d.2.2.2.1) = emptyB d := by
  rw [Bool.eq_iff_iff]
  simp only [W.picko_t, W.gt_t, emptyB]
  simp
theorem eta6' (z : Bd) : (z.1, z.2.1, z.2.2.1, z.2.2.2.1, z.2.2.2.2.1, z.2.2.2.2.2) = z := Eq.trans (by rfl) (Eq.refl _)
/-- One round of the reference's. -/
theorem rround_eq {R : Type} (b : Bd) (k0 : Option R) (k : Bd → Option R) :
    (F_clevisref08bits R (b.1, b.2.1, b.2.2.1, b.2.2.2.1, b.2.2.2.2.1, b.2.2.2.2.2) fun y =>
      br (W.pick (W.gt y.1 y.2.1) true (W.gt y.2.2.1 y.2.2.2.1)) k0
        (F_clevisref08signs R (y.1, y.2.1, y.2.2.1, y.2.2.2.1, y.2.2.2.2.1, y.2.2.2.2.2) fun y =>
          F_clevisref07Range R (y.1, y.2.1) fun y_1 =>
            F_clevisref07Meet R ((y.2.2.2.2.1, y.2.2.2.2.2), y_1.1, y_1.2) fun y_2 =>
              br (W.pick (W.pick (W.not y_2.2) true (W.gt y.1 y.2.1)) true (W.gt y.2.2.1 y.2.2.2.1)) k0 (k (y.1, y.2.1, y.2.2.1, y.2.2.2.1, y_2.1.1, y_2.1.2)))) = opt (roundB b) k0 k := by
  rw [rbits_eq, eta6']
  rw [pick_empty2]
  unfold roundB
  cases he : emptyB (bitsB b) with
  | true => rw [br_t]; rfl
  | false =>
    rw [br_f, rsigns_eq, eta6', cond_false]
    generalize signsB (bitsB b) = d
    rw [rRange_eq, rMeet7_eq, pick_empty]
    simp only
    cases ht : ((meetT d.2.2.2.2.1 d.2.2.2.2.2 (rangeT d.1 d.2.1).1 (rangeT d.1 d.2.1).2).2 && !emptyB d) with
    | true => rw [cond_true, Bool.not_true, br_f]; rfl
    | false => rw [cond_false, Bool.not_false, br_t]; rfl
theorem rTidy_eq {R : Type} (b : PTs.D ps_clevisref08Tidy) (k : PTs.D qs_clevisref08Tidy → Option R) : F_clevisref08Tidy R b k = k (opt (tidyB b) ((0, 0, 0, 0, 0, 0), false) fun c => (c, true)) := by
  obtain ⟨(u : Int), (u' : Int), (c : Int), (d : Int), (v : Int), (m : Int)⟩ := b
  simp only [F_clevisref08Tidy, N_clevisref08Tidy]
  have hbig : W.big = (W.big - 3) + 1 + 1 + 1 := by unfold W.big; omega
  have e1 : W.wrap .i64 (W.add 0 1) = 1 := by decide +kernel
  have e2 : W.wrap .i64 (W.add 1 1) = 2 := by decide +kernel
  have l0 : W.lt 0 2 = true := by decide
  have l1 : W.lt 1 2 = true := by decide
  have l2 : W.lt 2 2 = false := by decide
  have step : ∀ (n : Nat) (y0 : Int) (b : Bd), W.lt y0 2 = true → P_clevisref08Tidy_2_0 F_clevisref08bits F_clevisref08signs F_clevisref07Meet F_clevisref07Range W.big (n + 1) R y0 b.1 b.2.1 b.2.2.1 b.2.2.2.1 b.2.2.2.2.1 b.2.2.2.2.2 0 0 0 0 0 0 k =
      opt (roundB b) (k ((0, 0, 0, 0, 0, 0), false)) fun c => P_clevisref08Tidy_2_0 F_clevisref08bits F_clevisref08signs F_clevisref07Meet F_clevisref07Range W.big n R (W.wrap .i64 (W.add y0 1)) c.1 c.2.1 c.2.2.1 c.2.2.2.1 c.2.2.2.2.1 c.2.2.2.2.2 0 0 0 0 0 0 k := by
    intro n y0 b h
    rw [P_clevisref08Tidy_2_0_s, h, br_t]
    exact rround_eq b _ (fun c => P_clevisref08Tidy_2_0 F_clevisref08bits F_clevisref08signs F_clevisref07Meet F_clevisref07Range W.big n R (W.wrap .i64 (W.add y0 1)) c.1 c.2.1 c.2.2.1 c.2.2.2.1 c.2.2.2.2.1 c.2.2.2.2.2 0 0 0 0 0 0 k)
  have last : ∀ (n : Nat) (b : Bd), P_clevisref08Tidy_2_0 F_clevisref08bits F_clevisref08signs F_clevisref07Meet F_clevisref07Range W.big (n + 1) R 2 b.1 b.2.1 b.2.2.1 b.2.2.2.1 b.2.2.2.2.1 b.2.2.2.2.2 0 0 0 0 0 0 k = k (b, true) := by
    intro n b
    rw [P_clevisref08Tidy_2_0_s, l2, br_f, eta6']
  have h1 := step (W.big - 3 + 1 + 1) 0 (u, u', c, d, v, m) l0
  rw [← hbig] at h1
  refine h1.trans ?_
  unfold tidyB
  cases hr : roundB (u, u', c, d, v, m) with
  | none => rfl
  | some b1 =>
    rw [opt_some', e1, step _ 1 b1 l1]
    show _ = k (opt (roundB b1) _ _)
    cases hr2 : roundB b1 with
    | none => rfl
    | some b2 => rw [opt_some', opt_some', e2, last]
theorem tidy_whole : tidyB wholeB = some wholeB := by kernel_rfl
theorem rsize4 {R : Type} (k : PTs.D qs_clevisref08Size → Option R) : F_clevisref08Size R (4 : Int) k = k wholeB := Eq.trans (by rfl) (Eq.refl _)
theorem rlow_tail {R : Type} (k : Bd → Option R) (b : Bd) (x : Bd × Bool) (hx : x = opt (tidyB (cutB' b)) ((0, 0, 0, 0, 0, 0), false) fun c => (c, true)) :
    br (W.not x.2) (k wholeB) (k x.1) = k (lowC (lowP b.2.2.2.2.1) (lowP b.2.2.2.2.2) (tidyB (cutB' b))) := by
  cases ho : tidyB (cutB' b) with
  | none =>
    rw [ho] at hx
    have hx : x = ((0, 0, 0, 0, 0, 0), false) := hx
    subst hx; rfl
  | some y =>
    rw [ho] at hx
    have hx : x = (y, true) := hx
    subst hx
    simp only [lowC, W.not, Bool.not_true, br_f]
    by_cases hz : lowP b.2.2.2.2.1 = 0 ∧ lowP b.2.2.2.2.2 = 4294967295
    · rw [if_pos hz]
      have hc : cutB' b = wholeB := by
        have e : cutB' b = (0, 4294967295, 0, 4294967295, lowP b.2.2.2.2.1, lowP b.2.2.2.2.2) := by simp only [cutB', lowP]
        rw [e, hz.1, hz.2]; simp only [wholeB]
      rw [hc, tidy_whole] at ho
      rw [← Option.some.inj ho]
    · rw [if_neg hz]
theorem upto_eq {R : Type} (k : PTs.D qs_clevisref08upto → Option R) : F_clevisref08upto R (4294967295 : Int) k = k wholeB := Eq.trans (by rfl) (Eq.refl _)
theorem rlow7 {R : Type} (v m : Int) (k : PTs.D qs_clevisref07Low → Option R) : F_clevisref07Low R (v, m) k = k (lowP v, lowP m) := by
  have e : B64 4294967295 = M32 := by decide
  simp only [F_clevisref07Low, N_clevisref07Low, W.wrap_u64, W.and_u64, B64_U, e, lowP]
theorem cut_eq' (a b c d v m : Int) : (wholeB.1, wholeB.2.1, wholeB.2.2.1, wholeB.2.2.2.1, lowP v, lowP m) = cutB' (a, b, c, d, v, m) := by simp only [wholeB, cutB', lowP]
theorem rLow_b {R : Type} (a b c d v m : Int) (k : Bd → Option R) (h : W.le b 4294967295 = false) : F_clevisref08Low R (a, b, c, d, v, m) k = k (lowC (lowP v) (lowP m) (tidyB (cutB' (a, b, c, d, v, m)))) := by
  simp only [F_clevisref08Low, N_clevisref08Low, h, br_f, upto_eq, rTidy_eq, rsize4, eta6']
  rw [rlow7]
  simp only [cut_eq' a b c d v m]
  generalize hx : (opt (tidyB (cutB' (a, b, c, d, v, m))) ((0, 0, 0, 0, 0, 0), false) fun c => (c, true)) = x
  exact rlow_tail k (a, b, c, d, v, m) x hx.symm
theorem rLow_eq {R : Type} (x : Bd) (k : Bd → Option R) : F_clevisref08Low R x k = k (lowB x) := by
  obtain ⟨a, b, c, d, v, m⟩ := x
  cases h : W.le b 4294967295 with
  | true =>
    rw [low_small (W.le_t.1 h)]
    simp only [F_clevisref08Low, N_clevisref08Low, h, br_t]
  | false => rw [rLow_b a b c d v m k h, low_big (fun e => by rw [W.le_t.2 e] at h; cases h)]
end Go.Proofs.Ytomdfcjnmogcbaa
