import Derived.Test.YtomdfcjnmogcbaaLawE
set_option linter.unusedVariables false
set_option linter.unusedSimpArgs false
set_option maxHeartbeats 4000000
set_option maxRecDepth 100000
namespace Go.Proofs.Ytomdfcjnmogcbaa
open Go Go.Eng
variable {R : Type}
noncomputable def shrun (op : Int) : Prop := op = 96 ∨ op = 112 ∨ op = 192
open Classical in
noncomputable def lshB (a b : Bd) : Bd :=
  if b.1 = b.2.1 then
    (if a.2.1 * 2 ^ (b.1 % 64).toNat ≤ 18446744073709551615 then shf 96 a.1 (b.1 % 64) true else 0, if a.2.1 * 2 ^ (b.1 % 64).toNat ≤ 18446744073709551615 then shf 96 a.2.1 (b.1 % 64) true else 18446744073709551615,
      -9223372036854775808, 9223372036854775807, shI 96 a.2.2.2.2.1 a.2.2.2.2.2 (b.1 % 64))
  else anyB
noncomputable def rshB (a b : Bd) : Bd :=
  if b.1 = b.2.1 then (shf 112 a.1 (b.1 % 64) true, shf 112 a.2.1 (b.1 % 64) true, -9223372036854775808, 9223372036854775807, shI 112 a.2.2.2.2.1 a.2.2.2.2.2 (b.1 % 64)) else uptoB a.2.1
noncomputable def arshB (a b : Bd) : Bd :=
  if b.1 = b.2.1 then (0, 18446744073709551615, W.shr .i64 a.2.2.1 (b.1 % 64), W.shr .i64 a.2.2.2.1 (b.1 % 64), shI 192 a.2.2.2.2.1 a.2.2.2.2.2 (b.1 % 64)) else anyB
theorem by_eq (x : PTs.D ps_arith_pair_by) (k : Int × Bool → Option R) : F_arith_pair_by R x k = k ((if x.2.1 = x.2.2.1 then x.2.1 else 0) % 64, decide (x.2.1 = x.2.2.1)) := by
  obtain ⟨⟨(a1 : Int), (a2 : Int), (a3 : Int), (a4 : Int), (a5 : Int), (a6 : Int)⟩, ⟨(b1 : Int), (b2 : Int), (b3 : Int), (b4 : Int), (b5 : Int), (b6 : Int)⟩⟩ := x
  simp only [F_arith_pair_by, N_arith_pair_by, Value_eq, W.and_63]
  have e : ∀ z : Int, W.wrap .i64 (W.wrap .u64 (z % 64)) = z % 64 := by intro z; rw [W.wu64_id (by omega) (by omega), W.wi64_id (by omega) (by omega)]
  rw [e]
  by_cases h : b1 = b2 <;> simp [h]
theorem shl_fit {a : Int} (ha : p64 a) {n : Nat} (hn : n < 64) : W.eq (W.shr .u64 (W.wrap .u64 (W.shl .u64 a (n : Int))) (n : Int)) a = decide (a * 2 ^ n ≤ 18446744073709551615) := by
  have e1 : W.shl .u64 a (n : Int) = a * 2 ^ n := by
    unfold W.shl
    have : min ((n : Int)).toNat IntKind.u64.bits = n := by simp [IntKind.bits]; omega
    rw [this]
  rw [e1, W.eq_d, shr_u (by omega), W.wu64]
  apply decide_eq_decide.2
  unfold p64 at ha
  have hp : (0 : Int) < 2 ^ n := Int.pow_pos (by omega)
  have h0 : 0 ≤ a * 2 ^ n := Int.mul_nonneg ha.1 (by omega)
  constructor
  · intro h
    false_or_by_contra
    rename_i hc
    have h1 : a * 2 ^ n % 18446744073709551616 < a * 2 ^ n := by
      have := Int.emod_lt_of_pos (a * 2 ^ n) (show (0 : Int) < 18446744073709551616 by decide)
      omega
    have h2 : a * 2 ^ n % 18446744073709551616 / 2 ^ n < a := Int.ediv_lt_of_lt_mul hp (by rw [Int.mul_comm] at h1 ⊢; rw [Int.mul_comm (2 ^ n) a] at h1; rw [Int.mul_comm]; exact h1)
    omega
  · intro h
    rw [Int.emod_eq_of_lt h0 (by omega), Int.mul_ediv_cancel _ (by omega)]
open Classical in
theorem pLsh_eq (x : PTs.D ps_arith_pair_lsh) (wa : wfB x.1) (k : Bd → Option R) : F_arith_pair_lsh R x k = k (lshB x.1 x.2) := by
  obtain ⟨⟨(a1 : Int), (a2 : Int), (a3 : Int), (a4 : Int), (a5 : Int), (a6 : Int)⟩, ⟨(b1 : Int), (b2 : Int), (b3 : Int), (b4 : Int), (b5 : Int), (b6 : Int)⟩⟩ := x
  have p2 : p64 a2 := u64_lo wa.2.1
  simp only [F_arith_pair_lsh, N_arith_pair_lsh, by_eq, Any_eq, eta6', lshB, W.not_eq]
  by_cases h : b1 = b2
  · subst h
    obtain ⟨n, hn⟩ : ∃ n : Nat, b1 % 64 = (n : Int) := ⟨(b1 % 64).toNat, by omega⟩
    have hn64 : n < 64 := by omega
    have h0 : W.lt (n : Int) 0 = false := by rw [W.lt_d]; simp
    simp only [if_true, decide_true, Bool.not_true, br_f, hn, tShift_eq 96 a5 a6 (n : Int) (.inl rfl), of_eq, h0, shl_fit p2 hn64, br_d, Int.toNat_natCast]
    have e : ∀ z : Int, W.wrap .u64 (W.shl .u64 z (n : Int)) = shf 96 z (n : Int) true := by
      intro z; simp only [shf, cnt, if_true]; rw [show (n : Int) % 64 = (n : Int) by omega]
    simp only [e]
    by_cases h1 : a2 * 2 ^ n ≤ 18446744073709551615 <;> simp [h1, ofB]
  · simp only [h, decide_false, Bool.not_false, br_t, if_false]
theorem pRsh_eq (x : PTs.D ps_arith_pair_rsh) (k : Bd → Option R) : F_arith_pair_rsh R x k = k (rshB x.1 x.2) := by
  obtain ⟨⟨(a1 : Int), (a2 : Int), (a3 : Int), (a4 : Int), (a5 : Int), (a6 : Int)⟩, ⟨(b1 : Int), (b2 : Int), (b3 : Int), (b4 : Int), (b5 : Int), (b6 : Int)⟩⟩ := x
  simp only [F_arith_pair_rsh, N_arith_pair_rsh, by_eq, pUpto_eq, eta6', rshB, W.not_eq]
  by_cases h : b1 = b2
  · subst h
    obtain ⟨n, hn⟩ : ∃ n : Nat, b1 % 64 = (n : Int) := ⟨(b1 % 64).toNat, by omega⟩
    have h0 : W.lt (n : Int) 0 = false := by rw [W.lt_d]; simp
    simp only [if_true, decide_true, Bool.not_true, br_f, hn, tShift_eq 112 a5 a6 (n : Int) (.inr (.inl rfl)), of_eq, h0]
    have e : ∀ z : Int, W.shr .u64 z (n : Int) = shf 112 z (n : Int) true := by
      intro z; simp only [shf, cnt, if_true]; rw [if_neg (by decide), show (n : Int) % 64 = (n : Int) by omega]
    simp only [e]; rfl
  · simp only [h, decide_false, Bool.not_false, br_t, if_false]
theorem pArsh_eq (x : PTs.D ps_arith_pair_arsh) (k : Bd → Option R) : F_arith_pair_arsh R x k = k (arshB x.1 x.2) := by
  obtain ⟨⟨(a1 : Int), (a2 : Int), (a3 : Int), (a4 : Int), (a5 : Int), (a6 : Int)⟩, ⟨(b1 : Int), (b2 : Int), (b3 : Int), (b4 : Int), (b5 : Int), (b6 : Int)⟩⟩ := x
  simp only [F_arith_pair_arsh, N_arith_pair_arsh, by_eq, Any_eq, eta6', arshB, W.not_eq]
  by_cases h : b1 = b2
  · subst h
    obtain ⟨n, hn⟩ : ∃ n : Nat, b1 % 64 = (n : Int) := ⟨(b1 % 64).toNat, by omega⟩
    have h0 : W.lt (n : Int) 0 = false := by rw [W.lt_d]; simp
    simp only [if_true, decide_true, Bool.not_true, br_f, hn, tShift_eq 192 a5 a6 (n : Int) (.inr (.inr rfl)), of_eq, h0]
    rfl
  · simp only [h, decide_false, Bool.not_false, br_t, if_false]
/-- What an operation makes of bounds, not yet tidy. -/
noncomputable def opB (op : Int) (a b : Bd) : Bd :=
  if op = 0 then addB a b else if op = 16 then diffB a b else if op = 128 then diffB (constB 0) a else if op = 176 then b else if op = 32 then mulB a b else if op = 48 then divB a b else if op = 144 then modB a b
  else if op = 80 then andB a b else if op = 64 then orB a b else if op = 160 then xorB a b else if op = 96 then lshB a b else if op = 112 then rshB a b else arshB a b
noncomputable def isA (op : Int) : Prop := op = 0 ∨ op = 16 ∨ op = 128 ∨ op = 176 ∨ op = 32 ∨ op = 48 ∨ op = 144 ∨ op = 80 ∨ op = 64 ∨ op = 160 ∨ op = 96 ∨ op = 112 ∨ op = 192
theorem rParts_eq (op : Int) (ho : op = 32 ∨ op = 48 ∨ op = 144) (a b : Bd) (wa : wfB a) (wb : wfB b) (k : Bd → Option R) : F_clevisref09parts R (op, a, b) k = k (opB op a b) := by
  obtain ⟨(a1 : Int), (a2 : Int), (a3 : Int), (a4 : Int), (a5 : Int), (a6 : Int)⟩ := a
  obtain ⟨(b1 : Int), (b2 : Int), (b3 : Int), (b4 : Int), (b5 : Int), (b6 : Int)⟩ := b
  have hm := rtMul_eq (R := R) ((a5, a6), b5, b6) (u64_lo wa.2.2.2.2.1) (u64_lo wa.2.2.2.2.2) (u64_lo wb.2.2.2.2.1) (u64_lo wb.2.2.2.2.2)
  simp only at hm
  simp only [F_clevisref09parts, N_clevisref09parts, rany9_eq, rValue_eq, hm]
  rcases ho with e | e | e <;> subst e
  · rw [br_pos (W.eq_t.2 rfl)]
    have h2 : W.pick (W.le a2 4294967295) (W.le b2 4294967295) false = decide (a2 ≤ 4294967295 ∧ b2 ≤ 4294967295) := by
      rw [Bool.eq_iff_iff, W.pickf_t, W.le_t, W.le_t]; simp
    rw [h2, br_d]
    simp [opB, mulB, anyB]
    by_cases h : a2 ≤ 4294967295 ∧ b2 ≤ 4294967295 <;> simp [h]
  · rw [br_neg (by decide), br_pos (W.eq_t.2 rfl)]
    simp [opB, divB, uptoB, anyB]
    by_cases h1 : b1 = b2
    · subst h1
      by_cases h2 : 0 < b1
      · have h3 : ¬ b1 = 0 := by omega
        simp [h2, W.pick, W.gt_d, br_t, br_f, W.eq_d, h3]
      · simp [h2, W.pick, W.gt_d, br_t, br_f]
    · simp [h1, W.pick, br_f]
  · rw [br_neg (by decide), br_neg (by decide), br_pos (W.eq_t.2 rfl), W.gt_d, br_d]
    simp [opB, modB, uptoB, anyB]
    by_cases h : 0 < b1 <;> simp [h]
theorem rBits9_eq (op : Int) (ho : op = 80 ∨ op = 64 ∨ op = 160) (a b : Bd) (k : Bd → Option R) : F_clevisref09bits R (op, a, b) k = k (opB op a b) := by
  obtain ⟨(a1 : Int), (a2 : Int), (a3 : Int), (a4 : Int), (a5 : Int), (a6 : Int)⟩ := a
  obtain ⟨(b1 : Int), (b2 : Int), (b3 : Int), (b4 : Int), (b5 : Int), (b6 : Int)⟩ := b
  simp only [F_clevisref09bits, N_clevisref09bits, rany9_eq, rtAnd_eq, rtOr_eq, rtXor_eq]
  rcases ho with e | e | e <;> subst e
  · rw [br_pos (W.eq_t.2 rfl)]; simp [opB, andB, anyB]
  · rw [br_neg (by decide), br_pos (W.eq_t.2 rfl)]; simp [opB, orB, anyB]
  · rw [br_neg (by decide), br_neg (by decide), br_pos (W.eq_t.2 rfl)]; simp [opB, xorB, anyB, ofB]
open Classical in
theorem rShift9_eq (op : Int) (ho : op = 96 ∨ op = 112 ∨ op = 192) (a b : Bd) (hb : b.1 = b.2.1) (wa : wfB a) (wb : wfB b) (k : Bd → Option R) : F_clevisref09shift R (op, a, b.1 % 64) k = k (opB op a b) := by
  obtain ⟨(a1 : Int), (a2 : Int), (a3 : Int), (a4 : Int), (a5 : Int), (a6 : Int)⟩ := a
  obtain ⟨(b1 : Int), (b2 : Int), (b3 : Int), (b4 : Int), (b5 : Int), (b6 : Int)⟩ := b
  simp only at hb
  subst hb
  obtain ⟨n, hn⟩ : ∃ n : Nat, b1 % 64 = (n : Int) := ⟨(b1 % 64).toNat, by omega⟩
  have hn64 : n < 64 := by omega
  have hp : p64 (n : Int) := by unfold p64; omega
  have ew : W.wrap .i64 (n : Int) = n := W.wi64_id (by omega) (by omega)
  have e1 := ralu_eq (R := R) (op, a1, (n : Int), true) (u64_lo wa.1) hp
  have e2 := ralu_eq (R := R) (op, a2, (n : Int), true) (u64_lo wa.2.1) hp
  simp only at e1 e2
  simp only [F_clevisref09shift, N_clevisref09shift, rany9_eq, hn, ew, rtShift_eq op a5 a6 (n : Int) ho (u64_lo wa.2.2.2.2.1) (u64_lo wa.2.2.2.2.2) ⟨by omega, by omega⟩, e1, e2, alu_sh ho]
  have p2 : p64 a2 := u64_lo wa.2.1
  unfold p64 at p2
  rcases ho with e | e | e <;> subst e
  · rw [br_pos (W.eq_t.2 rfl)]
    have h1 : W.le a2 (W.shr .u64 18446744073709551615 (n : Int)) = decide (a2 * 2 ^ n ≤ 18446744073709551615) := by
      rw [W.le_d, shr_u (by omega)]
      apply decide_eq_decide.2
      have hp : (0 : Int) < 2 ^ n := Int.pow_pos (by omega)
      exact Int.le_ediv_iff_mul_le hp
    rw [h1, br_d]
    simp only [opB, lshB, hn, Int.toNat_natCast]
    simp [anyB]
    by_cases h : a2 * 2 ^ n ≤ 18446744073709551615 <;> simp [h]
  · rw [br_neg (by decide), br_pos (W.eq_t.2 rfl)]
    simp only [opB, rshB, hn]; simp [anyB]
  · rw [br_neg (by decide), br_neg (by decide), br_pos (W.eq_t.2 rfl)]
    simp only [opB, arshB, hn]; simp [anyB]
theorem wf_any : wfB anyB := by unfold anyB; exact ⟨rfl, rfl, rfl, rfl, rfl, rfl⟩
open Classical in
theorem rWide_eq (op : Int) (ho : isA op) (a b : Bd) (wa : wfB a) (wb : wfB b) (k : Bd → Option R) : F_clevisref09wide R (op, a, b) k = k (opB op a b) := by
  have pb : p64 b.1 := u64_lo wb.1
  have er : W.rem b.1 64 = b.1 % 64 := by unfold W.rem; exact Int.tmod_eq_emod_of_nonneg pb.1
  have hadd := rAdd9_eq (R := R) (a, b) wa wb
  have hsub := rSub9_eq (R := R) (a, b) wa wb
  have hneg := rSub9_eq (R := R) (constB 0, a) (wf_const ⟨by decide, by decide⟩) wa
  have hparts := fun op h => rParts_eq (R := R) op h a b wa wb
  have hbits := fun op h => rBits9_eq (R := R) op h a b
  have hshift := fun op h hb => rShift9_eq (R := R) op h a b hb wa wb
  obtain ⟨(a1 : Int), (a2 : Int), (a3 : Int), (a4 : Int), (a5 : Int), (a6 : Int)⟩ := a
  obtain ⟨(b1 : Int), (b2 : Int), (b3 : Int), (b4 : Int), (b5 : Int), (b6 : Int)⟩ := b
  simp only at er hadd hsub hneg
  unfold isA at ho
  rcases ho with e | e | e | e | e | e | e | e | e | e | e | e | e <;> subst e <;> simp only [F_clevisref09wide, N_clevisref09wide, rValue_eq, rany9_eq, rConst_eq, eta6', br_ite, W.eq_t]
  · simp [hadd, opB]
  · simp [hsub, opB]
  · simp [hneg, opB]
  · simp [opB]
  · simp [hparts 32 (.inl rfl)]
  · simp [hparts 48 (.inr (.inl rfl))]
  · simp [hparts 144 (.inr (.inr rfl))]
  · simp [hbits 80 (.inl rfl)]
  · simp [hbits 64 (.inr (.inl rfl))]
  · simp [hbits 160 (.inr (.inr rfl))]
  · by_cases h : b1 = b2
    · have := hshift 96 (.inl rfl) h
      simp only at this
      simp [h] at er this ⊢
      rw [er, this]
    · simp [h, opB, lshB]
  · by_cases h : b1 = b2
    · have := hshift 112 (.inr (.inl rfl)) h
      simp only at this
      simp [h] at er this ⊢
      rw [er, this]
    · simp [h, opB, rshB, uptoB, anyB]
  · by_cases h : b1 = b2
    · have := hshift 192 (.inr (.inr rfl)) h
      simp only at this
      simp [h] at er this ⊢
      rw [er, this]
    · simp [h, opB, arshB]
end Go.Proofs.Ytomdfcjnmogcbaa
