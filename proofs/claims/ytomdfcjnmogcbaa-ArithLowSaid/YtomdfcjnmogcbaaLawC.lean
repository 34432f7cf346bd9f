import Derived.Test.YtomdfcjnmogcbaaLawB
import Derived.Test.YtomdfcjnmogcbaaBitPure
set_option linter.unusedVariables false
set_option linter.unusedSimpArgs false
set_option maxHeartbeats 4000000
set_option maxRecDepth 100000
namespace Go.Proofs.Ytomdfcjnmogcbaa
open Go Go.Eng
variable {R : Type}
theorem wfI_q {x : Int} (h : p64 x) : wfI .u64 x := by
  unfold p64 at h; rw [wfI_iff]; simp [IntKind.min, IntKind.max, IntKind.signed, IntKind.bits]; omega
noncomputable def uT (p : BitVec 64 × BitVec 64) : Int × Int := (U p.1, U p.2)
noncomputable def addI (v m v' m' : Int) : Int × Int := uT (addV (B64 v) (B64 m) (B64 v') (B64 m'))
noncomputable def subI (v m v' m' : Int) : Int × Int := uT (subV (B64 v) (B64 m) (B64 v') (B64 m'))
theorem tAdd_eq (x : PTs.D ps_tnum_Add) (k : PTs.D qs_tnum_Add → Option R) : F_tnum_Add R x k = k (addI x.1.1 x.1.2 x.2.1 x.2.2) := by
  obtain ⟨⟨(v : Int), (m : Int)⟩, (v' : Int), (m' : Int)⟩ := x
  simp only [F_tnum_Add, N_tnum_Add, F_tnum_tidy, N_tnum_tidy, W.wrap_u64, W.andNot_u64, W.or_u64, W.xor_u64, B64_U, W.B64_add]
  rfl
theorem tSub_eq (x : PTs.D ps_tnum_Sub) (k : PTs.D qs_tnum_Sub → Option R) : F_tnum_Sub R x k = k (subI x.1.1 x.1.2 x.2.1 x.2.2) := by
  obtain ⟨⟨(v : Int), (m : Int)⟩, (v' : Int), (m' : Int)⟩ := x
  simp only [F_tnum_Sub, N_tnum_Sub, F_tnum_tidy, N_tnum_tidy, W.wrap_u64, W.andNot_u64, W.or_u64, W.xor_u64, B64_U, W.B64_add, W.B64_sub]
  rfl
theorem rtAdd_eq (x : PTs.D ps_clevisref07Add) (k : PTs.D qs_clevisref07Add → Option R) : F_clevisref07Add R x k = k (addI x.1.1 x.1.2 x.2.1 x.2.2) := by
  obtain ⟨⟨(v : Int), (m : Int)⟩, (v' : Int), (m' : Int)⟩ := x
  simp only [F_clevisref07Add, N_clevisref07Add, F_clevisref07of, N_clevisref07of, W.wrap_u64, W.andNot_u64, W.or_u64, W.xor_u64, B64_U, W.B64_add]
  rfl
theorem rtSub_eq (x : PTs.D ps_clevisref07Sub) (k : PTs.D qs_clevisref07Sub → Option R) : F_clevisref07Sub R x k = k (subI x.1.1 x.1.2 x.2.1 x.2.2) := by
  obtain ⟨⟨(v : Int), (m : Int)⟩, (v' : Int), (m' : Int)⟩ := x
  simp only [F_clevisref07Sub, N_clevisref07Sub, F_clevisref07of, N_clevisref07of, W.wrap_u64, W.andNot_u64, W.or_u64, W.xor_u64, B64_U, W.B64_add, W.B64_sub]
  rfl
noncomputable def andI (v m v' m' : Int) : Int × Int := (U (B64 v &&& B64 v'), U (((B64 v ||| B64 m) &&& (B64 v' ||| B64 m')) &&& ~~~(B64 v &&& B64 v')))
noncomputable def orI (v m v' m' : Int) : Int × Int := (U (B64 v ||| B64 v'), U ((B64 m ||| B64 m') &&& ~~~(B64 v ||| B64 v')))
noncomputable def xorI (v m v' m' : Int) : Int × Int := (U ((B64 v ^^^ B64 v') &&& ~~~(B64 m ||| B64 m')), U (B64 m ||| B64 m'))
theorem xor_all' (y : BitVec 64) : B64 18446744073709551615 ^^^ y = ~~~y := by
  have : B64 18446744073709551615 = BitVec.allOnes 64 := by decide
  rw [this, BitVec.allOnes_xor]
theorem tAnd_eq (x : PTs.D ps_tnum_And) (k : PTs.D qs_tnum_And → Option R) : F_tnum_And R x k = k (andI x.1.1 x.1.2 x.2.1 x.2.2) := by
  obtain ⟨⟨(v : Int), (m : Int)⟩, (v' : Int), (m' : Int)⟩ := x
  simp only [F_tnum_And, N_tnum_And, W.wrap_u64, W.and_u64, W.or_u64, W.xor_u64, B64_U, xor_all']
  rfl
theorem tOr_eq (x : PTs.D ps_tnum_Or) (k : PTs.D qs_tnum_Or → Option R) : F_tnum_Or R x k = k (orI x.1.1 x.1.2 x.2.1 x.2.2) := by
  obtain ⟨⟨(v : Int), (m : Int)⟩, (v' : Int), (m' : Int)⟩ := x
  simp only [F_tnum_Or, N_tnum_Or, W.wrap_u64, W.and_u64, W.or_u64, W.xor_u64, B64_U, xor_all']
  rfl
theorem tXor_eq (x : PTs.D ps_tnum_Xor) (k : PTs.D qs_tnum_Xor → Option R) : F_tnum_Xor R x k = k (xorI x.1.1 x.1.2 x.2.1 x.2.2) := by
  obtain ⟨⟨(v : Int), (m : Int)⟩, (v' : Int), (m' : Int)⟩ := x
  simp only [F_tnum_Xor, N_tnum_Xor, F_tnum_tidy, N_tnum_tidy, W.wrap_u64, W.andNot_u64, W.or_u64, W.xor_u64, B64_U]
  rfl
theorem rtAnd_eq (x : PTs.D ps_clevisref07And) (k : PTs.D qs_clevisref07And → Option R) : F_clevisref07And R x k = k (andI x.1.1 x.1.2 x.2.1 x.2.2) := by
  obtain ⟨⟨(v : Int), (m : Int)⟩, (v' : Int), (m' : Int)⟩ := x
  simp only [F_clevisref07And, N_clevisref07And, W.wrap_u64, W.and_u64, W.or_u64, W.andNot_u64, B64_U]
  rfl
theorem rtOr_eq (x : PTs.D ps_clevisref07Or) (k : PTs.D qs_clevisref07Or → Option R) : F_clevisref07Or R x k = k (orI x.1.1 x.1.2 x.2.1 x.2.2) := by
  obtain ⟨⟨(v : Int), (m : Int)⟩, (v' : Int), (m' : Int)⟩ := x
  simp only [F_clevisref07Or, N_clevisref07Or, W.wrap_u64, W.and_u64, W.or_u64, W.andNot_u64, B64_U]
  rfl
theorem rtXor_eq (x : PTs.D ps_clevisref07Xor) (k : PTs.D qs_clevisref07Xor → Option R) : F_clevisref07Xor R x k = k (xorI x.1.1 x.1.2 x.2.1 x.2.2) := by
  obtain ⟨⟨(v : Int), (m : Int)⟩, (v' : Int), (m' : Int)⟩ := x
  simp only [F_clevisref07Xor, N_clevisref07Xor, F_clevisref07of, N_clevisref07of, W.wrap_u64, W.andNot_u64, W.or_u64, W.xor_u64, B64_U]
  rfl
/-- Shifts by less than 64. -/
noncomputable def shI (op v m k : Int) : Int × Int := (shf op v k true, shf op m k true)
theorem and63_i (k : Int) : W.wrap .i64 (W.and .i64 k 63) = k % 64 := by
  have : W.and .i64 k 63 = W.and .u64 k 63 := rfl
  rw [this, W.and_63, W.wi64_id (by omega) (by omega)]
theorem tShift_eq (op v m k : Int) (ho : op = 96 ∨ op = 112 ∨ op = 192) (kk : Int × Int → Option R) : F_tnum_Shift R (op, (v, m), k) kk = kk (shI op v m k) := by
  have h0 : W.lt (k % 64) 0 = false := by rw [W.lt_d]; simp; omega
  simp only [F_tnum_Shift, N_tnum_Shift, and63_i, h0, br_f, shI, shf, cnt, sar, if_true]
  rcases ho with e | e | e <;> subst e
  · rw [br_pos (W.eq_t.2 rfl)]; rfl
  · rw [br_neg (by decide), br_pos (W.eq_t.2 rfl)]; rfl
  · rw [br_neg (by decide), br_neg (by decide), br_pos (W.eq_t.2 rfl)]; rfl
theorem alu_sh {op x y : Int} (ho : op = 96 ∨ op = 112 ∨ op = 192) : (alu op x y true).1 = shf op x y true := by
  rcases ho with e | e | e <;> subst e <;> simp [alu, Eng.low]
theorem rtShift_eq (op v m k : Int) (ho : op = 96 ∨ op = 112 ∨ op = 192) (hv : p64 v) (hm : p64 m) (hk : 0 ≤ k ∧ k < 64) (kk : Int × Int → Option R) : F_clevisref07Shift R (op, (v, m), k) kk = kk (shI op v m k) := by
  have e1 : W.rem (W.wrap .u64 k) 64 = k := by
    rw [W.wu64_id (by omega) (by omega)]; unfold W.rem; rw [Int.tmod_eq_emod_of_nonneg hk.1]; omega
  have hk' : p64 k := by unfold p64; omega
  simp only [F_clevisref07Shift, N_clevisref07Shift, e1, ralu_eq (op, v, k, true) hv hk', ralu_eq (op, m, k, true) hm hk', alu_sh ho]
  rw [br_neg]
  · rfl
  · rw [Bool.eq_false_iff]; intro h
    simp only [W.pickf_t, W.ne_t] at h
    omega
/-! ### products -/
noncomputable def mulI (v m v' m' : Int) : Int × Int := uT (mulV (B64 v) (B64 m) (B64 v') (B64 m'))
theorem B64_pow {t : Nat} (ht : t < 64) : B64 (W.wrap .u64 (W.shl .u64 1 (t : Int))) = BitVec.twoPow 64 t := by
  rw [W.wrap_u64, B64_U]
  unfold W.shl
  have : min ((t : Int)).toNat IntKind.u64.bits = t := by simp [IntKind.bits]; omega
  rw [this, Int.one_mul]
  apply BitVec.eq_of_toNat_eq
  rw [BitVec.toNat_twoPow]
  have h1 := W.ofInt_nat (2 ^ t)
  have h2 : ((2 ^ t : Nat) : Int) = (2 : Int) ^ t := by simp
  rw [← h2] at h1 ⊢
  have h3 : (2 : Nat) ^ 64 = 18446744073709551616 := by decide
  rw [h3]
  have : ((BitVec.ofInt 64 ((2 ^ t : Nat) : Int)).toNat : Int) = ((2 ^ t % 18446744073709551616 : Nat) : Int) := by rw [h1]; omega
  exact Int.ofNat.inj this
theorem bit_test {a : Int} {t : Nat} (ht : t < 64) : W.gt (W.wrap .u64 (W.and .u64 a (W.wrap .u64 (W.shl .u64 1 (t : Int))))) 0 = (B64 a).getLsbD t := by
  rw [W.and_u64, B64_pow ht, W.wrap_u64, B64_U, BitVec.and_twoPow]
  cases h : (B64 a).getLsbD t with
  | false => rw [if_neg (by simp)]; rfl
  | true =>
    rw [if_pos rfl, W.gt_t]
    have : (BitVec.twoPow 64 t).toNat = 2 ^ t := by
      rw [BitVec.toNat_twoPow]; exact Nat.mod_eq_of_lt (Nat.pow_lt_pow_right (by omega) ht)
    show 0 < (((BitVec.twoPow 64 t).toNat : Nat) : Int)
    rw [this]
    have := Nat.two_pow_pos t
    omega
theorem sh96 {v : Int} {t : Nat} (ht : t < 64) : shf 96 v (t : Int) true = U (B64 v <<< t) := by
  simp only [shf, cnt, if_true]
  have e : ((t : Int) % 64) = (t : Int) := by omega
  rw [e, W.wrap_u64]
  congr 1
  unfold W.shl
  have : min ((t : Int)).toNat IntKind.u64.bits = t := by simp [IntKind.bits]; omega
  rw [this, BitVec.shiftLeft_eq_mul_twoPow]
  have h := W.B64_mul v (2 ^ t)
  unfold W.mul at h
  rw [h]
  congr 1
  have h2 := B64_pow ht
  rw [W.wrap_u64, B64_U] at h2
  rw [← h2]
  unfold W.shl
  rw [this, Int.one_mul]
theorem mul_loop {fl : Nat} {v m v' m' y6 y7 : Int} {N : Nat} (hN : N ≤ 64) {k : Int × Int → Option R} : ∀ (j e t : Nat), t + j = N →
    P_tnum_Mul_3_0 F_bits_Len64 F_tnum_Const F_tnum_Add F_tnum_Shift fl (e + j + 1) R (N : Int) (t : Int) v m v' m' y6 y7 (uT (mulQ (B64 v) (B64 m) (B64 v') (B64 m') t)).1 (uT (mulQ (B64 v) (B64 m) (B64 v') (B64 m') t)).2 k =
      k (uT (addV (B64 v * B64 v') 0#64 (mulQ (B64 v) (B64 m) (B64 v') (B64 m') N).1 (mulQ (B64 v) (B64 m) (B64 v') (B64 m') N).2))
  | 0, e, t, ht => by
    have : t = N := by omega
    subst this
    rw [P_tnum_Mul_3_0_s, br_neg (W.lt_irr _)]
    simp only [F_tnum_Const, N_tnum_Const, tAdd_eq, addI, uT, B64_U, W.wrap_u64, W.B64_mul]
    rfl
  | j + 1, e, t, ht => by
    rw [P_tnum_Mul_3_0_s, br_pos (W.lt_t.2 (by omega)), tShift_eq 96 v' m' (t : Int) (.inl rfl), br_neg (by rw [W.lt_d]; simp), bit_test (by omega), bit_test (by omega), W.succ64 (by omega)]
    simp only [shI, sh96 (show t < 64 by omega), tAdd_eq]
    have ih := mul_loop (fl := fl) (v := v) (m := m) (v' := v') (m' := m') (y6 := y6) (y7 := y7) hN (k := k) j e (t + 1) (by omega)
    have hs : mulQ (B64 v) (B64 m) (B64 v') (B64 m') (t + 1) = mulStep (B64 v) (B64 m) (B64 v') (B64 m') t (mulQ (B64 v) (B64 m) (B64 v') (B64 m') t) := rfl
    rw [hs] at ih
    unfold mulStep at ih
    cases h1 : (B64 v).getLsbD t with
    | true =>
      rw [br_t]
      rw [h1, if_pos rfl] at ih
      simp only [addI, uT, B64_U, B64_0] at ih ⊢
      exact ih
    | false =>
      rw [br_f]
      rw [h1, if_neg (by simp)] at ih
      cases h2 : (B64 m).getLsbD t with
      | true =>
        rw [br_t]
        rw [h2, if_pos rfl] at ih
        simp only [addI, uT, B64_U, B64_0, W.or_u64, W.wrap_u64] at ih ⊢
        exact ih
      | false =>
        rw [br_f]
        rw [h2, if_neg (by simp)] at ih
        exact ih
theorem tMul_eq (x : PTs.D ps_tnum_Mul) (k : PTs.D qs_tnum_Mul → Option R) : F_tnum_Mul R x k = k (mulI x.1.1 x.1.2 x.2.1 x.2.2) := by
  obtain ⟨⟨(v : Int), (m : Int)⟩, (v' : Int), (m' : Int)⟩ := x
  simp only [F_tnum_Mul, N_tnum_Mul]
  have e1 : W.wrap .u64 (W.or .u64 v m) = (((B64 v ||| B64 m).toNat : Nat) : Int) := by rw [W.or_u64, W.wrap_u64, B64_U]; rfl
  have hb : blen (B64 v ||| B64 m).toNat ≤ 64 := blen_le (B64 v ||| B64 m).isLt
  rw [e1, Len64_eq (B64 v ||| B64 m).isLt]
  have := mul_loop (R := R) (fl := W.big) (v := v) (m := m) (v' := v') (m' := m') (y6 := 0) (y7 := 0) hb (k := k) (blen (B64 v ||| B64 m).toNat) (W.big - blen (B64 v ||| B64 m).toNat - 1) 0 (by omega)
  rw [show W.big - blen (B64 v ||| B64 m).toNat - 1 + blen (B64 v ||| B64 m).toNat + 1 = W.big by unfold W.big; omega] at this
  refine this.trans ?_
  congr 1
  unfold mulI mulV
  have hs := mulQ_stop (b := B64 v') (bm := B64 m') (blen_lt (B64 v ||| B64 m).toNat) (64 - blen (B64 v ||| B64 m).toNat)
  rw [show blen (B64 v ||| B64 m).toNat + (64 - blen (B64 v ||| B64 m).toNat) = 64 by omega] at hs
  rw [hs]
end Go.Proofs.Ytomdfcjnmogcbaa
