import Derived.Test.YtomdfcjnmogcbaaLawD
set_option linter.unusedVariables false
set_option linter.unusedSimpArgs false
set_option maxHeartbeats 4000000
set_option maxRecDepth 100000
namespace Go.Proofs.Ytomdfcjnmogcbaa
open Go Go.Eng
variable {R : Type}
noncomputable def ofB (t : Int × Int) : Bd := (0, 18446744073709551615, -9223372036854775808, 9223372036854775807, t.1, t.2)
open Classical in
noncomputable def addB (a b : Bd) : Bd :=
  (if a.2.1 + b.2.1 ≤ 18446744073709551615 then W.wrap .u64 (W.add a.1 b.1) else 0, if a.2.1 + b.2.1 ≤ 18446744073709551615 then W.wrap .u64 (W.add a.2.1 b.2.1) else 18446744073709551615,
    if fitP (a.2.2.1 + b.2.2.1) ∧ fitP (a.2.2.2.1 + b.2.2.2.1) then W.wrap .i64 (W.add a.2.2.1 b.2.2.1) else -9223372036854775808, if fitP (a.2.2.1 + b.2.2.1) ∧ fitP (a.2.2.2.1 + b.2.2.2.1) then W.wrap .i64 (W.add a.2.2.2.1 b.2.2.2.1) else 9223372036854775807,
    addI a.2.2.2.2.1 a.2.2.2.2.2 b.2.2.2.2.1 b.2.2.2.2.2)
open Classical in
noncomputable def diffB (a b : Bd) : Bd :=
  (if b.2.1 ≤ a.1 then W.wrap .u64 (W.sub a.1 b.2.1) else 0, if b.2.1 ≤ a.1 then W.wrap .u64 (W.sub a.2.1 b.1) else 18446744073709551615,
    if fitP (a.2.2.1 - b.2.2.2.1) ∧ fitP (a.2.2.2.1 - b.2.2.1) then W.wrap .i64 (W.sub a.2.2.1 b.2.2.2.1) else -9223372036854775808, if fitP (a.2.2.1 - b.2.2.2.1) ∧ fitP (a.2.2.2.1 - b.2.2.1) then W.wrap .i64 (W.sub a.2.2.2.1 b.2.2.1) else 9223372036854775807,
    subI a.2.2.2.2.1 a.2.2.2.2.2 b.2.2.2.2.1 b.2.2.2.2.2)
theorem of_eq (t : PTs.D ps_arith_of) (k : Bd → Option R) : F_arith_of R t k = k (ofB t) := by
  obtain ⟨(v : Int), (m : Int)⟩ := t
  simp only [F_arith_of, N_arith_of, F_bound_Any, N_bound_Any, F_tnum_Any, N_tnum_Any]; rfl
theorem any9_eq (k : Bd → Option R) : F_bound_Any R () k = k anyB := by
  simp only [F_bound_Any, N_bound_Any, F_tnum_Any, N_tnum_Any]; rfl
theorem rany9_eq (k : Bd → Option R) : F_clevisref08Any R () k = k anyB := by
  simp only [F_clevisref08Any, N_clevisref08Any, F_clevisref07Any, N_clevisref07Any]; rfl
open Classical in
theorem pAdd_eq (x : PTs.D ps_arith_pair_add) (wa : wfB x.1) (wb : wfB x.2) (k : Bd → Option R) : F_arith_pair_add R x k = k (addB x.1 x.2) := by
  obtain ⟨⟨(a1 : Int), (a2 : Int), (a3 : Int), (a4 : Int), (a5 : Int), (a6 : Int)⟩, ⟨(b1 : Int), (b2 : Int), (b3 : Int), (b4 : Int), (b5 : Int), (b6 : Int)⟩⟩ := x
  obtain ⟨u1, u2, u3, u4, u5, u6⟩ := wa
  obtain ⟨t1, t2, t3, t4, t5, t6⟩ := wb
  have p2 := u64_lo u2
  have q2 := u64_lo t2
  simp only at p2 q2
  have c1 := carries_eq (R := R) a3 b3 u3 t3
  have c2 := carries_eq (R := R) a4 b4 u4 t4
  have hg : W.ge (W.wrap .u64 (W.add a2 b2)) a2 = decide (a2 + b2 ≤ 18446744073709551615) := by
    rw [W.ge_d, W.add_eq, W.wu64]; apply decide_eq_decide.2; omega
  simp only [F_arith_pair_add, N_arith_pair_add, tAdd_eq, of_eq, c1, c2, hg, addB, ofB, W.not_eq, br_d, W.pick_tf]
  by_cases h1 : a2 + b2 ≤ 18446744073709551615 <;> by_cases h2 : fitP (a3 + b3) <;> by_cases h3 : fitP (a4 + b4) <;> simp [h1, h2, h3, br_t, br_f]
open Classical in
theorem rAdd9_eq (x : PTs.D ps_clevisref09add) (wa : wfB x.1) (wb : wfB x.2) (k : Bd → Option R) : F_clevisref09add R x k = k (addB x.1 x.2) := by
  obtain ⟨⟨(a1 : Int), (a2 : Int), (a3 : Int), (a4 : Int), (a5 : Int), (a6 : Int)⟩, ⟨(b1 : Int), (b2 : Int), (b3 : Int), (b4 : Int), (b5 : Int), (b6 : Int)⟩⟩ := x
  obtain ⟨u1, u2, u3, u4, u5, u6⟩ := wa
  obtain ⟨t1, t2, t3, t4, t5, t6⟩ := wb
  have p2 := u64_lo u2
  have q2 := u64_lo t2
  simp only at p2 q2
  have c1 := fits_eq (R := R) a3 b3 u3 t3
  have c2 := fits_eq (R := R) a4 b4 u4 t4
  have hg : W.le a2 (W.wrap .u64 (W.sub 18446744073709551615 b2)) = decide (a2 + b2 ≤ 18446744073709551615) := by
    rw [W.le_d, W.sub_eq, W.wu64]; apply decide_eq_decide.2; omega
  simp only [F_clevisref09add, N_clevisref09add, rtAdd_eq, rany9_eq, c1, c2, hg, addB, W.not_eq, br_d, W.pick_tf]
  by_cases h1 : a2 + b2 ≤ 18446744073709551615 <;> by_cases h2 : fitP (a3 + b3) <;> by_cases h3 : fitP (a4 + b4) <;> simp [h1, h2, h3, br_t, br_f, anyB]
open Classical in
theorem pSub_eq (x : PTs.D ps_arith_pair_sub) (wa : wfB x.1) (wb : wfB x.2) (k : Bd → Option R) : F_arith_pair_sub R x k = k (diffB x.1 x.2) := by
  obtain ⟨⟨(a1 : Int), (a2 : Int), (a3 : Int), (a4 : Int), (a5 : Int), (a6 : Int)⟩, ⟨(b1 : Int), (b2 : Int), (b3 : Int), (b4 : Int), (b5 : Int), (b6 : Int)⟩⟩ := x
  obtain ⟨u1, u2, u3, u4, u5, u6⟩ := wa
  obtain ⟨t1, t2, t3, t4, t5, t6⟩ := wb
  have c1 := borrows_eq (R := R) a3 b4 u3 t4
  have c2 := borrows_eq (R := R) a4 b3 u4 t3
  simp only [F_arith_pair_sub, N_arith_pair_sub, tSub_eq, of_eq, c1, c2, W.le_d, diffB, ofB, W.not_eq, br_d, W.pick_tf]
  by_cases h1 : b2 ≤ a1 <;> by_cases h2 : fitP (a3 - b4) <;> by_cases h3 : fitP (a4 - b3) <;> simp [h1, h2, h3, br_t, br_f]
open Classical in
theorem rSub9_eq (x : PTs.D ps_clevisref09sub) (wa : wfB x.1) (wb : wfB x.2) (k : Bd → Option R) : F_clevisref09sub R x k = k (diffB x.1 x.2) := by
  obtain ⟨⟨(a1 : Int), (a2 : Int), (a3 : Int), (a4 : Int), (a5 : Int), (a6 : Int)⟩, ⟨(b1 : Int), (b2 : Int), (b3 : Int), (b4 : Int), (b5 : Int), (b6 : Int)⟩⟩ := x
  obtain ⟨u1, u2, u3, u4, u5, u6⟩ := wa
  obtain ⟨t1, t2, t3, t4, t5, t6⟩ := wb
  have c1 := less9_eq (R := R) a3 b4 u3 t4
  have c2 := less9_eq (R := R) a4 b3 u4 t3
  simp only [F_clevisref09sub, N_clevisref09sub, rtSub_eq, rany9_eq, c1, c2, W.ge_d, diffB, W.not_eq, br_d, W.pick_tf]
  by_cases h1 : b2 ≤ a1 <;> by_cases h2 : fitP (a3 - b4) <;> by_cases h3 : fitP (a4 - b3) <;> simp [h1, h2, h3, br_t, br_f, anyB]
theorem wf_const {x : Int} (h : p64 x) : wfB (constB x) := ⟨wfI_q h, wfI_q h, wf_I _, wf_I _, wfI_q h, rfl⟩
theorem pNeg_eq (x : PTs.D ps_arith_pair_neg) (wa : wfB x.1) (k : Bd → Option R) : F_arith_pair_neg R x k = k (diffB (constB 0) x.1) := by
  obtain ⟨⟨(a1 : Int), (a2 : Int), (a3 : Int), (a4 : Int), (a5 : Int), (a6 : Int)⟩, ⟨(b1 : Int), (b2 : Int), (b3 : Int), (b4 : Int), (b5 : Int), (b6 : Int)⟩⟩ := x
  have := pSub_eq (R := R) (constB 0, (a1, a2, a3, a4, a5, a6)) (wf_const ⟨by decide, by decide⟩) wa
  simp only [F_arith_pair_neg, N_arith_pair_neg, Const_eq, eta6', this]
theorem pMov_eq (x : PTs.D ps_arith_pair_mov) (k : Bd → Option R) : F_arith_pair_mov R x k = k x.2 := by
  obtain ⟨⟨(a1 : Int), (a2 : Int), (a3 : Int), (a4 : Int), (a5 : Int), (a6 : Int)⟩, ⟨(b1 : Int), (b2 : Int), (b3 : Int), (b4 : Int), (b5 : Int), (b6 : Int)⟩⟩ := x
  simp only [F_arith_pair_mov, N_arith_pair_mov]
noncomputable def mulB (a b : Bd) : Bd :=
  (if a.2.1 ≤ 4294967295 ∧ b.2.1 ≤ 4294967295 then W.wrap .u64 (W.mul a.1 b.1) else 0, if a.2.1 ≤ 4294967295 ∧ b.2.1 ≤ 4294967295 then W.wrap .u64 (W.mul a.2.1 b.2.1) else 18446744073709551615,
    -9223372036854775808, 9223372036854775807, mulI a.2.2.2.2.1 a.2.2.2.2.2 b.2.2.2.2.1 b.2.2.2.2.2)
theorem pMul_eq (x : PTs.D ps_arith_pair_mul) (k : Bd → Option R) : F_arith_pair_mul R x k = k (mulB x.1 x.2) := by
  obtain ⟨⟨(a1 : Int), (a2 : Int), (a3 : Int), (a4 : Int), (a5 : Int), (a6 : Int)⟩, ⟨(b1 : Int), (b2 : Int), (b3 : Int), (b4 : Int), (b5 : Int), (b6 : Int)⟩⟩ := x
  have hm : W.le (W.max a2 b2) 4294967295 = decide (a2 ≤ 4294967295 ∧ b2 ≤ 4294967295) := by
    rw [W.le_d]; apply decide_eq_decide.2; unfold W.max; split <;> omega
  simp only [F_arith_pair_mul, N_arith_pair_mul, tMul_eq, of_eq, hm, br_d, mulB, ofB]
  by_cases h : a2 ≤ 4294967295 ∧ b2 ≤ 4294967295 <;> simp [h]
noncomputable def uptoB (x : Int) : Bd := (0, x, -9223372036854775808, 9223372036854775807, 0, 18446744073709551615)
noncomputable def divB (a b : Bd) : Bd := if b.1 = b.2.1 ∧ 0 < b.1 then (W.wrap .u64 (W.quo a.1 b.1), W.wrap .u64 (W.quo a.2.1 b.1), -9223372036854775808, 9223372036854775807, 0, 18446744073709551615) else uptoB a.2.1
noncomputable def modB (a b : Bd) : Bd := if 0 < b.1 then uptoB (W.min a.2.1 (W.wrap .u64 (W.sub b.2.1 1))) else uptoB a.2.1
theorem pUpto_eq (x : PTs.D ps_arith_upto) (k : Bd → Option R) : F_arith_upto R x k = k (uptoB x) := by
  simp only [F_arith_upto, N_arith_upto, any9_eq]; rfl
theorem pDiv_eq (x : PTs.D ps_arith_pair_div) (k : Bd → Option R) : F_arith_pair_div R x k = k (divB x.1 x.2) := by
  obtain ⟨⟨(a1 : Int), (a2 : Int), (a3 : Int), (a4 : Int), (a5 : Int), (a6 : Int)⟩, ⟨(b1 : Int), (b2 : Int), (b3 : Int), (b4 : Int), (b5 : Int), (b6 : Int)⟩⟩ := x
  simp only [F_arith_pair_div, N_arith_pair_div, pUpto_eq, Value_eq, divB]
  by_cases h1 : b1 = b2
  · subst h1
    by_cases h2 : 0 < b1
    · have h3 : ¬ b1 = 0 := by omega
      simp [h2, W.pick, W.gt_d, br_t, br_f, W.eq_d, h3, uptoB]
    · simp [h2, W.pick, W.gt_d, br_t, br_f, uptoB]
  · simp [h1, W.pick, br_f, uptoB]
theorem pMod_eq (x : PTs.D ps_arith_pair_mod) (k : Bd → Option R) : F_arith_pair_mod R x k = k (modB x.1 x.2) := by
  obtain ⟨⟨(a1 : Int), (a2 : Int), (a3 : Int), (a4 : Int), (a5 : Int), (a6 : Int)⟩, ⟨(b1 : Int), (b2 : Int), (b3 : Int), (b4 : Int), (b5 : Int), (b6 : Int)⟩⟩ := x
  simp only [F_arith_pair_mod, N_arith_pair_mod, pUpto_eq, W.gt_d, br_d, modB]
  by_cases h : 0 < b1 <;> simp [h, uptoB]
noncomputable def andB (a b : Bd) : Bd := (0, W.min a.2.1 b.2.1, -9223372036854775808, 9223372036854775807, andI a.2.2.2.2.1 a.2.2.2.2.2 b.2.2.2.2.1 b.2.2.2.2.2)
noncomputable def orB (a b : Bd) : Bd := (W.max a.1 b.1, 18446744073709551615, -9223372036854775808, 9223372036854775807, orI a.2.2.2.2.1 a.2.2.2.2.2 b.2.2.2.2.1 b.2.2.2.2.2)
noncomputable def xorB (a b : Bd) : Bd := ofB (xorI a.2.2.2.2.1 a.2.2.2.2.2 b.2.2.2.2.1 b.2.2.2.2.2)
theorem pAnd_eq (x : PTs.D ps_arith_pair_and) (k : Bd → Option R) : F_arith_pair_and R x k = k (andB x.1 x.2) := by
  obtain ⟨⟨(a1 : Int), (a2 : Int), (a3 : Int), (a4 : Int), (a5 : Int), (a6 : Int)⟩, ⟨(b1 : Int), (b2 : Int), (b3 : Int), (b4 : Int), (b5 : Int), (b6 : Int)⟩⟩ := x
  simp only [F_arith_pair_and, N_arith_pair_and, tAnd_eq, of_eq]; rfl
theorem pOr_eq (x : PTs.D ps_arith_pair_or) (k : Bd → Option R) : F_arith_pair_or R x k = k (orB x.1 x.2) := by
  obtain ⟨⟨(a1 : Int), (a2 : Int), (a3 : Int), (a4 : Int), (a5 : Int), (a6 : Int)⟩, ⟨(b1 : Int), (b2 : Int), (b3 : Int), (b4 : Int), (b5 : Int), (b6 : Int)⟩⟩ := x
  simp only [F_arith_pair_or, N_arith_pair_or, tOr_eq, of_eq]; rfl
theorem pXor_eq (x : PTs.D ps_arith_pair_xor) (k : Bd → Option R) : F_arith_pair_xor R x k = k (xorB x.1 x.2) := by
  obtain ⟨⟨(a1 : Int), (a2 : Int), (a3 : Int), (a4 : Int), (a5 : Int), (a6 : Int)⟩, ⟨(b1 : Int), (b2 : Int), (b3 : Int), (b4 : Int), (b5 : Int), (b6 : Int)⟩⟩ := x
  simp only [F_arith_pair_xor, N_arith_pair_xor, tXor_eq, of_eq]; rfl
end Go.Proofs.Ytomdfcjnmogcbaa
