import Derived.Test.YtomdfcjnmogcbaaLawI
set_option linter.unusedVariables false
set_option linter.unusedSimpArgs false
set_option maxHeartbeats 4000000
set_option maxRecDepth 100000
namespace Go.Proofs.Ytomdfcjnmogcbaa
open Go Go.Eng
variable {R : Type}
/-! ### the known bits of each operation are whole -/
noncomputable def okB (b : Bd) : Prop := wfB b ∧ chkT b
theorem chkT_of {p q r s : Int} {t : Int × Int} {v m : BitVec 64} (h : v &&& m = 0#64) (e1 : t.1 = U v) (e2 : t.2 = U m) : chkT (p, q, r, s, t.1, t.2) := by
  show t.1 = U (B64 t.1 &&& ~~~(B64 t.2))
  rw [e1, e2, B64_U, B64_U]
  rw [U_inj]
  apply BitVec.eq_of_getLsbD_eq; intro i hi
  have h2 := congrArg (fun z => z.getLsbD i) h
  simp only [BitVec.getLsbD_and, BitVec.getLsbD_not, BitVec.getLsbD_zero, decide_eq_true hi, Bool.true_and] at h2 ⊢
  revert h2; cases v.getLsbD i <;> cases m.getLsbD i <;> simp
theorem and_ok {v m v' m' : BitVec 64} : okT (v &&& v') (((v ||| m) &&& (v' ||| m')) &&& ~~~(v &&& v')) := by
  unfold okT; rw [bb]; intro i hi
  simp only [BitVec.getLsbD_and, BitVec.getLsbD_or, BitVec.getLsbD_not, BitVec.getLsbD_zero, decide_eq_true hi, Bool.true_and]
  cases v.getLsbD i <;> cases m.getLsbD i <;> cases v'.getLsbD i <;> cases m'.getLsbD i <;> rfl
theorem or_ok {v m v' m' : BitVec 64} : okT (v ||| v') ((m ||| m') &&& ~~~(v ||| v')) := by
  unfold okT; rw [bb]; intro i hi
  simp only [BitVec.getLsbD_and, BitVec.getLsbD_or, BitVec.getLsbD_not, BitVec.getLsbD_zero, decide_eq_true hi, Bool.true_and]
  cases v.getLsbD i <;> cases m.getLsbD i <;> cases v'.getLsbD i <;> cases m'.getLsbD i <;> rfl
theorem xor_ok {v m v' m' : BitVec 64} : okT ((v ^^^ v') &&& ~~~(m ||| m')) (m ||| m') := by
  unfold okT; rw [bb]; intro i hi
  simp only [BitVec.getLsbD_and, BitVec.getLsbD_or, BitVec.getLsbD_xor, BitVec.getLsbD_not, BitVec.getLsbD_zero, decide_eq_true hi, Bool.true_and]
  cases v.getLsbD i <;> cases m.getLsbD i <;> cases v'.getLsbD i <;> cases m'.getLsbD i <;> rfl
theorem shl_ok {v m : BitVec 64} (t : Nat) (h : okT v m) : okT (v <<< t) (m <<< t) := by
  unfold okT at *; rw [bb] at *; intro i hi
  simp only [BitVec.getLsbD_and, BitVec.getLsbD_shiftLeft, BitVec.getLsbD_zero]
  by_cases h2 : i < t
  · simp [h2]
  · have := h (i - t) (by omega)
    simp only [BitVec.getLsbD_and, BitVec.getLsbD_zero] at this
    revert this; cases v.getLsbD (i - t) <;> cases m.getLsbD (i - t) <;> simp
theorem shr_ok {v m : BitVec 64} (t : Nat) (h : okT v m) : okT (v >>> t) (m >>> t) := by
  unfold okT at *; rw [bb] at *; intro i hi
  simp only [BitVec.getLsbD_and, BitVec.getLsbD_ushiftRight, BitVec.getLsbD_zero]
  by_cases h2 : t + i < 64
  · have := h (t + i) h2
    simpa only [BitVec.getLsbD_and, BitVec.getLsbD_zero] using this
  · rw [BitVec.getLsbD_of_ge v _ (by omega)]; rfl
theorem sar_ok {v m : BitVec 64} (t : Nat) (h : okT v m) : okT (v.sshiftRight t) (m.sshiftRight t) := by
  unfold okT at *; rw [bb] at *; intro i hi
  simp only [BitVec.getLsbD_and, BitVec.getLsbD_sshiftRight, BitVec.getLsbD_zero]
  have hi' : ¬ 64 ≤ i := by omega
  by_cases h2 : t + i < 64
  · have := h (t + i) h2
    simp only [BitVec.getLsbD_and, BitVec.getLsbD_zero] at this
    simp only [h2, hi', if_true, decide_false, Bool.not_false, Bool.true_and]
    exact this
  · have := h 63 (by omega)
    simp only [BitVec.getLsbD_and, BitVec.getLsbD_zero] at this
    simp only [h2, hi', decide_false, if_false, Bool.not_false, Bool.true_and, BitVec.msb_eq_getLsbD_last]
    simpa using this
theorem sh112 {v : Int} (hv : p64 v) {t : Nat} (ht : t < 64) : shf 112 v (t : Int) true = U (B64 v >>> t) := by
  have e : ((t : Int) % 64) = (t : Int) := by omega
  simp only [shf, cnt, if_true, if_neg (show ¬ (112 : Int) = 96 by decide), e, shr_u (show t ≤ 64 by omega)]
  have h1 := U_B64 (wfI_q hv)
  unfold U at h1 ⊢
  rw [BitVec.toNat_ushiftRight, Nat.shiftRight_eq_div_pow, Int.natCast_ediv, h1]
  simp
theorem sh192 {v : Int} {t : Nat} (ht : t < 64) : shf 192 v (t : Int) true = U ((B64 v).sshiftRight t) := by
  have e : ((t : Int) % 64) = (t : Int) := by omega
  simp only [shf, sar, cnt, if_true, if_neg (show ¬ (192 : Int) = 96 by decide), if_neg (show ¬ (192 : Int) = 112 by decide), e]
  rw [W.wrap_u64, W.wrap_i64]
  congr 1
  unfold W.shr BitVec.sshiftRight
  have : min ((t : Int)).toNat IntKind.i64.bits = t := by simp [IntKind.bits]; omega
  rw [this, Int.fdiv_eq_ediv_of_nonneg _ (Int.pow_nonneg (by omega)), Int.shiftRight_eq_div_pow]
  unfold B64 I
  simp
theorem wf_w (z : Int) : wfI .u64 (W.wrap .u64 z) := by rw [W.wrap_u64]; exact wf_U _
theorem wf_wi (z : Int) : wfI .i64 (W.wrap .i64 z) := by rw [W.wrap_i64]; exact wf_I _
theorem wf_if {k : IntKind} {p : Prop} {i : Decidable p} {x y : Int} (h1 : wfI k x) (h2 : wfI k y) : wfI k (@ite _ p i x y) := by split <;> assumption
theorem wf_min {x y : Int} (h1 : wfI .u64 x) (h2 : wfI .u64 y) : wfI .u64 (W.min x y) := by unfold W.min; split <;> assumption
theorem wf_max {x y : Int} (h1 : wfI .u64 x) (h2 : wfI .u64 y) : wfI .u64 (W.max x y) := by unfold W.max; split <;> assumption
theorem chk_free : (0 : Int) = U (B64 0 &&& ~~~(B64 18446744073709551615)) := by decide
theorem ok_upto {x : Int} (h : wfI .u64 x) : okB (uptoB x) := ⟨⟨rfl, h, rfl, rfl, rfl, rfl⟩, chk_free⟩
theorem ok_any : okB anyB := ⟨wf_any, by unfold anyB chkT; decide⟩
theorem ok_zip {p q r s : Int} {t : Int × Int} {v m : BitVec 64} (h1 : wfI .u64 p) (h2 : wfI .u64 q) (h3 : wfI .i64 r) (h4 : wfI .i64 s) (h : okT v m) (e : t = (U v, U m)) : okB (p, q, r, s, t) := by
  subst e
  exact ⟨⟨h1, h2, h3, h4, wf_U _, wf_U _⟩, chkT_of (t := (U v, U m)) h rfl rfl⟩
theorem bit_ok {a : Bd} (h : chkP a) : okT (B64 a.2.2.2.2.1) (B64 a.2.2.2.2.2) := chk_zero h.2.2
theorem sh_nat (x : Int) : ∃ n : Nat, x % 64 = (n : Int) ∧ n < 64 := ⟨(x % 64).toNat, by omega, by omega⟩
open Classical in
theorem ok_diff {a b : Bd} : okB (diffB a b) := by
  unfold diffB
  exact ok_zip (wf_if (wf_w _) rfl) (wf_if (wf_w _) rfl) (wf_if (wf_wi _) rfl) (wf_if (wf_wi _) rfl) (sub_ok _ _ _ _) rfl
theorem op_ok {op : Int} {a b : Bd} (ho : isA op) (wa : wfB a) (wb : wfB b) (ca : chkP a) (cb : chkP b) : okB (opB op a b) := by
  have ka := bit_ok ca
  have kb := bit_ok cb
  rcases ho with h | h | h | h | h | h | h | h | h | h | h | h | h <;> subst h
  · rw [opB_add]; unfold addB
    exact ok_zip (wf_if (wf_w _) rfl) (wf_if (wf_w _) rfl) (wf_if (wf_wi _) rfl) (wf_if (wf_wi _) rfl) (add_ok _ _ _ _) rfl
  · rw [opB_sub]; exact ok_diff
  · rw [opB_neg]; exact ok_diff
  · rw [opB_mov]; exact ⟨wb, cb.2.2⟩
  · rw [opB_mul]; unfold mulB
    exact ok_zip (wf_if (wf_w _) rfl) (wf_if (wf_w _) rfl) rfl rfl (mulV_ok _ _ _ _) rfl
  · rw [opB_div]; unfold divB; split
    · exact ⟨⟨wf_w _, wf_w _, rfl, rfl, rfl, rfl⟩, chk_free⟩
    · exact ok_upto wa.2.1
  · rw [opB_mod]; unfold modB; split
    · exact ok_upto (wf_min wa.2.1 (wf_w _))
    · exact ok_upto wa.2.1
  · rw [opB_and]; unfold andB
    exact ok_zip rfl (wf_min wa.2.1 wb.2.1) rfl rfl and_ok rfl
  · rw [opB_or]; unfold orB
    exact ok_zip (wf_max wa.1 wb.1) rfl rfl rfl or_ok rfl
  · rw [opB_xor]; unfold xorB ofB
    exact ok_zip rfl rfl rfl rfl xor_ok rfl
  · rw [opB_lsh]; unfold lshB; split
    · obtain ⟨n, hn, h64⟩ := sh_nat b.1
      rw [hn]
      have e1 := sh96 (v := a.1) h64
      have e2 := sh96 (v := a.2.1) h64
      rw [e1, e2]
      exact ok_zip (wf_if (wf_U _) rfl) (wf_if (wf_U _) rfl) rfl rfl (shl_ok n ka) (by unfold shI; rw [sh96 h64, sh96 h64])
    · exact ok_any
  · rw [opB_rsh]; unfold rshB; split
    · obtain ⟨n, hn, h64⟩ := sh_nat b.1
      rw [hn, sh112 (u64_lo wa.1) h64, sh112 (u64_lo wa.2.1) h64]
      exact ok_zip (wf_U _) (wf_U _) rfl rfl (shr_ok n ka) (by unfold shI; rw [sh112 (u64_lo wa.2.2.2.2.1) h64, sh112 (u64_lo wa.2.2.2.2.2) h64])
    · exact ok_upto wa.2.1
  · rw [opB_arsh]; unfold arshB; split
    · obtain ⟨n, hn, h64⟩ := sh_nat b.1
      rw [hn]
      have q : ∀ {x : Int}, wfI .i64 x → wfI .i64 (W.shr .i64 x (n : Int)) := by
        intro x hx
        have h3 := i64_lo hx
        unfold W.shr
        have : min ((n : Int)).toNat IntKind.i64.bits = n := by simp [IntKind.bits]; omega
        rw [this, Int.fdiv_eq_ediv_of_nonneg _ (Int.pow_nonneg (by omega))]
        have hp : (0 : Int) < 2 ^ n := Int.pow_pos (by omega)
        have h1 : -9223372036854775808 ≤ x / 2 ^ n := by
          rw [Int.le_ediv_iff_mul_le hp]
          have : (9223372036854775808 : Int) * 1 ≤ 9223372036854775808 * 2 ^ n := Int.mul_le_mul_of_nonneg_left (by omega) (by omega)
          omega
        have h2 : x / 2 ^ n < 9223372036854775808 := by
          rw [Int.ediv_lt_iff_lt_mul hp]
          have : (9223372036854775808 : Int) * 1 ≤ 9223372036854775808 * 2 ^ n := Int.mul_le_mul_of_nonneg_left (by omega) (by omega)
          omega
        rw [wfI_iff]; simp [IntKind.min, IntKind.max, IntKind.signed, IntKind.bits]; omega
      exact ok_zip rfl rfl (q wa.2.2.1) (q wa.2.2.2.1) (sar_ok n ka) (by unfold shI; rw [sh192 h64, sh192 h64])
    · exact ok_any
/-- What tidying leaves is right. -/
theorem tidy9_ok {b : Bd} (h : okB b) : wfB (tidy9 b) ∧ chkP (tidy9 b) := by
  unfold tidy9
  cases e : tidyB b with
  | none => exact ⟨wf_any, by unfold anyB chkP; decide⟩
  | some c => have := tidy_some h.1 h.2 e; exact ⟨this.1, this.2.1⟩
theorem ok_of {b : Bd} (h : wfB b ∧ chkP b) : okB b := ⟨h.1, h.2.2.2⟩
theorem whole_ok : wfB wholeB ∧ chkP wholeB := by
  unfold wholeB; exact ⟨⟨by rfl, by rfl, by rfl, by rfl, by rfl, by rfl⟩, by unfold chkP; decide⟩
theorem const_chk {x : Int} (h : wfI .u64 x) : chkP (constB x) := by
  refine ⟨Int.le_refl _, Int.le_refl _, ?_⟩
  simp only [constB]
  rw [B64_0, and_n0, U_B64 h]
theorem isA_112 : isA 112 := by unfold isA; simp
theorem nar_ok {op : Int} {a b : Bd} (ho : isA op) (wa : wfB a) (wb : wfB b) (ca : chkP a) (cb : chkP b) : wfB (nar9 op a b) ∧ chkP (nar9 op a b) := by
  have la := low_wf wa ca
  have lb := low_wf wb cb
  unfold nar9
  split
  · split
    · exact whole_ok
    · have hc : wfB (cntB (lowB b)) ∧ chkP (cntB (lowB b)) := by
        refine ⟨wf_cnt lb.1, ?_⟩
        unfold cntB; split
        · have := u64_lo lb.1.1
          exact const_chk (wfI_q ⟨by omega, by omega⟩)
        · exact lb.2
      have ho2 : isA (if op = 192 then 112 else op) := by split; exact isA_112; exact ho
      have := tidy9_ok (op_ok ho2 la.1 hc.1 la.2 hc.2)
      exact low_wf this.1 this.2
  · have := tidy9_ok (op_ok ho la.1 lb.1 la.2 lb.2)
    exact low_wf this.1 this.2
theorem any_ok : wfB anyB ∧ chkP anyB := ⟨wf_any, by unfold anyB chkP; decide⟩
theorem alu9_ok {op : Int} {a b : Bd} {w : Bool} (wa : wfB a) (wb : wfB b) : wfB (alu9 op a b w).1 ∧ chkP (alu9 op a b w).1 := by
  unfold alu9
  split
  · exact any_ok
  · rename_i h
    have ho : isA op := Classical.not_not.1 h
    split
    · exact any_ok
    · rename_i h2
      have h2 := Classical.not_not.1 h2
      split
      · exact tidy9_ok (op_ok ho wa wb h2.1 h2.2)
      · exact tidy9_ok (ok_of (nar_ok ho wa wb h2.1 h2.2))
end Go.Proofs.Ytomdfcjnmogcbaa
