import Derived.Test.YtkgoajomlglkcaaFns
import Derived.Test.YtkgoajomlglkcaaWordPure
import Derived.Test.YtkgoajomlglkcaaMemPure
import Derived.Test.YtkgoajomlglkcaaEnwLoops
set_option linter.unusedVariables false
set_option linter.unusedSimpArgs false
set_option maxHeartbeats 4000000
set_option maxRecDepth 100000
namespace Go.Proofs.Ytkgoajomlglkcaa
open Go Go.Eng
variable {R : Type}
theorem rsize_eq (n : Int) (k : Bool → Option R) : F_clevisref01Size R n k = k (sz n) := by
  simp only [F_clevisref01Size, N_clevisref01Size]
  congr 1
  rw [Bool.eq_iff_iff]
  simp only [W.picko_t, W.eq_t, sz, decide_eq_true_eq]
  omega
theorem rget_loop {fl : Nat} {l : List Int} (h : BtOk l) {k : Int → Option R} : ∀ (m e t : Nat), t + m = 8 → P_clevisref01Get_3_0 fl (e + m + 1) R l (vs l t) (t : Int) k = k (vs l 8)
  | 0, e, t, ht => by
    rw [P_clevisref01Get_3_0_s]
    have : t = 8 := by omega
    subst this
    simp [br_ite, W.lt_t, W.pickf_t]
  | m + 1, e, t, ht => by
    rw [P_clevisref01Get_3_0_s]
    by_cases hc : t < l.length
    · have hb := h t
      have hl := vs_lt h t
      have c1 : (t : Int) < W.ofNat (W.len l) := by unfold W.ofNat W.len; omega
      have c2 : (t : Int) < 8 := by omega
      have c3 : (0 : Int) ≤ t := by omega
      have e1 : W.wrap .u64 (W.wrap .i64 (W.mul 8 (t : Int))) = ((8 * t : Nat) : Int) := by
        unfold W.mul; rw [W.wi64_id (by omega) (by omega), W.wu64_id (by omega) (by omega)]; omega
      have e2 : W.wrap .i64 (W.add (t : Int) 1) = ((t + 1 : Nat) : Int) := by unfold W.add; rw [W.wi64_id (by omega) (by omega)]; omega
      have e3 : W.toNat (t : Int) = t := by simp [W.toNat]
      have e4 : W.get l t (0 : Int) = bt l t := rfl
      have hp : (256 : Int) ^ t ≤ 256 ^ 7 := by
        have := Nat.pow_le_pow_right (n := 256) (by omega) (show t ≤ 7 by omega)
        have e1 : ((256 ^ t : Nat) : Int) = (256 : Int) ^ t := by simp
        have e2 : ((256 ^ 7 : Nat) : Int) = (256 : Int) ^ 7 := by simp
        omega
      have hp7 : (256 : Int) ^ 7 = 72057594037927936 := by decide
      have hp0 : (0 : Int) < 256 ^ t := Int.pow_pos (by omega)
      have hpp : (2 : Int) ^ (8 * t) = 256 ^ t := by rw [Int.pow_mul]; rfl
      have h4 : 0 ≤ bt l t * 256 ^ t := Int.mul_nonneg hb.1 (by omega)
      have h5 : bt l t * 256 ^ t ≤ 255 * 256 ^ t := Int.mul_le_mul_of_nonneg_right (by omega) (by omega)
      have e5 : W.shl .u64 (bt l t) ((8 * t : Nat) : Int) = bt l t * 256 ^ t := by
        unfold W.shl
        have : min ((8 * t : Nat) : Int).toNat IntKind.u64.bits = 8 * t := by simp [IntKind.bits]; omega
        rw [this, hpp]
      have e6 : W.wrap .u64 (W.or .u64 (vs l t) (W.wrap .u64 (W.shl .u64 (W.wrap .u64 (bt l t)) ((8 * t : Nat) : Int)))) = vs l (t + 1) := by
        rw [W.wu64_id (z := bt l t) (by omega) (by omega), e5, W.wu64_id (z := bt l t * 256 ^ t) (by omega) (by omega), W.or_comm']
        have := W.or_add (a := bt l t) (b := vs l t) (8 * t) hb.1 (by rw [hpp]; omega) hl.1 (by rw [hpp]; exact hl.2) (by omega)
        rw [hpp] at this
        rw [this, W.wu64_id (by omega) (by omega)]
        simp only [vs]; omega
      rw [e1, e2, e3, e4, e6]
      simp only [br_ite, W.pickf_t, W.lt_t, W.and2_t, W.le_t, c1, c2, c3, and_self, if_true]
      exact rget_loop h m e (t + 1) (by omega)
    · have c1 : ¬ ((t : Int) < W.ofNat (W.len l)) := by unfold W.ofNat W.len; omega
      simp only [br_ite, W.pickf_t, W.lt_t, c1, false_and, if_false]
      rw [show 8 = t + (m + 1) by omega, vs_end (by omega)]
theorem rget_eq (l : PTs.D ps_clevisref01Get) (h : BtOk l) (k : Int → Option R) : F_clevisref01Get R l k = k (hg l 8) := by
  simp only [F_clevisref01Get, N_clevisref01Get]
  have := rget_loop (R := R) (fl := W.big) (k := k) h 8 (W.big - 9) 0 rfl
  rw [show W.big - 9 + 8 + 1 = W.big by unfold W.big; omega, vs_hg] at this
  exact this
theorem same_eq (a b : List Int) (ha : a.length ≤ 140737488355328) (hb : b.length ≤ 140737488355328) (h1 : BtOk a) (h2 : BtOk b) (k : Bool → Option R) : F_clevisref01Same R (a, b) k = k (decide (a = b)) := by
  simp only [F_clevisref01Same, N_clevisref01Same]
  rw [br_pos (W.leN_t.2 (by unfold W.len; exact ha)), br_pos (W.leN_t.2 (by unfold W.len; exact hb)), eqS_bytes h1 h2]
end Go.Proofs.Ytkgoajomlglkcaa
