import Derived.Test.YtdfelkcioeinfaaDoorEnwFns03
import Derived.Test.YtdfelkcioeinfaaDoorEnwW04
set_option linter.unusedVariables false
set_option linter.unusedSimpArgs false
set_option maxHeartbeats 4000000
set_option maxRecDepth 100000
namespace Go.Proofs.YtdfelkcioeinfaaDoor
open Go Go.Eng
variable {R : Type}
theorem low_eq (x : PTs.D ps_word_low) (k : Int → Option R) : F_word_low R x k = k (low x.1 x.2) := by
  obtain ⟨(x0 : Int), (x1 : Bool)⟩ := x
  have h : x0 % 4294967296 % 18446744073709551616 = x0 % 4294967296 := by omega
  cases x1 <;> simp [F_word_low, N_word_low, br_t, br_f, low, W.wu64, W.wu32, h]
theorem get_loop {fl : Nat} {l l8 : List Int} (h : BtOk l) (h8 : ∀ i, i < 8 → W.get l8 i (0 : Int) = bt l i) {k : Int → Option R} : ∀ (m e t : Nat), t + m = 8 →
    P_word_Get_5_0 fl (e + m + 1) R (hg l t) (t : Int) l8 k = k (hg l 8)
  | 0, e, t, ht => by
    rw [P_word_Get_5_0_s]
    have : t = 8 := by omega
    subst this
    simp [br_ite, W.lt_t]
  | m + 1, e, t, ht => by
    rw [P_word_Get_5_0_s]
    have hb := h (7 - t)
    have hl := hg_lt h t
    have hp : (256 : Int) ^ t ≤ 256 ^ 7 := by
      have := Nat.pow_le_pow_right (n := 256) (by omega) (show t ≤ 7 by omega)
      have e1 : ((256 ^ t : Nat) : Int) = (256 : Int) ^ t := by simp
      have e2 : ((256 ^ 7 : Nat) : Int) = (256 : Int) ^ 7 := by simp
      omega
    have hp7 : (256 : Int) ^ 7 = 72057594037927936 := by decide
    have e1 : W.wrap .i64 (W.sub 7 (t : Int)) = ((7 - t : Nat) : Int) := by unfold W.sub; rw [W.wi64_id (by omega) (by omega)]; omega
    have e2 : W.wrap .i64 (W.add (t : Int) 1) = ((t + 1 : Nat) : Int) := by unfold W.add; rw [W.wi64_id (by omega) (by omega)]; omega
    have e3 : W.toNat ((7 - t : Nat) : Int) = 7 - t := by simp [W.toNat]
    have e4 : W.wrap .u64 (W.or .u64 (W.wrap .u64 (W.shl .u64 (hg l t) 8)) (W.wrap .u64 (bt l (7 - t)))) = hg l (t + 1) := by
      rw [shl8, W.wu64_id (z := hg l t * 256) (by omega) (by omega), W.wu64_id (z := bt l (7 - t)) (by omega) (by omega)]
      have := W.or_add (a := hg l t) (b := bt l (7 - t)) 8 hl.1 (by have : (2 : Int) ^ 8 = 256 := by decide
                                                                    rw [this]; omega) hb.1 (by have : (2 : Int) ^ 8 = 256 := by decide
                                                                                               omega) (by omega)
      rw [show (2 : Int) ^ 8 = 256 by decide] at this
      rw [this, W.wu64_id (by omega) (by omega)]; rfl
    rw [e1, e2, e3, h8 (7 - t) (by omega), e4]
    have c1 : (t : Int) < 8 := by omega
    have c2 : (0 : Int) ≤ ((7 - t : Nat) : Int) ∧ ((7 - t : Nat) : Int) < 8 := by omega
    simp only [br_ite, W.lt_t, W.and2_t, W.le_t, c1, c2, and_self, if_true]
    exact get_loop h h8 m e (t + 1) (by omega)
theorem get_eq (l : PTs.D ps_word_Get) (h : BtOk l) (k : Int → Option R) : F_word_Get R l k = k (hg l 8) := by
  simp only [F_word_Get, N_word_Get]
  have := get_loop (R := R) (fl := W.big) (k := k) h (fun i hi => pad_get (l := l) hi) 8 (W.big - 9) 0 rfl
  rw [show W.big - 9 + 8 + 1 = W.big by unfold W.big; omega] at this
  exact this
theorem size_eq (n : Int) (hn : wfI .i64 n) (k : Bool → Option R) : F_word_Size R n k = k (sz n) := by
  simp only [F_word_Size, N_word_Size]
  congr 1
  by_cases h : 1 ≤ n ∧ n ≤ 8
  · have : n = 1 ∨ n = 2 ∨ n = 3 ∨ n = 4 ∨ n = 5 ∨ n = 6 ∨ n = 7 ∨ n = 8 := by omega
    rcases this with h | h | h | h | h | h | h | h <;> subst h <;> decide +kernel
  · have h1 : W.pick (W.gt n 0) (W.le n 8) false = false := by
      cases hp : W.pick (W.gt n 0) (W.le n 8) false with
      | false => rfl
      | true => rw [W.pickf_t, W.gt_t, W.le_t] at hp; omega
    rw [h1]
    have : sz n = false := by simp [sz]; omega
    rw [this]; rfl
theorem rsize_eq (n : Int) (k : Bool → Option R) : F_clevisref01Size R n k = k (sz n) := by
  simp only [F_clevisref01Size, N_clevisref01Size]
  congr 1
  rw [Bool.eq_iff_iff]
  simp only [W.picko_t, W.eq_t, sz, decide_eq_true_eq]
  omega
theorem put_loop {F : FT ps_word_Size qs_word_Size} {fl : Nat} {x n : Int} (hn : 0 ≤ n ∧ n ≤ 8) {k : List Int → Option R} : ∀ (m e t : Nat), t + m = 8 →
    P_word_Put_5_0 F fl (e + m + 1) R x n (t : Int) (upTo x t) k = k ((upTo x 8).take n.toNat)
  | 0, e, t, ht => by
    rw [P_word_Put_5_0_s]
    have : t = 8 := by omega
    subst this
    simp [br_ite, W.lt_t, W.and2_t, W.le_t, hn.1, hn.2, W.slice, W.toNat]
  | m + 1, e, t, ht => by
    rw [P_word_Put_5_0_s]
    have e1 : W.wrap .i64 (W.mul 8 (t : Int)) = ((8 * t : Nat) : Int) := by unfold W.mul; rw [W.wi64_id (by omega) (by omega)]; omega
    have e2 : W.wrap .i64 (W.add (t : Int) 1) = ((t + 1 : Nat) : Int) := by unfold W.add; rw [W.wi64_id (by omega) (by omega)]; omega
    have e3 : W.toNat (t : Int) = t := by simp [W.toNat]
    have e4 : W.set (upTo x t) t (by8 x t) = upTo x (t + 1) := by
      unfold W.set upTo
      apply List.ext_getElem?
      intro i
      rw [List.getElem?_set]
      simp only [List.getElem?_map, List.length_map, List.length_range]
      by_cases hi : i < 8
      · rw [List.getElem?_range hi]
        by_cases h : t = i
        · subst h; simp [hi]
        · simp [h]; congr 1
          simp only [eq_iff_iff]; omega
      · rw [List.getElem?_eq_none (by simpa using hi)]
        simp; omega
    rw [e1, e2, e3, byte_of (by omega), e4]
    have c1 : (t : Int) < 8 := by omega
    have c2 : ¬ (((8 * t : Nat) : Int) < 0) := by omega
    have c3 : (0 : Int) ≤ t := by omega
    simp only [br_ite, W.lt_t, W.and2_t, W.le_t, c1, c2, c3, and_self, if_true, if_false]
    exact put_loop hn m e (t + 1) (by omega)
theorem put_eq (a : PTs.D ps_word_Put) (hn : wfI .i64 a.2) (k : List Int → Option R) : F_word_Put R a k = k (bytesN a.1 a.2) := by
  obtain ⟨(x : Int), (n : Int)⟩ := a
  have hn : wfI .i64 n := hn
  simp only [F_word_Put, N_word_Put, size_eq n hn, br_ite, W.not_t, bytesN]
  cases hs : sz n with
  | false => simp
  | true =>
    simp
    have := put_loop (R := R) (F := F_word_Size) (fl := W.big) (x := x) (n := n) (k := k) (sz_le hs) 8 (W.big - 9) 0 rfl
    rw [show W.big - 9 + 8 + 1 = W.big by unfold W.big; omega] at this
    have h0 : upTo x 0 = [0, 0, 0, 0, 0, 0, 0, 0] := rfl
    rw [h0] at this
    refine this.trans ?_
    congr 1
    have hle := sz_le hs
    apply List.ext_getElem?
    intro i
    simp only [upTo, List.getElem?_take, List.getElem?_map]
    by_cases hi : i < n.toNat
    · rw [if_pos hi, List.getElem?_range hi, List.getElem?_range (by omega)]; simp; omega
    · rw [if_neg hi, List.getElem?_eq_none (by simpa using hi)]; rfl
theorem rget_loop {fl : Nat} {l : List Int} (h : BtOk l) {k : Int → Option R} : ∀ (m e t : Nat), t + m = 8 → P_clevisref01Get_3_0 fl (e + m + 1) R l (vs l t) (t : Int) k = k (vs l 8)
  | 0, e, t, ht => by
    rw [P_clevisref01Get_3_0_s]
    have : t = 8 := by omega
    subst this
    simp [br_ite, W.lt_t, W.pickf_t]
  | m + 1, e, t, ht => by
    rw [P_clevisref01Get_3_0_s]
    by_cases hc : t < l.length
    · have hb := h t
      have hl := vs_lt h t
      have c1 : (t : Int) < W.ofNat (W.len l) := by unfold W.ofNat W.len; omega
      have c2 : (t : Int) < 8 := by omega
      have c3 : (0 : Int) ≤ t := by omega
      have e1 : W.wrap .u64 (W.wrap .i64 (W.mul 8 (t : Int))) = ((8 * t : Nat) : Int) := by
        unfold W.mul; rw [W.wi64_id (by omega) (by omega), W.wu64_id (by omega) (by omega)]; omega
      have e2 : W.wrap .i64 (W.add (t : Int) 1) = ((t + 1 : Nat) : Int) := by unfold W.add; rw [W.wi64_id (by omega) (by omega)]; omega
      have e3 : W.toNat (t : Int) = t := by simp [W.toNat]
      have e4 : W.get l t (0 : Int) = bt l t := rfl
      have hp : (256 : Int) ^ t ≤ 256 ^ 7 := by
        have := Nat.pow_le_pow_right (n := 256) (by omega) (show t ≤ 7 by omega)
        have e1 : ((256 ^ t : Nat) : Int) = (256 : Int) ^ t := by simp
        have e2 : ((256 ^ 7 : Nat) : Int) = (256 : Int) ^ 7 := by simp
        omega
      have hp7 : (256 : Int) ^ 7 = 72057594037927936 := by decide
      have hp0 : (0 : Int) < 256 ^ t := Int.pow_pos (by omega)
      have hpp : (2 : Int) ^ (8 * t) = 256 ^ t := by rw [Int.pow_mul]; rfl
      have h4 : 0 ≤ bt l t * 256 ^ t := Int.mul_nonneg hb.1 (by omega)
      have h5 : bt l t * 256 ^ t ≤ 255 * 256 ^ t := Int.mul_le_mul_of_nonneg_right (by omega) (by omega)
      have e5 : W.shl .u64 (bt l t) ((8 * t : Nat) : Int) = bt l t * 256 ^ t := by
        unfold W.shl
        have : min ((8 * t : Nat) : Int).toNat IntKind.u64.bits = 8 * t := by simp [IntKind.bits]; omega
        rw [this, hpp]
      have e6 : W.wrap .u64 (W.or .u64 (vs l t) (W.wrap .u64 (W.shl .u64 (W.wrap .u64 (bt l t)) ((8 * t : Nat) : Int)))) = vs l (t + 1) := by
        rw [W.wu64_id (z := bt l t) (by omega) (by omega), e5, W.wu64_id (z := bt l t * 256 ^ t) (by omega) (by omega), W.or_comm']
        have := W.or_add (a := bt l t) (b := vs l t) (8 * t) hb.1 (by rw [hpp]; omega) hl.1 (by rw [hpp]; exact hl.2) (by omega)
        rw [hpp] at this
        rw [this, W.wu64_id (by omega) (by omega)]
        simp only [vs]; omega
      rw [e1, e2, e3, e4, e6]
      simp only [br_ite, W.pickf_t, W.lt_t, W.and2_t, W.le_t, c1, c2, c3, and_self, if_true]
      exact rget_loop h m e (t + 1) (by omega)
    · have c1 : ¬ ((t : Int) < W.ofNat (W.len l)) := by unfold W.ofNat W.len; omega
      simp only [br_ite, W.pickf_t, W.lt_t, c1, false_and, if_false]
      rw [show 8 = t + (m + 1) by omega, vs_end (by omega)]
theorem rget_eq (l : PTs.D ps_clevisref01Get) (h : BtOk l) (k : Int → Option R) : F_clevisref01Get R l k = k (hg l 8) := by
  simp only [F_clevisref01Get, N_clevisref01Get]
  have := rget_loop (R := R) (fl := W.big) (k := k) h 8 (W.big - 9) 0 rfl
  rw [show W.big - 9 + 8 + 1 = W.big by unfold W.big; omega, vs_hg] at this
  exact this
theorem rsign_eq (a : PTs.D ps_clevisref01Sign) (hx : p64 a.1) (k : Int → Option R) : F_clevisref01Sign R a k = k (sgnN a.1 a.2) := by
  obtain ⟨(x : Int), (n : Int)⟩ := a
  have hx : p64 x := hx
  simp only [F_clevisref01Sign, N_clevisref01Sign, rsize_eq, br_ite, W.picko_t, W.not_t, W.eq_t]
  by_cases h : sz n = false ∨ n = 8
  · rw [if_pos h]
    have : ¬ n = 1 ∧ ¬ n = 2 ∧ ¬ n = 4 := by simp [sz] at h; omega
    simp [sgnN, this]
  · rw [if_neg h]
    have hs : n = 1 ∨ n = 2 ∨ n = 4 := by simp [sz] at h; omega
    rw [shl1 hs]
    unfold p64 at hx
    have hr : ∀ m : Int, W.rem x m = x % m := fun m => Int.tmod_eq_emod_of_nonneg hx.1
    rcases hs with h | h | h <;> subst h <;> simp [hr, sgnN, W.quo, W.ge_t, W.wu64, W.wi8, W.wi16, W.wi32, W.sub]
    · by_cases hc : 128 ≤ x % 256
      · simp [hc]; congr 1; split <;> omega
      · simp [hc]; congr 1; split <;> omega
    · by_cases hc : 32768 ≤ x % 65536
      · simp [hc]; congr 1; split <;> omega
      · simp [hc]; congr 1; split <;> omega
    · by_cases hc : 2147483648 ≤ x % 4294967296
      · simp [hc]; congr 1; split <;> omega
      · simp [hc]; congr 1; split <;> omega
theorem imm_eq (a : PTs.D ps_word_Imm) (k : Int → Option R) : F_word_Imm R a k = k (low (W.wrap .u64 (W.wrap .i32 a.1)) a.2) := by
  obtain ⟨(x : Int), (w : Bool)⟩ := a
  simp only [F_word_Imm, N_word_Imm, low_eq]
theorem rimm_eq (a : PTs.D ps_clevisref01Imm) (k : Int → Option R) : F_clevisref01Imm R a k = k (low (W.wrap .u64 (W.wrap .i32 a.1)) a.2) := by
  obtain ⟨(x : Int), (w : Bool)⟩ := a
  simp only [F_clevisref01Imm, N_clevisref01Imm, rsign_eq, wrap_p', br_ite]
  cases w
  · simp [low, W.and_32, W.wu64, W.wi32]; congr 1; split <;> omega
  · simp [low, sgnN, W.wu64, W.wi32]
theorem rput_loop {fl : Nat} {x : Int} {n : Nat} (hs : sz n = true) {k : List Int → Option R} : ∀ (m e j : Nat), j + m = n →
    P_clevisref01Put_3_0 F_clevisref01Size fl (e + m + 1) R x (n : Int) j (j : Int) (bytesTo x j) k = k (bytesTo x n)
  | 0, e, j, hj => by
    rw [P_clevisref01Put_3_0_s]
    have : j = n := by omega
    subst this
    simp [br_ite, W.lt_t]
  | m + 1, e, j, hj => by
    have hn := sz_le hs
    rw [P_clevisref01Put_3_0_s]
    have e2 : W.wrap .i64 (W.add (j : Int) 1) = ((j + 1 : Nat) : Int) := by unfold W.add; rw [W.wi64_id (by omega) (by omega)]; omega
    have c1 : (j : Int) < n := by omega
    have c2 : W.mulN (j + 1) 1 ≤ 140737488355328 := by unfold W.mulN; omega
    have e3 : W.app (bytesTo x j) [by8 x j] = bytesTo x (j + 1) := by simp [W.app, bytesTo, List.range_succ]
    have e4 : W.addN j 1 = j + 1 := rfl
    rw [byte_of' (by omega), e2, e3]
    simp only [rsize_eq, hs, br_ite, W.lt_t, W.pick_t, W.leN_t, c1, c2, if_true, and_self, true_or, e4]
    exact rput_loop hs m e (j + 1) (by omega)
theorem rput_eq (a : PTs.D ps_clevisref01Put) (k : List Int → Option R) : F_clevisref01Put R a k = k (bytesN a.1 a.2) := by
  obtain ⟨(x : Int), (n : Int)⟩ := a
  simp only [F_clevisref01Put, N_clevisref01Put]
  cases hs : sz n with
  | false =>
    rw [show W.big = (W.big - 1) + 1 by unfold W.big; omega, P_clevisref01Put_3_0_s]
    simp only [rsize_eq, hs, W.pick_t, br_ite, bytesN]
    simp
  | true =>
    have hn := sz_le hs
    obtain ⟨m, hm⟩ : ∃ m : Nat, n = (m : Int) := ⟨n.toNat, by omega⟩
    subst hm
    have hl := rput_loop (R := R) (fl := W.big) (x := x) (n := m) hs (k := k) m (W.big - (m + 1)) 0 (by omega)
    have hb1 : bytesTo x 0 = [] := rfl
    rw [hb1, show W.big - (m + 1) + m + 1 = W.big by unfold W.big; omega] at hl
    have e1 : ((0 : Nat) : Int) = 0 := rfl
    rw [e1] at hl
    rw [hl]
    unfold bytesN
    rw [if_pos hs]; simp [bytesTo]
theorem same_eq (a b : List Int) (ha : a.length ≤ 140737488355328) (hb : b.length ≤ 140737488355328) (h1 : BtOk a) (h2 : BtOk b) (k : Bool → Option R) : F_clevisref01Same R (a, b) k = k (decide (a = b)) := by
  simp only [F_clevisref01Same, N_clevisref01Same]
  rw [br_pos (W.leN_t.2 (by unfold W.len; exact ha)), br_pos (W.leN_t.2 (by unfold W.len; exact hb)), eqS_bytes h1 h2]
end Go.Proofs.YtdfelkcioeinfaaDoor
