import Derived.Test.YtobdjaokdmifiaaPureAsks
import Derived.Test.YtobdjaokdmifiaaPureBack
set_option linter.unusedVariables false
set_option linter.unusedSimpArgs false
set_option maxHeartbeats 4000000
set_option maxRecDepth 100000
namespace Go.Proofs.Ytobdjaokdmifiaa
open Go Go.Eng
variable {R : Type}
def vs (l : List Int) : Nat → Int
  | 0 => 0
  | t + 1 => vs l t + bt l t * 256 ^ t
theorem vs_lt {l : List Int} (h : BtOk l) : ∀ t, 0 ≤ vs l t ∧ vs l t < 256 ^ t
  | 0 => by simp [vs]
  | t + 1 => by
    have h1 := vs_lt h t
    have h2 := h t
    have h3 : (0 : Int) < 256 ^ t := Int.pow_pos (by omega)
    have h4 : 0 ≤ bt l t * 256 ^ t := Int.mul_nonneg h2.1 (by omega)
    have h5 : bt l t * 256 ^ t ≤ 255 * 256 ^ t := Int.mul_le_mul_of_nonneg_right (by omega) (by omega)
    simp only [vs, Int.pow_succ]; omega
theorem vs_hg (l : List Int) : vs l 8 = hg l 8 := by
  simp [vs, hg]; omega
theorem vs_end {l : List Int} {j : Nat} (hj : l.length ≤ j) : ∀ m, vs l (j + m) = vs l j
  | 0 => rfl
  | m + 1 => by
    have h0 : bt l (j + m) = 0 := by unfold bt; rw [List.getD_eq_getElem?_getD, List.getElem?_eq_none (by omega)]; rfl
    rw [← Nat.add_assoc]; simp only [vs]; rw [vs_end hj m, h0]; omega
theorem rget_loop {fl : Nat} {l : List Int} (h : BtOk l) {k : Int → Option R} : ∀ (m e t : Nat), t + m = 8 → P_clevisref01Get_3_0 fl (e + m + 1) R l (vs l t) (t : Int) k = k (vs l 8)
  | 0, e, t, ht => by
    rw [P_clevisref01Get_3_0_s]
    have : t = 8 := by omega
    subst this
    simp [br_ite, W.lt_t, W.pickf_t]
  | m + 1, e, t, ht => by
    rw [P_clevisref01Get_3_0_s]
    by_cases hc : t < l.length
    · have hb := h t
      have hl := vs_lt h t
      have c1 : (t : Int) < W.ofNat (W.len l) := by unfold W.ofNat W.len; omega
      have c2 : (t : Int) < 8 := by omega
      have c3 : (0 : Int) ≤ t := by omega
      have e1 : W.wrap .u64 (W.wrap .i64 (W.mul 8 (t : Int))) = ((8 * t : Nat) : Int) := by
        unfold W.mul; rw [W.wi64_id (by omega) (by omega), W.wu64_id (by omega) (by omega)]; omega
      have e2 : W.wrap .i64 (W.add (t : Int) 1) = ((t + 1 : Nat) : Int) := by unfold W.add; rw [W.wi64_id (by omega) (by omega)]; omega
      have e3 : W.toNat (t : Int) = t := by simp [W.toNat]
      have e4 : W.get l t (0 : Int) = bt l t := rfl
      have hp : (256 : Int) ^ t ≤ 256 ^ 7 := by
        have := Nat.pow_le_pow_right (n := 256) (by omega) (show t ≤ 7 by omega)
        have e1 : ((256 ^ t : Nat) : Int) = (256 : Int) ^ t := by simp
        have e2 : ((256 ^ 7 : Nat) : Int) = (256 : Int) ^ 7 := by simp
        omega
      have hp7 : (256 : Int) ^ 7 = 72057594037927936 := by decide
      have hp0 : (0 : Int) < 256 ^ t := Int.pow_pos (by omega)
      have hpp : (2 : Int) ^ (8 * t) = 256 ^ t := by rw [Int.pow_mul]; rfl
      have h4 : 0 ≤ bt l t * 256 ^ t := Int.mul_nonneg hb.1 (by omega)
      have h5 : bt l t * 256 ^ t ≤ 255 * 256 ^ t := Int.mul_le_mul_of_nonneg_right (by omega) (by omega)
      have e5 : W.shl .u64 (bt l t) ((8 * t : Nat) : Int) = bt l t * 256 ^ t := by
        unfold W.shl
        have : min ((8 * t : Nat) : Int).toNat IntKind.u64.bits = 8 * t := by simp [IntKind.bits]; omega
        rw [this, hpp]
      have e6 : W.wrap .u64 (W.or .u64 (vs l t) (W.wrap .u64 (W.shl .u64 (W.wrap .u64 (bt l t)) ((8 * t : Nat) : Int)))) = vs l (t + 1) := by
        rw [W.wu64_id (z := bt l t) (by omega) (by omega), e5, W.wu64_id (z := bt l t * 256 ^ t) (by omega) (by omega), W.or_comm']
        have := W.or_add (a := bt l t) (b := vs l t) (8 * t) hb.1 (by rw [hpp]; omega) hl.1 (by rw [hpp]; exact hl.2) (by omega)
        rw [hpp] at this
        rw [this, W.wu64_id (by omega) (by omega)]
        simp only [vs]; omega
      rw [e1, e2, e3, e4, e6]
      simp only [br_ite, W.pickf_t, W.lt_t, W.and2_t, W.le_t, c1, c2, c3, and_self, if_true]
      exact rget_loop h m e (t + 1) (by omega)
    · have c1 : ¬ ((t : Int) < W.ofNat (W.len l)) := by unfold W.ofNat W.len; omega
      simp only [br_ite, W.pickf_t, W.lt_t, c1, false_and, if_false]
      rw [show 8 = t + (m + 1) by omega, vs_end (by omega)]
theorem rget_eq (l : PTs.D ps_clevisref01Get) (h : BtOk l) (k : Int → Option R) : F_clevisref01Get R l k = k (hg l 8) := by
  simp only [F_clevisref01Get, N_clevisref01Get]
  have := rget_loop (R := R) (fl := W.big) (k := k) h 8 (W.big - 9) 0 rfl
  rw [show W.big - 9 + 8 + 1 = W.big by unfold W.big; omega, vs_hg] at this
  exact this
theorem rsign_eq (a : PTs.D ps_clevisref01Sign) (hx : p64 a.1) (k : Int → Option R) : F_clevisref01Sign R a k = k (sgnN a.1 a.2) := by
  obtain ⟨(x : Int), (n : Int)⟩ := a
  have hx : p64 x := hx
  simp only [F_clevisref01Sign, N_clevisref01Sign, rsize_eq, br_ite, W.picko_t, W.not_t, W.eq_t]
  by_cases h : sz n = false ∨ n = 8
  · rw [if_pos h]
    have : ¬ n = 1 ∧ ¬ n = 2 ∧ ¬ n = 4 := by simp [sz] at h; omega
    simp [sgnN, this]
  · rw [if_neg h]
    have hs : n = 1 ∨ n = 2 ∨ n = 4 := by simp [sz] at h; omega
    rw [shl1 hs]
    unfold p64 at hx
    have hr : ∀ m : Int, W.rem x m = x % m := fun m => Int.tmod_eq_emod_of_nonneg hx.1
    rcases hs with h | h | h <;> subst h <;> simp [hr, sgnN, W.quo, W.ge_t, W.wu64, W.wi8, W.wi16, W.wi32, W.sub]
    · by_cases hc : 128 ≤ x % 256
      · simp [hc]; congr 1; split <;> omega
      · simp [hc]; congr 1; split <;> omega
    · by_cases hc : 32768 ≤ x % 65536
      · simp [hc]; congr 1; split <;> omega
      · simp [hc]; congr 1; split <;> omega
    · by_cases hc : 2147483648 ≤ x % 4294967296
      · simp [hc]; congr 1; split <;> omega
      · simp [hc]; congr 1; split <;> omega
theorem imm_eq (a : PTs.D ps_word_Imm) (k : Int → Option R) : F_word_Imm R a k = k (low (W.wrap .u64 (W.wrap .i32 a.1)) a.2) := by
  obtain ⟨(x : Int), (w : Bool)⟩ := a
  simp only [F_word_Imm, N_word_Imm, low_eq]
theorem wrap_p' (z : Int) : p64 (W.wrap .u64 z) := by rw [W.wu64]; unfold p64; omega
theorem rimm_eq (a : PTs.D ps_clevisref01Imm) (k : Int → Option R) : F_clevisref01Imm R a k = k (low (W.wrap .u64 (W.wrap .i32 a.1)) a.2) := by
  obtain ⟨(x : Int), (w : Bool)⟩ := a
  simp only [F_clevisref01Imm, N_clevisref01Imm, rsign_eq, wrap_p', br_ite]
  cases w
  · simp [low, W.and_32, W.wu64, W.wi32]; congr 1; split <;> omega
  · simp [low, sgnN, W.wu64, W.wi32]
def bytesTo (x : Int) (j : Nat) : List Int := (List.range j).map (by8 x)
theorem byte_of' {x : Int} {i : Nat} (hi : i < 8) : W.wrap .u8 (W.shr .u64 x (W.wrap .u64 (W.wrap .i64 (W.mul 8 (i : Int))))) = by8 x i := by
  have e1 : W.wrap .u64 (W.wrap .i64 (W.mul 8 (i : Int))) = ((8 * i : Nat) : Int) := by
    unfold W.mul; rw [W.wi64_id (by omega) (by omega), W.wu64_id (by omega) (by omega)]; omega
  rw [e1, byte_of hi]
theorem rput_loop {fl : Nat} {x : Int} {n : Nat} (hs : sz n = true) {k : List Int → Option R} : ∀ (m e j : Nat), j + m = n →
    P_clevisref01Put_3_1 F_clevisref01Size fl (e + m + 1) R x (n : Int) j (j : Int) (bytesTo x j) k = k (bytesTo x n)
  | 0, e, j, hj => by
    rw [P_clevisref01Put_3_1_s]
    have : j = n := by omega
    subst this
    simp [br_ite, W.lt_t]
  | m + 1, e, j, hj => by
    have hn := sz_le hs
    rw [P_clevisref01Put_3_1_s]
    have e2 : W.wrap .i64 (W.add (j : Int) 1) = ((j + 1 : Nat) : Int) := by unfold W.add; rw [W.wi64_id (by omega) (by omega)]; omega
    have c1 : (j : Int) < n := by omega
    have c2 : W.mulN (j + 1) 1 ≤ 140737488355328 := by unfold W.mulN; omega
    have e3 : W.app (bytesTo x j) [by8 x j] = bytesTo x (j + 1) := by simp [W.app, bytesTo, List.range_succ]
    have e4 : W.addN j 1 = j + 1 := rfl
    rw [byte_of' (by omega), e2, e3]
    simp only [rsize_eq, hs, br_ite, W.lt_t, W.pick_t, W.leN_t, c1, c2, if_true, and_self, true_or, e4]
    exact rput_loop hs m e (j + 1) (by omega)
theorem rput_eq (a : PTs.D ps_clevisref01Put) (k : List Int → Option R) : F_clevisref01Put R a k = k (bytesN a.1 a.2) := by
  obtain ⟨(x : Int), (n : Int)⟩ := a
  simp only [F_clevisref01Put, N_clevisref01Put]
  have hbig : ∀ c : Nat, c ≤ 10 → W.big = (W.big - (c + 2) + c + 1) + 1 := by intro c hc; unfold W.big; omega
  by_cases h0 : 0 < n
  · cases hs : sz n with
    | false =>
      rw [hbig 0 (by omega), P_clevisref01Put_3_0_s]
      simp [rsize_eq, hs, br_ite, W.lt_t, h0, W.pick_t, bytesN]
    | true =>
      obtain ⟨m, hm⟩ : ∃ m : Nat, n = ((m + 1 : Nat) : Int) := ⟨n.toNat - 1, by omega⟩
      have hn := sz_le hs
      subst hm
      have hl := rput_loop (R := R) (fl := W.big) (x := x) (n := m + 1) hs (k := k) m (W.big - (m + 2)) 1 (by omega)
      have hb1 : bytesTo x 1 = [by8 x 0] := rfl
      rw [hb1] at hl
      conv => lhs; rw [hbig m (by omega)]
      rw [P_clevisref01Put_3_0_s]
      have hb0 := byte_of' (x := x) (i := 0) (by omega)
      have e0 : ((0 : Nat) : Int) = 0 := rfl
      rw [e0] at hb0
      have e2 : W.wrap .i64 (W.add 0 1) = 1 := by decide +kernel
      have c2 : W.mulN 1 1 ≤ 140737488355328 := by unfold W.mulN; omega
      rw [hb0, e2]
      simp only [rsize_eq, hs, br_ite, W.lt_t, W.pick_t, W.leN_t, h0, c2, if_true, and_self, true_or]
      have e1 : ((1 : Nat) : Int) = 1 := rfl
      rw [e1] at hl
      rw [← hbig m (by omega)]
      rw [hl]
      unfold bytesN
      rw [if_pos hs]; simp [bytesTo]
  · rw [hbig 0 (by omega), P_clevisref01Put_3_0_s]
    have hs : sz n = false := by simp [sz]; omega
    simp [br_ite, W.lt_t, h0, bytesN, hs]
theorem same_eq (l : List Int) (hl : l.length ≤ 8) (k : Bool → Option R) : F_clevisref01Same R (l, l) k = k true := by
  simp only [F_clevisref01Same, N_clevisref01Same, br_ite, W.leN_t]
  have : W.len l ≤ 140737488355328 := by unfold W.len; omega
  simp [this, W.eqS]
theorem WordBytes_law (a : PTs.D ps_clevislaw01WordBytes) (hw : WfL ps_clevislaw01WordBytes a) : ∃ (C : Cfg) (fl d : Nat), CfgOk C ∧ C.P = Try.prog ∧ call C fl d 8 (encL false ps_clevislaw01WordBytes a) [] getL = some () := by
  refine E_clevislaw01WordBytes ok_word_Size ok_word_Get ok_clevislaw01heads ok_word_Put ok_word_Sign ok_clevisref01Size ok_clevisref01Sign ok_word_Imm ok_clevisref01Imm ok_clevisref01Get ok_clevisref01Same ok_clevisref01Put a ?_
  obtain ⟨(x : Int), (n : Int), (l : List Int), (i : Int)⟩ := a
  obtain ⟨hx, hn, hl, hi⟩ := hw
  have hx : p64 x := u64_lo hx
  have hn : wfI .i64 n := hn
  have hl : BtOk l := btOk_wf hl.2
  have hb : (bytesN x n).length ≤ 8 := by
    unfold bytesN
    cases hs : sz n with
    | false => simp
    | true => have := sz_le hs; simp; omega
  simp only [L_clevislaw01WordBytes, size_eq (R := Unit) n hn, rsize_eq, sign_eq, rsign_eq (R := Unit) (x, n) hx, imm_eq, rimm_eq, get_eq (R := Unit) l hl, rget_eq (R := Unit) l hl, put_eq (R := Unit) (x, n) hn, rput_eq, same_eq (R := Unit) _ hb, heads_eq]
  simp [br_ite, W.eqB, W.eq, W.pick_t]
end Go.Proofs.Ytobdjaokdmifiaa
