import Derived.Test.YtiojpgompgmicaaDoorEnwM23d
import Derived.Test.YtiojpgompgmicaaDoorEnwW07
set_option linter.unusedVariables false
set_option linter.unusedSimpArgs false
set_option maxHeartbeats 8000000
set_option maxRecDepth 100000
namespace Go.Proofs.YtiojpgompgmicaaDoor
open Go Go.Eng
open Classical
variable {R : Type}
theorem brt {α : Type} {c : Bool} {a b z : α} (h : c = true) (e : a = z) : br c a b = z := by subst h; rw [br_t]; exact e
theorem brf {α : Type} {c : Bool} {a b z : α} (h : c = false) (e : b = z) : br c a b = z := by subst h; rw [br_f]; exact e
theorem fdx {w : Int} (hw : 0 ≤ w ∧ w < 4294967296) (n j : Nat) (s m p q : Int) (hs : s = n) (hp : p = 2 ^ n) (hm : m = 2 ^ j - 1) (hq : q = 2 ^ j) (hn : n ≤ 32) (hj : j ≤ 32) (hb : 0 < q ∧ q ≤ 4294967296) :
    W.wrap .u32 (W.and .u32 (W.shr .u32 w s) m) = w / p % q := by
  rw [shr32w n s p hs hp hn, W.and32_mask _ j hj m q hm hq, W.wu32]
  have h1 := Int.emod_nonneg (w / p) (show q ≠ 0 by omega)
  have h2 := Int.emod_lt_of_pos (w / p) hb.1
  exact Int.emod_eq_of_lt h1 (by omega)
theorem fd0 {w : Int} (j : Nat) (m q : Int) (hm : m = 2 ^ j - 1) (hq : q = 2 ^ j) (hj : j ≤ 32) (hb : 0 < q ∧ q ≤ 4294967296) :
    W.wrap .u32 (W.and .u32 w m) = w % q := by
  rw [W.and32_mask _ j hj m q hm hq, W.wu32]
  have h1 := Int.emod_nonneg w (show q ≠ 0 by omega)
  have h2 := Int.emod_lt_of_pos w hb.1
  exact Int.emod_eq_of_lt h1 (by omega)
theorem i64m (v q : Int) (hb : 0 < q ∧ q ≤ 4294967296) : W.wrap .i64 (v % q) = v % q := by
  have h1 := Int.emod_nonneg v (show q ≠ 0 by omega)
  have h2 := Int.emod_lt_of_pos v hb.1
  exact W.wi64_id (by omega) (by omega)
theorem hop {w : Int} (hw : 0 ≤ w ∧ w < 4294967296) : W.wrap .i64 (W.shr .u32 w 26) = w / 67108864 := by
  rw [shr32w 26 26 67108864 rfl (by decide) (by omega)]
  exact W.wi64_id (by omega) (by omega)
theorem fin_eq {k : RI × Int → Option R} {X : RI} {w : Int} : br (W.pick (W.ne (wordR X).2 0) true (W.ne (wordR X).1 w)) (k (zeroR, 230)) (k (X, 0)) = k (if okR X ∧ encI X = w then (X, 0) else (zeroR, 230)) := by
  by_cases h : okR X
  · have e : wordR X = (encI X, 0) := if_pos h
    rw [e]
    by_cases h2 : encI X = w
    · rw [if_pos ⟨h, h2⟩]
      exact brf (by simp [W.pick_eq, W.ne_d, h2]) rfl
    · rw [if_neg (fun c => h2 c.2)]
      exact brt (by simp [W.pick_eq, W.ne_d, h2]) rfl
  · have e : wordR X = (0, 2) := if_neg h
    rw [e, if_neg (fun c => h c.1)]
    exact brt (by simp [W.pick_eq, W.ne_d]) rfl
theorem leaf {k : RI × Int → Option R} {X : RI} {w : Int} (h : X = rawR w) :
    (F_risc_Encode R X fun y => br (W.pick (W.ne y.2 0) true (W.ne y.1 w)) (k (zeroR, 230)) (k (X, 0))) = k (readR w) := by
  rw [enc_eq, fin_eq, h]; rfl
theorem rleaf {k : RI × Int → Option R} {X : RI} {w : Int} (h : X = rawR w ∨ (¬ okR X ∧ encI (rawR w) ≠ w)) :
    (F_clevisref23Encode R X fun y => br (W.pick (W.ne y.2 0) true (W.ne y.1 w)) (k (zeroR, 230)) (k (X, 0))) = k (readR w) := by
  rw [renc_eq, fin_eq]
  rcases h with h | ⟨h, h2⟩
  · rw [h]; rfl
  · unfold readR
    rw [if_neg (fun c => h c.1), if_neg (fun c => h2 c.2)]
theorem sx_hi {m v : Int} (h : m / 2 ≤ v % m) : sx m v = v % m - m := if_pos h
theorem sx_lo {m v : Int} (h : ¬ m / 2 ≤ v % m) : sx m v = v % m := if_neg h
theorem get_cdn {i : Int} (h0 : 0 ≤ i) (h : i < 11) : W.get [16, 32, 48, 64, 80, 96, 112, 160, 176, 192, 208] (W.toNat i) 0 = cdn i := by
  rcases (show i = 0 ∨ i = 1 ∨ i = 2 ∨ i = 3 ∨ i = 4 ∨ i = 5 ∨ i = 6 ∨ i = 7 ∨ i = 8 ∨ i = 9 ∨ i = 10 by omega) with rfl | rfl | rfl | rfl | rfl | rfl | rfl | rfl | rfl | rfl | rfl <;> rfl
theorem bit_d {v : Int} : W.gt (v % 2) 0 = decide (v % 2 = 1) := by
  rw [W.gt_d, Bool.eq_iff_iff]; simp only [decide_eq_true_eq]; omega

theorem fu_21_31 {w : Int} (hw : 0 ≤ w ∧ w < 4294967296) : W.wrap .u32 (W.and .u32 (W.shr .u32 w 21) 31) = w / 2097152 % 32 := by
  rw [fdx hw 21 5 21 31 2097152 32 rfl (by decide) (by decide) (by decide) (by omega) (by omega) (by omega)]
theorem fs_21_31 {w : Int} (hw : 0 ≤ w ∧ w < 4294967296) : W.wrap .i64 (W.wrap .u32 (W.and .u32 (W.shr .u32 w 21) 31)) = w / 2097152 % 32 := by
  rw [fu_21_31 hw, i64m _ _ (by omega)]
theorem fu_16_31 {w : Int} (hw : 0 ≤ w ∧ w < 4294967296) : W.wrap .u32 (W.and .u32 (W.shr .u32 w 16) 31) = w / 65536 % 32 := by
  rw [fdx hw 16 5 16 31 65536 32 rfl (by decide) (by decide) (by decide) (by omega) (by omega) (by omega)]
theorem fs_16_31 {w : Int} (hw : 0 ≤ w ∧ w < 4294967296) : W.wrap .i64 (W.wrap .u32 (W.and .u32 (W.shr .u32 w 16) 31)) = w / 65536 % 32 := by
  rw [fu_16_31 hw, i64m _ _ (by omega)]
theorem fu_11_31 {w : Int} (hw : 0 ≤ w ∧ w < 4294967296) : W.wrap .u32 (W.and .u32 (W.shr .u32 w 11) 31) = w / 2048 % 32 := by
  rw [fdx hw 11 5 11 31 2048 32 rfl (by decide) (by decide) (by decide) (by omega) (by omega) (by omega)]
theorem fs_11_31 {w : Int} (hw : 0 ≤ w ∧ w < 4294967296) : W.wrap .i64 (W.wrap .u32 (W.and .u32 (W.shr .u32 w 11) 31)) = w / 2048 % 32 := by
  rw [fu_11_31 hw, i64m _ _ (by omega)]
theorem fu_6_15 {w : Int} (hw : 0 ≤ w ∧ w < 4294967296) : W.wrap .u32 (W.and .u32 (W.shr .u32 w 6) 15) = w / 64 % 16 := by
  rw [fdx hw 6 4 6 15 64 16 rfl (by decide) (by decide) (by decide) (by omega) (by omega) (by omega)]
theorem fs_6_15 {w : Int} (hw : 0 ≤ w ∧ w < 4294967296) : W.wrap .i64 (W.wrap .u32 (W.and .u32 (W.shr .u32 w 6) 15)) = w / 64 % 16 := by
  rw [fu_6_15 hw, i64m _ _ (by omega)]
theorem fu_10_1 {w : Int} (hw : 0 ≤ w ∧ w < 4294967296) : W.wrap .u32 (W.and .u32 (W.shr .u32 w 10) 1) = w / 1024 % 2 := by
  rw [fdx hw 10 1 10 1 1024 2 rfl (by decide) (by decide) (by decide) (by omega) (by omega) (by omega)]
theorem fs_10_1 {w : Int} (hw : 0 ≤ w ∧ w < 4294967296) : W.wrap .i64 (W.wrap .u32 (W.and .u32 (W.shr .u32 w 10) 1)) = w / 1024 % 2 := by
  rw [fu_10_1 hw, i64m _ _ (by omega)]
theorem fu_19_3 {w : Int} (hw : 0 ≤ w ∧ w < 4294967296) : W.wrap .u32 (W.and .u32 (W.shr .u32 w 19) 3) = w / 524288 % 4 := by
  rw [fdx hw 19 2 19 3 524288 4 rfl (by decide) (by decide) (by decide) (by omega) (by omega) (by omega)]
theorem fs_19_3 {w : Int} (hw : 0 ≤ w ∧ w < 4294967296) : W.wrap .i64 (W.wrap .u32 (W.and .u32 (W.shr .u32 w 19) 3)) = w / 524288 % 4 := by
  rw [fu_19_3 hw, i64m _ _ (by omega)]
theorem fu_0_65535 {w : Int} (hw : 0 ≤ w ∧ w < 4294967296) : W.wrap .u32 (W.and .u32 (W.shr .u32 w 0) 65535) = w % 65536 := by
  rw [fdx hw 0 16 0 65535 1 65536 rfl (by decide) (by decide) (by decide) (by omega) (by omega) (by omega)]; rw [Int.ediv_one]
theorem fs_0_65535 {w : Int} (hw : 0 ≤ w ∧ w < 4294967296) : W.wrap .i64 (W.wrap .u32 (W.and .u32 (W.shr .u32 w 0) 65535)) = w % 65536 := by
  rw [fu_0_65535 hw, i64m _ _ (by omega)]
theorem fu_12_15 {w : Int} (hw : 0 ≤ w ∧ w < 4294967296) : W.wrap .u32 (W.and .u32 (W.shr .u32 w 12) 15) = w / 4096 % 16 := by
  rw [fdx hw 12 4 12 15 4096 16 rfl (by decide) (by decide) (by decide) (by omega) (by omega) (by omega)]
theorem fs_12_15 {w : Int} (hw : 0 ≤ w ∧ w < 4294967296) : W.wrap .i64 (W.wrap .u32 (W.and .u32 (W.shr .u32 w 12) 15)) = w / 4096 % 16 := by
  rw [fu_12_15 hw, i64m _ _ (by omega)]
theorem fu_0_2047 {w : Int} (hw : 0 ≤ w ∧ w < 4294967296) : W.wrap .u32 (W.and .u32 (W.shr .u32 w 0) 2047) = w % 2048 := by
  rw [fdx hw 0 11 0 2047 1 2048 rfl (by decide) (by decide) (by decide) (by omega) (by omega) (by omega)]; rw [Int.ediv_one]
theorem fs_0_2047 {w : Int} (hw : 0 ≤ w ∧ w < 4294967296) : W.wrap .i64 (W.wrap .u32 (W.and .u32 (W.shr .u32 w 0) 2047)) = w % 2048 := by
  rw [fu_0_2047 hw, i64m _ _ (by omega)]
theorem fu_11_1 {w : Int} (hw : 0 ≤ w ∧ w < 4294967296) : W.wrap .u32 (W.and .u32 (W.shr .u32 w 11) 1) = w / 2048 % 2 := by
  rw [fdx hw 11 1 11 1 2048 2 rfl (by decide) (by decide) (by decide) (by omega) (by omega) (by omega)]
theorem fs_11_1 {w : Int} (hw : 0 ≤ w ∧ w < 4294967296) : W.wrap .i64 (W.wrap .u32 (W.and .u32 (W.shr .u32 w 11) 1)) = w / 2048 % 2 := by
  rw [fu_11_1 hw, i64m _ _ (by omega)]
theorem fu_0_67108863 {w : Int} (hw : 0 ≤ w ∧ w < 4294967296) : W.wrap .u32 (W.and .u32 (W.shr .u32 w 0) 67108863) = w % 67108864 := by
  rw [fdx hw 0 26 0 67108863 1 67108864 rfl (by decide) (by decide) (by decide) (by omega) (by omega) (by omega)]; rw [Int.ediv_one]
theorem fs_0_67108863 {w : Int} (hw : 0 ≤ w ∧ w < 4294967296) : W.wrap .i64 (W.wrap .u32 (W.and .u32 (W.shr .u32 w 0) 67108863)) = w % 67108864 := by
  rw [fu_0_67108863 hw, i64m _ _ (by omega)]
theorem fm0_65535 {w : Int} : W.wrap .i64 (W.wrap .u32 (W.and .u32 w 65535)) = w % 65536 := by
  rw [fd0 16 65535 65536 (by decide) (by decide) (by omega) (by omega), i64m _ _ (by omega)]
theorem fm0_67108863 {w : Int} : W.wrap .i64 (W.wrap .u32 (W.and .u32 w 67108863)) = w % 67108864 := by
  rw [fd0 26 67108863 67108864 (by decide) (by decide) (by omega) (by omega), i64m _ _ (by omega)]
theorem cT {P : Prop} {c : Bool} (e : c = true ↔ P) (h : P) : c = true := e.2 h
theorem cF {P : Prop} {c : Bool} (e : c = true ↔ P) (h : ¬ P) : c = false := by cases c with | false => rfl | true => exact absurd (e.1 rfl) h
theorem q1 {a b : Int} : W.eq a b = true ↔ a = b := by rw [W.eq_d]; simp
theorem q2 {a b c : Int} : W.pick (W.eq a b) true (W.eq a c) = true ↔ a = b ∨ a = c := by simp only [W.pick_eq, W.eq_d]; by_cases h : a = b <;> simp [h]
theorem q3 {a b c : Int} : W.pick (W.ge a b) (W.lt a c) false = true ↔ b ≤ a ∧ a < c := by simp only [W.pick_eq, W.ge_d, W.lt_d]; by_cases h : b ≤ a <;> simp [h]
theorem q4 {a b : Int} : W.ge a b = true ↔ b ≤ a := by rw [W.ge_d]; simp
theorem q5 {a b : Int} : W.lt a b = true ↔ a < b := by rw [W.lt_d]; simp
theorem q6 {a b c : Int} : W.and2 (W.le a b) (W.lt b c) = true ↔ a ≤ b ∧ b < c := by simp only [W.and2, W.le_d, W.lt_d]; by_cases h : a ≤ b <;> simp [h]

theorem dec_eq (w : Int) (hw : 0 ≤ w ∧ w < 4294967296) (k : RI × Int → Option R) : F_risc_Decode R w k = k (readR w) := by
  show N_risc_Decode F_risc_Encode F_risc_one F_slices_Index_int_int R w k = _
  unfold N_risc_Decode
  simp only [hop hw, fs_21_31 hw, fs_16_31 hw, fs_11_31 hw, fs_6_15 hw, fs_10_1 hw, fs_19_3 hw, fs_0_65535 hw, fs_12_15 hw, fs_0_2047 hw, fs_11_1 hw, fs_0_67108863 hw]
  by_cases h1 : w / 67108864 = 1
  · refine brt (cT q1 h1) (leaf ?_)
    unfold rawR; rw [if_pos h1]
    rw [bit_d, W.mul_eq, W.wi64_id (show -9223372036854775808 ≤ 16 * (w / 64 % 16) by omega) (by omega)]
  refine brf (cF q1 h1) ?_
  by_cases h2 : w / 67108864 = 2 ∨ w / 67108864 = 3
  · refine brt (cT q2 h2) (leaf ?_)
    unfold rawR; rw [if_neg h1, if_pos h2]
  refine brf (cF q2 h2) ?_
  by_cases h3 : 4 ≤ w / 67108864 ∧ w / 67108864 < 12
  · refine brt (cT q3 h3) ?_
    by_cases hs : 32768 ≤ w % 65536
    · refine brt (cT q4 hs) (leaf ?_)
      unfold rawR; rw [if_neg h1, if_neg h2, if_pos h3]
      rw [sx_hi (by omega), W.sub_eq, W.wi64_id (show -9223372036854775808 ≤ w % 65536 - 65536 by omega) (by omega)]
    · refine brf (cF q4 hs) (leaf ?_)
      unfold rawR; rw [if_neg h1, if_neg h2, if_pos h3]
      rw [sx_lo (by omega)]
  refine brf (cF q3 h3) ?_
  by_cases h4 : 12 ≤ w / 67108864 ∧ w / 67108864 < 20
  · refine brt (cT q3 h4) ?_
    by_cases hs : 32768 ≤ w % 65536
    · refine brt (cT q4 hs) (leaf ?_)
      unfold rawR; rw [if_neg h1, if_neg h2, if_neg h3, if_pos h4]
      rw [sx_hi (by omega), W.sub_eq, W.wi64_id (show -9223372036854775808 ≤ w % 65536 - 65536 by omega) (by omega)]
    · refine brf (cF q4 hs) (leaf ?_)
      unfold rawR; rw [if_neg h1, if_neg h2, if_neg h3, if_pos h4]
      rw [sx_lo (by omega)]
  refine brf (cF q3 h4) ?_
  by_cases h5 : w / 67108864 = 20
  · refine brt (cT q1 h5) ?_
    by_cases hi : w / 4096 % 16 < 11
    · refine brt (cT q5 hi) (brt (cT q6 ⟨by omega, hi⟩) ?_)
      rw [get_cdn (by omega) hi, bit_d]
      by_cases hs : 1024 ≤ w % 2048
      · refine brt (cT q4 hs) (leaf ?_)
        unfold rawR; rw [if_neg h1, if_neg h2, if_neg h3, if_neg h4, if_pos h5]
        rw [sx_hi (by omega), W.sub_eq, W.wi64_id (show -9223372036854775808 ≤ w % 2048 - 2048 by omega) (by omega)]
      · refine brf (cF q4 hs) (leaf ?_)
        unfold rawR; rw [if_neg h1, if_neg h2, if_neg h3, if_neg h4, if_pos h5]
        rw [sx_lo (by omega)]
    · refine brf (cF q5 hi) ?_
      have hc := cdn_no (i := w / 4096 % 16) (by omega)
      rw [bit_d, ← hc]
      by_cases hs : 1024 ≤ w % 2048
      · refine brt (cT q4 hs) (leaf ?_)
        unfold rawR; rw [if_neg h1, if_neg h2, if_neg h3, if_neg h4, if_pos h5]
        rw [sx_hi (by omega), W.sub_eq, W.wi64_id (show -9223372036854775808 ≤ w % 2048 - 2048 by omega) (by omega)]
      · refine brf (cF q4 hs) (leaf ?_)
        unfold rawR; rw [if_neg h1, if_neg h2, if_neg h3, if_neg h4, if_pos h5]
        rw [sx_lo (by omega)]
  refine brf (cF q1 h5) ?_
  by_cases h6 : w / 67108864 = 21
  · refine brt (cT q1 h6) ?_
    by_cases hs : 33554432 ≤ w % 67108864
    · refine brt (cT q4 hs) (leaf ?_)
      unfold rawR; rw [if_neg h1, if_neg h2, if_neg h3, if_neg h4, if_neg h5, if_pos h6]
      rw [sx_hi (by omega), W.sub_eq, W.wi64_id (show -9223372036854775808 ≤ w % 67108864 - 67108864 by omega) (by omega)]
    · refine brf (cF q4 hs) (leaf ?_)
      unfold rawR; rw [if_neg h1, if_neg h2, if_neg h3, if_neg h4, if_neg h5, if_pos h6]
      rw [sx_lo (by omega)]
  refine brf (cF q1 h6) ?_
  by_cases h7 : w / 67108864 = 22
  · refine brt (cT q1 h7) (leaf ?_)
    unfold rawR; rw [if_neg h1, if_neg h2, if_neg h3, if_neg h4, if_neg h5, if_neg h6, if_pos h7]
  refine brf (cF q1 h7) ?_
  by_cases h8 : w / 67108864 = 24 ∨ w / 67108864 = 25
  · by_cases ha : w / 67108864 = 24
    · refine brt (cT q1 ha) (leaf ?_)
      unfold rawR; rw [if_neg h1, if_neg h2, if_neg h3, if_neg h4, if_neg h5, if_neg h6, if_neg h7, if_pos h8]
    · refine brf (cF q1 ha) (brt (cT q1 (by omega)) (leaf ?_))
      unfold rawR; rw [if_neg h1, if_neg h2, if_neg h3, if_neg h4, if_neg h5, if_neg h6, if_neg h7, if_pos h8]
  refine brf (cF q1 (by omega)) (brf (cF q1 (by omega)) ?_)
  by_cases h9 : w / 67108864 = 26 ∨ w / 67108864 = 27
  · by_cases ha : w / 67108864 = 26
    · refine brt (cT q1 ha) (leaf ?_)
      unfold rawR; rw [if_neg h1, if_neg h2, if_neg h3, if_neg h4, if_neg h5, if_neg h6, if_neg h7, if_neg h8, if_pos h9]
    · refine brf (cF q1 ha) (brt (cT q1 (by omega)) (leaf ?_))
      unfold rawR; rw [if_neg h1, if_neg h2, if_neg h3, if_neg h4, if_neg h5, if_neg h6, if_neg h7, if_neg h8, if_pos h9]
  refine brf (cF q1 (by omega)) (brf (cF q1 (by omega)) ?_)
  by_cases ha : w / 67108864 = 23
  · refine brt (cT q1 ha) (leaf ?_)
    unfold rawR; rw [if_neg h1, if_neg h2, if_neg h3, if_neg h4, if_neg h5, if_neg h6, if_neg h7, if_neg h8, if_neg h9]
  · refine brf (cF q1 ha) (leaf ?_)
    unfold rawR; rw [if_neg h1, if_neg h2, if_neg h3, if_neg h4, if_neg h5, if_neg h6, if_neg h7, if_neg h8, if_neg h9]
end Go.Proofs.YtiojpgompgmicaaDoor
