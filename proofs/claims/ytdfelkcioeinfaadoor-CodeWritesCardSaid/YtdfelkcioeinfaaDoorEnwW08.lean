import Derived.Test.YtdfelkcioeinfaaDoorEnwW04
import Derived.Test.YtdfelkcioeinfaaDoorEnwW06
/- Code and bytes, in plain numbers: an instruction's eight bytes, a wide one's sixteen; a whole code's. -/
set_option linter.unusedVariables false
set_option linter.unusedSimpArgs false
set_option maxHeartbeats 4000000
set_option maxRecDepth 100000
namespace Go.Eng
open Go
abbrev In6 := Int × Int × Int × Int × Int × Int
def zi : In6 := (0, 0, 0, 0, 0, 0)
def rd (l : List Int) : In6 := (bt l 0, bt l 1 % 16, bt l 1 / 16, W.wrap .i64 (W.wrap .i16 (hg (W.slice l 2 2) 8)), W.wrap .i64 (W.wrap .i32 (hg (W.slice l 4 4) 8)), 0)
def u32i (a : Int) : Int := low (W.wrap .u64 (W.wrap .i32 a)) false
def wide (i j : In6) : In6 := (i.1, i.2.1, i.2.2.1, i.2.2.2.1, i.2.2.2.2.1, u32i j.2.2.2.2.1 * 4294967296 + u32i i.2.2.2.2.1)
def isz (j : In6) : Prop := j.1 = 0 ∧ j.2.1 = 0 ∧ j.2.2.1 = 0 ∧ j.2.2.2.1 = 0
instance (j : In6) : Decidable (isz j) := by unfold isz; infer_instance
/-- The instructions of so many eights of bytes. -/
def decF : Nat → List Int → Option (List In6)
  | 0, _ => some []
  | 1, l => if (rd (l.take 8)).1 = 24 then none else some [rd (l.take 8)]
  | m + 2, l => if (rd (l.take 8)).1 = 24 then (if isz (rd ((l.drop 8).take 8)) then (decF m (l.drop 16)).map fun r => wide (rd (l.take 8)) (rd ((l.drop 8).take 8)) :: zi :: r else none) else (decF (m + 1) (l.drop 8)).map (rd (l.take 8) :: ·)
/-- A whole code: its instructions or an error's number. -/
def decC (l : List Int) : List In6 × Int :=
  if l.length = 0 ∨ l.length % 8 ≠ 0 then ([], 30) else if 4096 < l.length / 8 then ([], 31) else match decF (l.length / 8) l with | none => ([], 30) | some r => (r, 0)
theorem BtOk.slice {l : List Int} (h : BtOk l) (i n : Nat) : BtOk (W.slice l i n) := by
  intro j
  have e : bt (W.slice l i n) j = if j < n then bt l (i + j) else 0 := by
    unfold bt W.slice
    rw [List.getD_eq_getElem?_getD, List.getElem?_take]
    by_cases hj : j < n
    · rw [if_pos hj, if_pos hj, List.getElem?_drop, List.getD_eq_getElem?_getD]
    · rw [if_neg hj, if_neg hj]; rfl
  rw [e]; split
  · exact h _
  · decide
theorem slice_t (l : List Int) : W.slice l 0 8 = l.take 8 := by unfold W.slice; rw [List.drop_zero]
theorem slice_d (l : List Int) : W.slice l 8 (W.subN (W.len l) 8) = l.drop 8 := by
  unfold W.slice W.subN; rw [W.len_eq, List.take_of_length_le (by simp)]
theorem BtOk.take {l : List Int} (h : BtOk l) (n : Nat) : BtOk (l.take n) := by have := h.slice 0 n; unfold W.slice at this; rwa [List.drop_zero] at this
theorem BtOk.drop {l : List Int} (h : BtOk l) (i : Nat) : BtOk (l.drop i) := by
  have := h.slice i (l.length - i); unfold W.slice at this
  rwa [List.take_of_length_le (by simp)] at this
theorem fin8 (f g : Int → Int) (h : ∀ n : Fin 256, f (n.val : Int) = g (n.val : Int)) {b : Int} (hb : 0 ≤ b ∧ b < 256) : f b = g b := by
  have := h ⟨b.toNat, by omega⟩
  simp only [Int.toNat_of_nonneg hb.1] at this
  exact this
theorem and15 {b : Int} (hb : 0 ≤ b ∧ b < 256) : W.wrap .i64 (W.wrap .u8 (W.and .u8 b 15)) = b % 16 := fin8 (fun b => W.wrap .i64 (W.wrap .u8 (W.and .u8 b 15))) (fun b => b % 16) (by decide +kernel) hb
theorem shr4 {b : Int} (hb : 0 ≤ b ∧ b < 256) : W.wrap .i64 (W.shr .u8 b 4) = b / 16 := fin8 (fun b => W.wrap .i64 (W.shr .u8 b 4)) (fun b => b / 16) (by decide +kernel) hb
theorem rem16 {b : Int} (hb : 0 ≤ b ∧ b < 256) : W.wrap .i64 (W.rem b 16) = b % 16 := fin8 (fun b => W.wrap .i64 (W.rem b 16)) (fun b => b % 16) (by decide +kernel) hb
theorem quo16b {b : Int} (hb : 0 ≤ b ∧ b < 256) : W.wrap .i64 (W.wrap .u8 (W.quo b 16)) = b / 16 := fin8 (fun b => W.wrap .i64 (W.wrap .u8 (W.quo b 16))) (fun b => b / 16) (by decide +kernel) hb
theorem i64_8 {b : Int} (hb : 0 ≤ b ∧ b < 256) : W.wrap .i64 b = b := W.wi64_id (by omega) (by omega)
theorem i64_u64 (z : Int) : W.wrap .i64 (W.wrap .u64 z) = W.wrap .i64 z := by rw [W.wi64, W.wi64, W.wu64]; simp
theorem u32i_lt (a : Int) : 0 ≤ u32i a ∧ u32i a < 4294967296 := low_32 _
theorem wide_or {a b : Int} (ha : 0 ≤ a ∧ a < 4294967296) (hb : 0 ≤ b ∧ b < 4294967296) : W.wrap .u64 (W.or .u64 (W.wrap .u64 (W.shl .u64 a 32)) b) = a * 4294967296 + b := by
  have e : W.shl .u64 a 32 = a * 4294967296 := by
    have := shl_n (a := a) (n := 32) (by omega)
    rw [show ((32 : Nat) : Int) = 32 from rfl] at this
    rw [this, show (2 : Int) ^ 32 = 4294967296 by decide]
  rw [e, W.wu64_id (show 0 ≤ a * 4294967296 by omega) (by omega)]
  have := W.or_add (a := a) (b := b) 32 ha.1 (by rw [show (2 : Int) ^ 32 = 4294967296 by decide]; omega) hb.1 (by rw [show (2 : Int) ^ 32 = 4294967296 by decide]; omega) (by omega)
  rw [show (2 : Int) ^ 32 = 4294967296 by decide] at this
  rw [this, W.wu64_id (by omega) (by omega)]
theorem wide_add {a b : Int} (ha : 0 ≤ a ∧ a < 4294967296) (hb : 0 ≤ b ∧ b < 4294967296) : W.wrap .u64 (W.add b (W.wrap .u64 (W.mul a 4294967296))) = a * 4294967296 + b := by
  rw [W.mul_eq, W.wu64_id (show 0 ≤ a * 4294967296 by omega) (by omega), W.add_eq, W.wu64_id (by omega) (by omega)]; omega
theorem idx_c {c : Nat} (h : c ≤ 4096) : W.wrap .i64 (W.sub (W.ofNat (W.addN c 1)) 1) = (c : Int) := by
  unfold W.addN; rw [W.ofNat_eq, W.sub_eq, W.wi64_id (by omega) (by omega)]; omega
theorem set_app {α : Type} (acc : List α) (x v : α) : W.set (W.app acc [x]) acc.length v = acc ++ [v] := by
  unfold W.set W.app; rw [List.set_append_right _ _ (Nat.le_refl _)]; simp
theorem get_app {α : Type} (acc : List α) (x d : α) : W.get (W.app acc [x]) acc.length d = x := by
  unfold W.get W.app; simp
/-- Two codes behind each other. -/
theorem dec_app : ∀ (m n : Nat) (a b : List Int) (r s : List In6), a.length = 8 * m → decF m a = some r → decF n b = some s → decF (m + n) (a ++ b) = some (r ++ s)
  | 0, n, a, b, r, s, ha, hr, hs => by
    obtain rfl : a = [] := List.length_eq_zero_iff.1 (by omega)
    simp only [decF, Option.some.injEq] at hr
    subst hr
    simpa using hs
  | 1, n, a, b, r, s, ha, hr, hs => by
    simp only [decF] at hr
    have t : (a ++ b).take 8 = a.take 8 := List.take_append_of_le_length (by omega)
    have d : (a ++ b).drop 8 = b := by rw [List.drop_append_of_le_length (by omega), List.drop_of_length_le (by omega)]; rfl
    split at hr
    · cases hr
    · rename_i h
      obtain rfl := Option.some.inj hr
      cases n with
      | zero =>
        simp only [decF, Option.some.injEq] at hs
        subst hs
        simp only [decF, t, if_neg h]
        rfl
      | succ n =>
        rw [Nat.add_comm]
        simp only [decF, t, d, if_neg h, hs]
        rfl
  | m + 2, n, a, b, r, s, ha, hr, hs => by
    simp only [decF] at hr
    have t : (a ++ b).take 8 = a.take 8 := List.take_append_of_le_length (by omega)
    have d : (a ++ b).drop 8 = a.drop 8 ++ b := List.drop_append_of_le_length (by omega)
    have d2 : (a ++ b).drop 16 = a.drop 16 ++ b := List.drop_append_of_le_length (by omega)
    have t2 : ((a ++ b).drop 8).take 8 = (a.drop 8).take 8 := by rw [d]; exact List.take_append_of_le_length (by simp; omega)
    rw [show m + 2 + n = m + n + 2 by omega]
    simp only [decF, t, t2, d2]
    split at hr
    · rename_i h
      split at hr
      · rename_i h2
        obtain ⟨r', h3, rfl⟩ := Option.map_eq_some_iff.1 hr
        rw [if_pos h, if_pos h2, dec_app m n (a.drop 16) b r' s (by simp; omega) h3 hs]
        rfl
      · cases hr
    · rename_i h
      obtain ⟨r', h3, rfl⟩ := Option.map_eq_some_iff.1 hr
      rw [if_neg h, d, show m + n + 1 = (m + 1) + n by omega, dec_app (m + 1) n (a.drop 8) b r' s (by simp; omega) h3 hs]
      rfl
theorem dec_len : ∀ (m : Nat) (a : List Int) (r : List In6), decF m a = some r → r.length = m
  | 0, a, r, h => by simp only [decF, Option.some.injEq] at h; subst h; rfl
  | 1, a, r, h => by
    simp only [decF] at h; split at h
    · cases h
    · obtain rfl := Option.some.inj h; rfl
  | m + 2, a, r, h => by
    simp only [decF] at h
    split at h
    · split at h
      · obtain ⟨r', h3, rfl⟩ := Option.map_eq_some_iff.1 h
        have := dec_len m _ _ h3
        simp [this]
      · cases h
    · obtain ⟨r', h3, rfl⟩ := Option.map_eq_some_iff.1 h
      have := dec_len (m + 1) _ _ h3
      simp [this]
end Go.Eng
