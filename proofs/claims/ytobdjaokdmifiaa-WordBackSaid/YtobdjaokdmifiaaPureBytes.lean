import Derived.Test.YtobdjaokdmifiaaPureA
set_option linter.unusedVariables false
set_option linter.unusedSimpArgs false
set_option maxHeartbeats 4000000
set_option maxRecDepth 100000
namespace Go.Eng
open Go
namespace W
theorem wu8 (z : Int) : W.wrap .u8 z = z % 256 := by simp [W.wrap, IntKind.wrap, IntKind.bits, IntKind.signed]
theorem wi8 (z : Int) : W.wrap .i8 z = if z % 256 < 128 then z % 256 else z % 256 - 256 := by
  simp [W.wrap, IntKind.wrap, IntKind.bits, IntKind.signed]; split <;> split <;> omega
theorem wi16 (z : Int) : W.wrap .i16 z = if z % 65536 < 32768 then z % 65536 else z % 65536 - 65536 := by
  simp [W.wrap, IntKind.wrap, IntKind.bits, IntKind.signed]; split <;> split <;> omega
theorem or_nat {a b : Int} (ha : 0 ≤ a ∧ a < 18446744073709551616) (hb : 0 ≤ b ∧ b < 18446744073709551616) : W.or .u64 a b = ((a.toNat ||| b.toNat : Nat) : Int) := by
  have h1 : (BitVec.ofInt 64 a).toNat = a.toNat := by have := W.ofInt_nat a; omega
  have h2 : (BitVec.ofInt 64 b).toNat = b.toNat := by have := W.ofInt_nat b; omega
  show (((BitVec.ofInt 64 a ||| BitVec.ofInt 64 b).toNat : Nat) : Int) = _
  rw [BitVec.toNat_or, h1, h2]
theorem or_comm' (a b : Int) : W.or .u64 a b = W.or .u64 b a := by
  simp only [W.or]; rw [BitVec.or_comm]
theorem or_add {a b : Int} (n : Nat) (ha : 0 ≤ a) (h : a * 2 ^ n < 18446744073709551616) (hb : 0 ≤ b) (hb2 : b < 2 ^ n) (hb3 : b < 18446744073709551616) : W.or .u64 (a * 2 ^ n) b = a * 2 ^ n + b := by
  have hp : (0 : Int) < 2 ^ n := Int.pow_pos (by omega)
  have h0 : 0 ≤ a * 2 ^ n := Int.mul_nonneg ha (by omega)
  rw [or_nat ⟨h0, h⟩ ⟨hb, hb3⟩]
  have h6 : ((2 ^ n : Nat) : Int) = (2 : Int) ^ n := by simp
  have h3 := Nat.two_pow_add_eq_or_of_lt (show b.toNat < 2 ^ n by omega) a.toNat
  have h7 : (a * 2 ^ n).toNat = 2 ^ n * a.toNat := by
    have : ((2 ^ n * a.toNat : Nat) : Int) = a * 2 ^ n := by
      rw [Int.natCast_mul, h6, Int.toNat_of_nonneg ha, Int.mul_comm]
    omega
  rw [h7, ← h3, Int.natCast_add, Int.natCast_mul, h6, Int.toNat_of_nonneg ha, Int.toNat_of_nonneg hb, Int.mul_comm]
end W
end Go.Eng
namespace Go.Proofs.Ytobdjaokdmifiaa
open Go Go.Eng
variable {R : Type}
/-- A byte of a list. -/
def bt (l : List Int) (i : Nat) : Int := l.getD i 0
def BtOk (l : List Int) : Prop := ∀ i, 0 ≤ bt l i ∧ bt l i < 256
theorem btOk_wf {l : List Int} (h : ∀ x ∈ l, wfI .u8 x) : BtOk l := by
  intro i
  unfold bt
  rw [List.getD_eq_getElem?_getD]
  cases hx : l[i]? with
  | none => simp
  | some x =>
    have := wfI_iff.1 (h x (List.mem_of_getElem? hx))
    simp [IntKind.min, IntKind.max, IntKind.signed, IntKind.bits] at this
    simp; omega
/-- The number of a list's first bytes, from the last on. -/
def hg (l : List Int) : Nat → Int
  | 0 => 0
  | t + 1 => hg l t * 256 + bt l (7 - t)
theorem hg_lt {l : List Int} (h : BtOk l) : ∀ t, 0 ≤ hg l t ∧ hg l t < 256 ^ t
  | 0 => by simp [hg]
  | t + 1 => by
    have := hg_lt h t
    have := h (7 - t)
    simp only [hg, Int.pow_succ]; omega
theorem shl8 {a : Int} : W.shl .u64 a 8 = a * 256 := by
  unfold W.shl; simp [IntKind.bits]
theorem get_loop {fl : Nat} {l l8 : List Int} (h : BtOk l) (h8 : ∀ i, i < 8 → W.get l8 i (0 : Int) = bt l i) {k : Int → Option R} : ∀ (m e t : Nat), t + m = 8 →
    P_word_Get_5_0 fl (e + m + 1) R (hg l t) (t : Int) l8 k = k (hg l 8)
  | 0, e, t, ht => by
    rw [P_word_Get_5_0_s]
    have : t = 8 := by omega
    subst this
    simp [br_ite, W.lt_t]
  | m + 1, e, t, ht => by
    rw [P_word_Get_5_0_s]
    have hb := h (7 - t)
    have hl := hg_lt h t
    have hp : (256 : Int) ^ t ≤ 256 ^ 7 := by
      have := Nat.pow_le_pow_right (n := 256) (by omega) (show t ≤ 7 by omega)
      have e1 : ((256 ^ t : Nat) : Int) = (256 : Int) ^ t := by simp
      have e2 : ((256 ^ 7 : Nat) : Int) = (256 : Int) ^ 7 := by simp
      omega
    have hp7 : (256 : Int) ^ 7 = 72057594037927936 := by decide
    have e1 : W.wrap .i64 (W.sub 7 (t : Int)) = ((7 - t : Nat) : Int) := by unfold W.sub; rw [W.wi64_id (by omega) (by omega)]; omega
    have e2 : W.wrap .i64 (W.add (t : Int) 1) = ((t + 1 : Nat) : Int) := by unfold W.add; rw [W.wi64_id (by omega) (by omega)]; omega
    have e3 : W.toNat ((7 - t : Nat) : Int) = 7 - t := by simp [W.toNat]
    have e4 : W.wrap .u64 (W.or .u64 (W.wrap .u64 (W.shl .u64 (hg l t) 8)) (W.wrap .u64 (bt l (7 - t)))) = hg l (t + 1) := by
      rw [shl8, W.wu64_id (z := hg l t * 256) (by omega) (by omega), W.wu64_id (z := bt l (7 - t)) (by omega) (by omega)]
      have := W.or_add (a := hg l t) (b := bt l (7 - t)) 8 hl.1 (by have : (2 : Int) ^ 8 = 256 := by decide
                                                                    rw [this]; omega) hb.1 (by have : (2 : Int) ^ 8 = 256 := by decide
                                                                                               omega) (by omega)
      rw [show (2 : Int) ^ 8 = 256 by decide] at this
      rw [this, W.wu64_id (by omega) (by omega)]; rfl
    rw [e1, e2, e3, h8 (7 - t) (by omega), e4]
    have c1 : (t : Int) < 8 := by omega
    have c2 : (0 : Int) ≤ ((7 - t : Nat) : Int) ∧ ((7 - t : Nat) : Int) < 8 := by omega
    simp only [br_ite, W.lt_t, W.and2_t, W.le_t, c1, c2, and_self, if_true]
    exact get_loop h h8 m e (t + 1) (by omega)
theorem pad_get {l : List Int} {i : Nat} (hi : i < 8) : W.get (W.over [0, 0, 0, 0, 0, 0, 0, 0] 0 (W.slice l 0 (W.minN (W.len l) 8))) i (0 : Int) = bt l i := by
  have hlen : (W.slice l 0 (W.minN (W.len l) 8)).length = min l.length 8 := by
    simp only [W.slice, W.minN, W.len, List.drop_zero, List.length_take]; by_cases h8 : l.length ≤ 8 <;> simp only [h8, if_true, if_false] <;> omega
  have hs : (W.slice l 0 (W.minN (W.len l) 8)).length ≤ 8 := by omega
  unfold W.get bt
  rw [List.getD_eq_getElem?_getD, over_get (by simpa using hs), List.getD_eq_getElem?_getD]
  rw [hlen]
  by_cases hc : i < l.length
  · rw [if_pos (by omega)]
    have : (W.slice l 0 (W.minN (W.len l) 8))[i - 0]? = l[i]? := by
      simp only [W.slice, W.minN, W.len, List.drop_zero, List.getElem?_take, Nat.sub_zero]
      rw [if_pos]; by_cases h8 : l.length ≤ 8 <;> simp only [h8, if_true, if_false] <;> omega
    rw [this]
  · rw [if_neg (by omega), List.getElem?_eq_none (by omega : l.length ≤ i)]
    have : ([0, 0, 0, 0, 0, 0, 0, 0] : List Int)[i]? = some 0 := by
      have : i = 0 ∨ i = 1 ∨ i = 2 ∨ i = 3 ∨ i = 4 ∨ i = 5 ∨ i = 6 ∨ i = 7 := by omega
      rcases this with h | h | h | h | h | h | h | h <;> subst h <;> rfl
    rw [this]; rfl
theorem get_eq (l : PTs.D ps_word_Get) (h : BtOk l) (k : Int → Option R) : F_word_Get R l k = k (hg l 8) := by
  simp only [F_word_Get, N_word_Get]
  have := get_loop (R := R) (fl := W.big) (k := k) h (fun i hi => pad_get (l := l) hi) 8 (W.big - 9) 0 rfl
  rw [show W.big - 9 + 8 + 1 = W.big by unfold W.big; omega] at this
  exact this
end Go.Proofs.Ytobdjaokdmifiaa
