/- The engine, part Z2: plain laws of the machine's numbers: bits. -/
import Derived.Test.YtdfelkcioeinfaaDoorEnwZ3
set_option linter.unusedVariables false
set_option linter.unusedSimpArgs false
namespace Go.Eng
open Go

/-- The bits of a number. -/
abbrev B64 (n : Int) : BitVec 64 := BitVec.ofInt 64 n
/-- The unsigned, and the signed number of bits. -/
def U (v : BitVec 64) : Int := (v.toNat : Int)
def I (v : BitVec 64) : Int := v.toInt

theorem B64_U (v : BitVec 64) : B64 (U v) = v := by simp [B64, U]
theorem B64_I (v : BitVec 64) : B64 (I v) = v := by simp [B64, I]
theorem U_inj {a b : BitVec 64} : U a = U b ↔ a = b := ⟨fun h => by rw [← B64_U a, h, B64_U], fun h => by rw [h]⟩
theorem I_inj {a b : BitVec 64} : I a = I b ↔ a = b := ⟨fun h => by rw [← B64_I a, h, B64_I], fun h => by rw [h]⟩
theorem U_B64 {n : Int} (h : wfI .u64 n) : U (B64 n) = n := by
  simp [wfI, Lit.wf, IntKind.min, IntKind.max, IntKind.signed, IntKind.bits] at h
  simp only [U, B64, BitVec.toNat_ofInt]
  omega
theorem I_B64 {n : Int} (h : wfI .i64 n) : I (B64 n) = n := by
  simp [wfI, Lit.wf, IntKind.min, IntKind.max, IntKind.signed, IntKind.bits] at h
  simp only [I, B64, BitVec.toInt_ofInt]
  rw [Int.bmod_def]
  omega
theorem u64_lo {n : Int} (h : wfI .u64 n) : 0 ≤ n ∧ n < 18446744073709551616 := by
  simp [wfI, Lit.wf, IntKind.min, IntKind.max, IntKind.signed, IntKind.bits] at h; omega
theorem i64_lo {n : Int} (h : wfI .i64 n) : -9223372036854775808 ≤ n ∧ n < 9223372036854775808 := by
  simp [wfI, Lit.wf, IntKind.min, IntKind.max, IntKind.signed, IntKind.bits] at h; omega
theorem U_lo (v : BitVec 64) : 0 ≤ U v ∧ U v < 18446744073709551616 := by
  have := v.isLt; simp only [U]; omega
theorem I_lo (v : BitVec 64) : -9223372036854775808 ≤ I v ∧ I v < 9223372036854775808 := by
  have h1 := BitVec.toInt_lt (x := v); have h2 := BitVec.le_toInt (x := v)
  simp only [I]; omega
theorem I_eq (v : BitVec 64) : I v = if U v < 9223372036854775808 then U v else U v - 18446744073709551616 := by
  have h0 : U v = (v.toNat : Int) := rfl
  have h1 : I v = if 2 * v.toNat < 2 ^ 64 then (v.toNat : Int) else (v.toNat : Int) - ((2 ^ 64 : Nat) : Int) := BitVec.toInt_eq_toNat_cond v
  have := v.isLt
  rw [h1, h0]
  split <;> split <;> omega
theorem U_eq (v : BitVec 64) : U v = if I v < 0 then I v + 18446744073709551616 else I v := by
  have h := I_eq v; have h2 := U_lo v
  split at h <;> split <;> omega

namespace W
theorem wrap_u64 (z : Int) : W.wrap .u64 z = U (B64 z) := by
  simp only [W.wrap, IntKind.wrap, U, B64, BitVec.toNat_ofInt, IntKind.bits, IntKind.signed, Bool.false_and]
  have := Int.emod_nonneg z (show (2 ^ 64 : Int) ≠ 0 by decide)
  simp only [Bool.false_eq_true, if_false]
  omega
theorem wrap_i64 (z : Int) : W.wrap .i64 z = I (B64 z) := by
  have h1 : I (B64 z) = z.bmod (2 ^ 64) := BitVec.toInt_ofInt ..
  have h2 : W.wrap .i64 z = if 9223372036854775808 ≤ z % 18446744073709551616 then z % 18446744073709551616 - 18446744073709551616 else z % 18446744073709551616 := by
    simp [W.wrap, IntKind.wrap, IntKind.bits, IntKind.signed]
  have h3 : z.bmod (2 ^ 64) = if z % 18446744073709551616 < 9223372036854775808 then z % 18446744073709551616 else z % 18446744073709551616 - 18446744073709551616 := by
    rw [Int.bmod_def]; rfl
  rw [h1, h2, h3]
  split <;> split <;> omega
theorem and_u64 (a b : Int) : W.and .u64 a b = U (B64 a &&& B64 b) := rfl
theorem or_u64 (a b : Int) : W.or .u64 a b = U (B64 a ||| B64 b) := rfl
theorem xor_u64 (a b : Int) : W.xor .u64 a b = U (B64 a ^^^ B64 b) := rfl
theorem andNot_u64 (a b : Int) : W.andNot .u64 a b = U (B64 a &&& ~~~(B64 b)) := rfl
theorem B64_add (a b : Int) : B64 (W.add a b) = B64 a + B64 b := by simp [W.add, B64, BitVec.ofInt_add]
theorem B64_sub (a b : Int) : B64 (W.sub a b) = B64 a - B64 b := by
  simp only [W.sub, B64, Int.sub_eq_add_neg, BitVec.ofInt_add, BitVec.ofInt_neg, BitVec.sub_eq_add_neg]
theorem B64_mul (a b : Int) : B64 (W.mul a b) = B64 a * B64 b := by simp [W.mul, B64, BitVec.ofInt_mul]
end W
theorem dec_eq {p : Prop} [Decidable p] {b : Bool} (h : b = true ↔ p) : b = decide p := by
  cases b <;> simp_all
theorem pick_t {a b : Bool} : W.pick a b false = (a && b) := by cases a <;> rfl
theorem pick_o {a b : Bool} : W.pick a true b = (a || b) := by cases a <;> rfl
theorem pick_n {a : Bool} : W.pick false true a = a := rfl
theorem br_k {α : Type} {R : Type} (k : α → R) (c : Bool) (a b : α) : br c (k a) (k b) = k (bif c then a else b) := by cases c <;> rfl

/-! ### the order with signs -/
abbrev top : BitVec 64 := BitVec.intMin 64
theorem and_top {x : BitVec 64} (h : x.toNat < 9223372036854775808) : x &&& top = 0#64 := by
  have hm : x.msb = false := by rw [BitVec.msb_eq_decide]; simp; omega
  apply BitVec.eq_of_getLsbD_eq; intro i hi
  rw [BitVec.getLsbD_and, BitVec.getLsbD_intMin, BitVec.getLsbD_zero]
  by_cases h63 : i = 63
  · subst h63; rw [BitVec.msb_eq_getLsbD_last] at hm; simp at hm; simp [hm]
  · simp; omega
theorem flip_lo {x : BitVec 64} (h : x.toNat < 9223372036854775808) : (x ^^^ top).toNat = x.toNat + 9223372036854775808 := by
  have h0 := and_top h
  have h1 : x ^^^ top = x + top := by
    rw [BitVec.add_eq_or_of_and_eq_zero _ _ h0]
    apply BitVec.eq_of_getLsbD_eq; intro i hi
    have h2 : (x &&& top).getLsbD i = false := by rw [h0]; simp
    rw [BitVec.getLsbD_and] at h2
    rw [BitVec.getLsbD_xor, BitVec.getLsbD_or]
    revert h2; cases x.getLsbD i <;> cases top.getLsbD i <;> simp
  have h3 : top.toNat = 9223372036854775808 := by decide
  rw [h1, BitVec.toNat_add, h3]
  omega
theorem flip_flip (x : BitVec 64) : (x ^^^ top) ^^^ top = x := by rw [BitVec.xor_assoc]; simp
theorem flip_nat (x : BitVec 64) : ((x ^^^ top).toNat : Int) = I x + 9223372036854775808 := by
  have h1 := I_eq x; have h0 : U x = x.toNat := rfl
  have hx := x.isLt
  by_cases h : x.toNat < 9223372036854775808
  · rw [flip_lo h, h1, if_pos (by omega)]; omega
  · have h2 : (x ^^^ top).toNat < 9223372036854775808 := by
      false_or_by_contra
      rename_i h3
      have h4 : x.msb = true := by rw [BitVec.msb_eq_decide]; simp; omega
      have h5 : (x ^^^ top).msb = true := by rw [BitVec.msb_eq_decide]; simp only [decide_eq_true_eq]; omega
      rw [BitVec.msb_xor, h4] at h5
      simp [BitVec.msb_intMin] at h5
    have h3 := flip_lo h2
    rw [flip_flip] at h3
    rw [h1, if_neg (by omega)]; omega
theorem I_le {x y : BitVec 64} : I x ≤ I y ↔ U (x ^^^ top) ≤ U (y ^^^ top) := by
  have h1 := flip_nat x; have h2 := flip_nat y
  simp only [U]; omega
theorem bits_lo (x m : BitVec 64) : U (x &&& ~~~m) ≤ U x := by
  have : (x &&& ~~~m).toNat ≤ x.toNat := by rw [BitVec.toNat_and]; exact Nat.and_le_left
  simp only [U]; omega
theorem bits_hi (x m : BitVec 64) : U x ≤ U ((x &&& ~~~m) ||| m) := by
  have h : (x &&& ~~~m) ||| m = x ||| m := by
    ext i hi; simp; cases x[i] <;> cases m[i] <;> rfl
  rw [h]
  have : x.toNat ≤ (x ||| m).toNat := by rw [BitVec.toNat_or]; exact Nat.left_le_or
  simp only [U]; omega
theorem bits_slo (x m : BitVec 64) : I ((x &&& ~~~m) ||| (m &&& top)) ≤ I x := by
  rw [I_le]
  have : ((x &&& ~~~m) ||| (m &&& top)) ^^^ top = (x ^^^ top) &&& ~~~m := by
    ext i hi; simp only [BitVec.getElem_xor, BitVec.getElem_or, BitVec.getElem_and, BitVec.getElem_not]
    cases x[i] <;> cases m[i] <;> cases top[i] <;> rfl
  rw [this]; exact bits_lo _ _
theorem bits_shi (x m : BitVec 64) : I x ≤ I ((x &&& ~~~m) ||| (m &&& ~~~top)) := by
  rw [I_le]
  have : ((x &&& ~~~m) ||| (m &&& ~~~top)) ^^^ top = ((x ^^^ top) &&& ~~~m) ||| m := by
    ext i hi; simp only [BitVec.getElem_xor, BitVec.getElem_or, BitVec.getElem_and, BitVec.getElem_not]
    cases x[i] <;> cases m[i] <;> cases top[i] <;> rfl
  rw [this]; exact bits_hi _ _
theorem B64_top : B64 9223372036854775808 = top := by decide
theorem I_of_u {n : Int} (h : wfI .u64 n) : I (B64 n) = if n < 9223372036854775808 then n else n - 18446744073709551616 := by
  rw [I_eq, U_B64 h]
theorem U_of_i {n : Int} (h : wfI .i64 n) : U (B64 n) = if n < 0 then n + 18446744073709551616 else n := by
  rw [U_eq, I_B64 h]
theorem wf_U (v : BitVec 64) : wfI .u64 (U v) := by
  have := U_lo v; simp [wfI, Lit.wf, IntKind.min, IntKind.max, IntKind.signed, IntKind.bits]; omega
theorem wf_I (v : BitVec 64) : wfI .i64 (I v) := by
  have := I_lo v; simp [wfI, Lit.wf, IntKind.min, IntKind.max, IntKind.signed, IntKind.bits]; omega
theorem wf_max {k : IntKind} {a b : Int} (ha : wfI k a) (hb : wfI k b) : wfI k (W.max a b) := by unfold W.max; split <;> assumption
theorem wf_min {k : IntKind} {a b : Int} (ha : wfI k a) (hb : wfI k b) : wfI k (W.min a b) := by unfold W.min; split <;> assumption
theorem W.max_le {a b c : Int} : W.max a b ≤ c ↔ a ≤ c ∧ b ≤ c := by unfold W.max; split <;> omega
theorem W.le_min {a b c : Int} : c ≤ W.min a b ↔ c ≤ a ∧ c ≤ b := by unfold W.min; split <;> omega
end Go.Eng
