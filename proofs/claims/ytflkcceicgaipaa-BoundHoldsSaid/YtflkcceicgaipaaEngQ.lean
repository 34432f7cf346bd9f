/- The engine, part Q: plain laws of the machine's numbers: bits. -/
import Derived.Test.YtflkcceicgaipaaEngO
set_option linter.unusedVariables false
set_option linter.unusedSimpArgs false
namespace Go.Eng
open Go

/-- The bits of a number. -/
abbrev B64 (n : Int) : BitVec 64 := BitVec.ofInt 64 n
/-- The unsigned, and the signed number of bits. -/
def U (v : BitVec 64) : Int := (v.toNat : Int)
def I (v : BitVec 64) : Int := v.toInt

theorem B64U (v : BitVec 64) : B64 (U v) = v := by simp [B64, U]
theorem B64I (v : BitVec 64) : B64 (I v) = v := by simp [B64, I]
theorem U_inj {a b : BitVec 64} : U a = U b ↔ a = b := ⟨fun h => by rw [← B64U a, h, B64U], fun h => by rw [h]⟩
theorem I_inj {a b : BitVec 64} : I a = I b ↔ a = b := ⟨fun h => by rw [← B64I a, h, B64I], fun h => by rw [h]⟩
theorem U_B64 {n : Int} (h : wfI .u64 n) : U (B64 n) = n := by
  simp [wfI, Lit.wf, IntKind.min, IntKind.max, IntKind.signed, IntKind.bits] at h
  simp only [U, B64, BitVec.toNat_ofInt]
  omega
theorem I_B64 {n : Int} (h : wfI .i64 n) : I (B64 n) = n := by
  simp [wfI, Lit.wf, IntKind.min, IntKind.max, IntKind.signed, IntKind.bits] at h
  simp only [I, B64, BitVec.toInt_ofInt]
  rw [Int.bmod_def]
  omega
theorem u64lo {n : Int} (h : wfI .u64 n) : 0 ≤ n ∧ n < 18446744073709551616 := by
  simp [wfI, Lit.wf, IntKind.min, IntKind.max, IntKind.signed, IntKind.bits] at h; omega
theorem i64lo {n : Int} (h : wfI .i64 n) : -9223372036854775808 ≤ n ∧ n < 9223372036854775808 := by
  simp [wfI, Lit.wf, IntKind.min, IntKind.max, IntKind.signed, IntKind.bits] at h; omega
theorem U_lo (v : BitVec 64) : 0 ≤ U v ∧ U v < 18446744073709551616 := by
  have := v.isLt; simp only [U]; omega
theorem I_lo (v : BitVec 64) : -9223372036854775808 ≤ I v ∧ I v < 9223372036854775808 := by
  have h1 := BitVec.toInt_lt (x := v); have h2 := BitVec.le_toInt (x := v)
  simp only [I]; omega
theorem I_eq (v : BitVec 64) : I v = if U v < 9223372036854775808 then U v else U v - 18446744073709551616 := by
  have h0 : U v = (v.toNat : Int) := rfl
  have h1 : I v = if 2 * v.toNat < 2 ^ 64 then (v.toNat : Int) else (v.toNat : Int) - ((2 ^ 64 : Nat) : Int) := BitVec.toInt_eq_toNat_cond v
  have := v.isLt
  rw [h1, h0]
  split <;> split <;> omega
theorem U_eq (v : BitVec 64) : U v = if I v < 0 then I v + 18446744073709551616 else I v := by
  have h := I_eq v; have h2 := U_lo v
  split at h <;> split <;> omega

namespace W
theorem wrap_u64 (z : Int) : W.wrap .u64 z = U (B64 z) := by
  simp only [W.wrap, IntKind.wrap, U, B64, BitVec.toNat_ofInt, IntKind.bits, IntKind.signed, Bool.false_and]
  have := Int.emod_nonneg z (show (2 ^ 64 : Int) ≠ 0 by decide)
  simp only [Bool.false_eq_true, if_false]
  omega
theorem wrap_i64 (z : Int) : W.wrap .i64 z = I (B64 z) := by
  have h1 : I (B64 z) = z.bmod (2 ^ 64) := BitVec.toInt_ofInt ..
  have h2 : W.wrap .i64 z = if 9223372036854775808 ≤ z % 18446744073709551616 then z % 18446744073709551616 - 18446744073709551616 else z % 18446744073709551616 := by
    simp [W.wrap, IntKind.wrap, IntKind.bits, IntKind.signed]
  have h3 : z.bmod (2 ^ 64) = if z % 18446744073709551616 < 9223372036854775808 then z % 18446744073709551616 else z % 18446744073709551616 - 18446744073709551616 := by
    rw [Int.bmod_def]; rfl
  rw [h1, h2, h3]
  split <;> split <;> omega
theorem and_u64 (a b : Int) : W.and .u64 a b = U (B64 a &&& B64 b) := rfl
theorem or_u64 (a b : Int) : W.or .u64 a b = U (B64 a ||| B64 b) := rfl
theorem xor_u64 (a b : Int) : W.xor .u64 a b = U (B64 a ^^^ B64 b) := rfl
theorem andNot_u64 (a b : Int) : W.andNot .u64 a b = U (B64 a &&& ~~~(B64 b)) := rfl
theorem B64add (a b : Int) : B64 (W.add a b) = B64 a + B64 b := by simp [W.add, B64, BitVec.ofInt_add]
theorem B64sub (a b : Int) : B64 (W.sub a b) = B64 a - B64 b := by
  simp only [W.sub, B64, Int.sub_eq_add_neg, BitVec.ofInt_add, BitVec.ofInt_neg, BitVec.sub_eq_add_neg]
theorem B64mul (a b : Int) : B64 (W.mul a b) = B64 a * B64 b := by simp [W.mul, B64, BitVec.ofInt_mul]
end W
theorem dec_eq {p : Prop} [Decidable p] {b : Bool} (h : b = true ↔ p) : b = decide p := by
  cases b <;> simp_all
theorem pick_t {a b : Bool} : W.pick a b false = (a && b) := by cases a <;> rfl
theorem pick_o {a b : Bool} : W.pick a true b = (a || b) := by cases a <;> rfl
theorem pick_n {a : Bool} : W.pick false true a = a := rfl
theorem br_k {α : Type} {R : Type} (k : α → R) (c : Bool) (a b : α) : br c (k a) (k b) = k (bif c then a else b) := by cases c <;> rfl
end Go.Eng
