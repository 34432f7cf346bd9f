import Derived.Test.YtdfelkcioeinfaaDoorEnwZ2
set_option linter.unusedVariables false
set_option linter.unusedSimpArgs false
namespace Go.Eng
open Go
/-! ### machine numbers as numbers -/
namespace W
theorem wu64 (z : Int) : W.wrap .u64 z = z % 18446744073709551616 := by simp [W.wrap, IntKind.wrap, IntKind.bits, IntKind.signed]
theorem wu32 (z : Int) : W.wrap .u32 z = z % 4294967296 := by simp [W.wrap, IntKind.wrap, IntKind.bits, IntKind.signed]
theorem wi64 (z : Int) : W.wrap .i64 z = if z % 18446744073709551616 < 9223372036854775808 then z % 18446744073709551616 else z % 18446744073709551616 - 18446744073709551616 := by
  simp [W.wrap, IntKind.wrap, IntKind.bits, IntKind.signed]; split <;> split <;> omega
theorem wi32 (z : Int) : W.wrap .i32 z = if z % 4294967296 < 2147483648 then z % 4294967296 else z % 4294967296 - 4294967296 := by
  simp [W.wrap, IntKind.wrap, IntKind.bits, IntKind.signed]; split <;> split <;> omega
theorem wi64_id {z : Int} (h : -9223372036854775808 ≤ z) (h' : z < 9223372036854775808) : W.wrap .i64 z = z := by rw [wi64]; split <;> omega
theorem wu64_id {z : Int} (h : 0 ≤ z) (h' : z < 18446744073709551616) : W.wrap .u64 z = z := by rw [wu64]; omega
theorem ofInt_nat (z : Int) : ((BitVec.ofInt 64 z).toNat : Int) = z % 18446744073709551616 := by
  simp only [BitVec.toNat_ofInt]; omega
theorem and_mask (z : Int) (n : Nat) (hn : n ≤ 64) (m : Int) (hm : m = 2 ^ n - 1) : W.and .u64 z m = z % 2 ^ n := by
  subst hm
  have h2 : (2 ^ n - 1 : Int) = ((2 ^ n - 1 : Nat) : Int) := by
    have h1 : 1 ≤ 2 ^ n := Nat.one_le_two_pow
    rw [Int.ofNat_sub h1]; simp
  have h3 : (BitVec.ofInt 64 (2 ^ n - 1)).toNat = 2 ^ n - 1 := by
    have h4 := ofInt_nat (2 ^ n - 1)
    have h5 : 2 ^ n ≤ 2 ^ 64 := Nat.pow_le_pow_right (by omega) hn
    have h6 : 1 ≤ 2 ^ n := Nat.one_le_two_pow
    rw [h2] at h4 ⊢
    omega
  show (((BitVec.ofInt 64 z &&& BitVec.ofInt 64 (2 ^ n - 1)).toNat : Nat) : Int) = _
  rw [BitVec.toNat_and, h3, Nat.and_two_pow_sub_one_eq_mod]
  push_cast
  rw [ofInt_nat]
  have h5 : (2 ^ n : Int) ∣ 18446744073709551616 := by
    rw [show (18446744073709551616 : Int) = 2 ^ 64 by decide]
    exact ⟨2 ^ (64 - n), by rw [← Int.pow_add]; congr 1; omega⟩
  exact Int.emod_emod_of_dvd z h5
theorem and_32 (z : Int) : W.and .u64 z 4294967295 = z % 4294967296 := and_mask z 32 (by omega) _ (by decide)
theorem and_31 (z : Int) : W.and .u64 z 31 = z % 32 := and_mask z 5 (by omega) _ (by decide)
theorem and_63 (z : Int) : W.and .u64 z 63 = z % 64 := and_mask z 6 (by omega) _ (by decide)
theorem and_1 (z : Int) : W.and .u64 z 1 = z % 2 := and_mask z 1 (by omega) _ (by decide)
theorem ne_t {a b : Int} : W.ne a b = true ↔ a ≠ b := by simp [W.ne]
theorem pick_t {c x y : Bool} : W.pick c x y = true ↔ (c = true ∧ x = true) ∨ (c = false ∧ y = true) := by cases c <;> simp [W.pick]
theorem pickf_t {c x : Bool} : W.pick c x false = true ↔ c = true ∧ x = true := by cases c <;> simp [W.pick]
theorem picko_t {c x : Bool} : W.pick c true x = true ↔ c = true ∨ x = true := by cases c <;> simp [W.pick]
theorem eqB_t {a b : Bool} : W.eqB a b = true ↔ a = b := by simp [W.eqB]
end W
theorem br_ite {α : Type} (c : Bool) (x y : α) : br c x y = if c = true then x else y := by cases c <;> rfl
theorem br_t {α : Type} (x y : α) : br true x y = x := by rw [br_ite, if_pos (Eq.refl true)]
theorem br_f {α : Type} (x y : α) : br false x y = y := by rw [br_ite, if_neg (by simp)]
theorem br_l {α : Type} (c : Bool) (a b d : α) : br c (br c a b) d = br c a d := by cases c <;> rfl
theorem br_r {α : Type} (c : Bool) (a b d : α) : br c a (br c b d) = br c a d := by cases c <;> rfl
end Go.Eng
