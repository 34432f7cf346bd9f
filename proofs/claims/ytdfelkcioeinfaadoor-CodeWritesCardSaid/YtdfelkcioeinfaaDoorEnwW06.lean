/- Plain laws of the target's words: with no program in sight. -/
import Derived.Test.YtdfelkcioeinfaaDoorEnwW03
set_option linter.unusedVariables false
set_option linter.unusedSimpArgs false
set_option maxHeartbeats 4000000
set_option maxRecDepth 100000
namespace Go.Eng
open Go
namespace W
theorem ofInt32_nat (z : Int) : ((BitVec.ofInt 32 z).toNat : Int) = z % 4294967296 := by
  simp only [BitVec.toNat_ofInt]; omega
theorem or32_nat {a b : Int} (ha : 0 ≤ a ∧ a < 4294967296) (hb : 0 ≤ b ∧ b < 4294967296) : W.or .u32 a b = ((a.toNat ||| b.toNat : Nat) : Int) := by
  have h1 : (BitVec.ofInt 32 a).toNat = a.toNat := by have := ofInt32_nat a; omega
  have h2 : (BitVec.ofInt 32 b).toNat = b.toNat := by have := ofInt32_nat b; omega
  show (((BitVec.ofInt 32 a ||| BitVec.ofInt 32 b).toNat : Nat) : Int) = _
  rw [BitVec.toNat_or, h1, h2]
theorem or32_add {a b : Int} (n : Nat) (ha : 0 ≤ a) (h : a * 2 ^ n < 4294967296) (hb : 0 ≤ b) (hb2 : b < 2 ^ n) (hb3 : b < 4294967296) : W.or .u32 (a * 2 ^ n) b = a * 2 ^ n + b := by
  have hp : (0 : Int) < 2 ^ n := Int.pow_pos (by omega)
  have h0 : 0 ≤ a * 2 ^ n := Int.mul_nonneg ha (by omega)
  rw [or32_nat ⟨h0, h⟩ ⟨hb, hb3⟩]
  have h6 : ((2 ^ n : Nat) : Int) = (2 : Int) ^ n := by simp
  have h3 := Nat.two_pow_add_eq_or_of_lt (show b.toNat < 2 ^ n by omega) a.toNat
  have h7 : (a * 2 ^ n).toNat = 2 ^ n * a.toNat := by
    have : ((2 ^ n * a.toNat : Nat) : Int) = a * 2 ^ n := by
      rw [Int.natCast_mul, h6, Int.toNat_of_nonneg ha, Int.mul_comm]
    omega
  rw [h7, ← h3, Int.natCast_add, Int.natCast_mul, h6, Int.toNat_of_nonneg ha, Int.toNat_of_nonneg hb, Int.mul_comm]
/-- Two parts of a word that do not meet. -/
theorem orw {a b m : Int} (n : Nat) (hm : m = 2 ^ n) (ha : 0 ≤ a ∧ a < 4294967296) (hd : a % m = 0) (hb : 0 ≤ b) (hb2 : b < m) (hb3 : b < 4294967296) : W.wrap .u32 (W.or .u32 a b) = a + b := by
  subst hm
  have hp : (0 : Int) < 2 ^ n := Int.pow_pos (by omega)
  have e : a = a / 2 ^ n * 2 ^ n := by rw [Int.ediv_mul_cancel (Int.dvd_of_emod_eq_zero hd)]
  have h0 : 0 ≤ a / 2 ^ n := Int.ediv_nonneg ha.1 (by omega)
  have h1 := or32_add (a := a / 2 ^ n) (b := b) n h0 (by omega) hb hb2 hb3
  rw [← e] at h1
  have h2 : W.or .u32 a b < 4294967296 ∧ 0 ≤ W.or .u32 a b := by
    have h3 : W.or .u32 a b = (((BitVec.ofInt 32 a ||| BitVec.ofInt 32 b).toNat : Nat) : Int) := rfl
    have := (BitVec.ofInt 32 a ||| BitVec.ofInt 32 b).isLt
    omega
  rw [wu32]
  omega
theorem and32_mask (z : Int) (n : Nat) (hn : n ≤ 32) (m p : Int) (hm : m = 2 ^ n - 1) (hp : p = 2 ^ n) : W.and .u32 z m = z % p := by
  subst hm; subst hp
  have h2 : (2 ^ n - 1 : Int) = ((2 ^ n - 1 : Nat) : Int) := by
    have h1 : 1 ≤ 2 ^ n := Nat.one_le_two_pow
    rw [Int.ofNat_sub h1]; simp
  have h3 : (BitVec.ofInt 32 (2 ^ n - 1)).toNat = 2 ^ n - 1 := by
    have h4 := ofInt32_nat (2 ^ n - 1)
    have h5 : 2 ^ n ≤ 2 ^ 32 := Nat.pow_le_pow_right (by omega) hn
    have h6 : 1 ≤ 2 ^ n := Nat.one_le_two_pow
    rw [h2] at h4 ⊢
    omega
  show (((BitVec.ofInt 32 z &&& BitVec.ofInt 32 (2 ^ n - 1)).toNat : Nat) : Int) = _
  rw [BitVec.toNat_and, h3, Nat.and_two_pow_sub_one_eq_mod]
  push_cast
  rw [ofInt32_nat]
  have h5 : (2 ^ n : Int) ∣ 4294967296 := by
    rw [show (4294967296 : Int) = 2 ^ 32 by decide]
    exact ⟨2 ^ (32 - n), by rw [← Int.pow_add]; congr 1; omega⟩
  exact Int.emod_emod_of_dvd z h5
end W
theorem shr32w {x : Int} (n : Nat) (c p : Int) (hc : c = n) (hp : p = 2 ^ n) (h : n ≤ 32) : W.shr .u32 x c = x / p := by
  subst hc; subst hp
  unfold W.shr
  have : min (n : Int).toNat IntKind.u32.bits = n := by simp [IntKind.bits]; omega
  rw [this, Int.fdiv_eq_ediv_of_nonneg _ (Int.pow_nonneg (by omega))]
theorem shl32w {x : Int} (n : Nat) (c p : Int) (hc : c = n) (hp : p = 2 ^ n) (h : n ≤ 32) : W.shl .u32 x c = x * p := by
  subst hc; subst hp
  unfold W.shl
  have : min (n : Int).toNat IntKind.u32.bits = n := by simp [IntKind.bits]; omega
  rw [this]
theorem alu_ok {f x y : Int} {w : Bool} : (alu f x y w).2 = true ↔ f = 0 ∨ f = 16 ∨ f = 32 ∨ f = 48 ∨ f = 64 ∨ f = 80 ∨ f = 96 ∨ f = 112 ∨ f = 128 ∨ f = 144 ∨ f = 160 ∨ f = 176 ∨ f = 192 := by
  unfold alu
  (repeat' split) <;> simp <;> omega
abbrev RI := Int × Int × Int × Int × Int × Bool × Int × Int
/-- A condition's number, a number's condition. -/
def idx (c : Int) : Int := if c = 16 then 0 else if c = 32 then 1 else if c = 48 then 2 else if c = 64 then 3 else if c = 80 then 4 else if c = 96 then 5 else if c = 112 then 6 else if c = 160 then 7 else if c = 176 then 8 else if c = 192 then 9 else if c = 208 then 10 else -1
def cdn (i : Int) : Int := if i = 0 then 16 else if i = 1 then 32 else if i = 2 then 48 else if i = 3 then 64 else if i = 4 then 80 else if i = 5 then 96 else if i = 6 then 112 else if i = 7 then 160 else if i = 8 then 176 else if i = 9 then 192 else if i = 10 then 208 else -1
theorem idx_le (c : Int) : -1 ≤ idx c ∧ idx c ≤ 10 := by
  unfold idx; (repeat' split) <;> omega
theorem cdn_idx {c : Int} (h : 0 ≤ idx c) : cdn (idx c) = c := by
  unfold idx at h ⊢
  (repeat' split) <;> first | (subst_vars; decide) | (simp_all)
theorem idx_cdn {i : Int} (h : 0 ≤ i) (h' : i ≤ 10) : idx (cdn i) = i := by
  unfold cdn
  (repeat' split) <;> first | (subst_vars; decide) | omega
theorem cdn_no {i : Int} (h : 10 < i) : cdn i = -1 := by
  unfold cdn; (repeat' split) <;> first | rfl | omega
def b1 (w : Bool) : Int := if w then 1 else 0
theorem b1_le (w : Bool) : 0 ≤ b1 w ∧ b1 w ≤ 1 := by cases w <;> decide
/-- Of so many bits with a sign. -/
def sx (m v : Int) : Int := if m / 2 ≤ v % m then v % m - m else v % m
/-- Which instructions may be. -/
def okR (x : RI) : Prop := match x with
  | (op, D, A, B, Fn, Wd, Pt, Im) =>
    (op = 1 ∧ (0 ≤ D ∧ D ≤ 31) ∧ (0 ≤ A ∧ A ≤ 31) ∧ (0 ≤ B ∧ B ≤ 31) ∧ (alu Fn 0 0 true).2 = true ∧ Pt = 0 ∧ Im = 0) ∨
    ((op = 2 ∨ op = 3) ∧ (0 ≤ D ∧ D ≤ 31) ∧ A = 0 ∧ B = 0 ∧ Fn = 0 ∧ Wd = false ∧ (0 ≤ Pt ∧ Pt ≤ 3) ∧ (0 ≤ Im ∧ Im ≤ 65535)) ∨
    ((4 ≤ op ∧ op < 12) ∧ (0 ≤ D ∧ D ≤ 31) ∧ (0 ≤ A ∧ A ≤ 31) ∧ B = 0 ∧ Fn = 0 ∧ Wd = false ∧ Pt = 0 ∧ (-32768 ≤ Im ∧ Im ≤ 32767)) ∨
    ((12 ≤ op ∧ op < 20) ∧ D = 0 ∧ (0 ≤ A ∧ A ≤ 31) ∧ B = 0 ∧ Fn = 0 ∧ Wd = false ∧ Pt = 0 ∧ (-32768 ≤ Im ∧ Im ≤ 32767)) ∨
    (op = 20 ∧ D = 0 ∧ (0 ≤ A ∧ A ≤ 31) ∧ (0 ≤ B ∧ B ≤ 31) ∧ 0 ≤ idx Fn ∧ Pt = 0 ∧ (-1024 ≤ Im ∧ Im ≤ 1023)) ∨
    (op = 21 ∧ D = 0 ∧ A = 0 ∧ B = 0 ∧ Fn = 0 ∧ Wd = false ∧ Pt = 0 ∧ (-33554432 ≤ Im ∧ Im ≤ 33554431)) ∨
    (op = 22 ∧ D = 0 ∧ A = 0 ∧ B = 0 ∧ Fn = 0 ∧ Wd = false ∧ Pt = 0 ∧ (1 ≤ Im ∧ Im ≤ 5)) ∨
    (op = 23 ∧ D = 0 ∧ A = 0 ∧ B = 0 ∧ Fn = 0 ∧ Wd = false ∧ Pt = 0 ∧ Im = 0) ∨
    ((op = 24 ∨ op = 25) ∧ (0 ≤ D ∧ D ≤ 31) ∧ A = 0 ∧ B = 0 ∧ Fn = 0 ∧ Wd = false ∧ Pt = 0 ∧ (0 ≤ Im ∧ Im ≤ 255)) ∨
    ((op = 26 ∨ op = 27) ∧ (0 ≤ D ∧ D ≤ 31) ∧ A = 0 ∧ B = 0 ∧ Fn = 0 ∧ Wd = false ∧ Pt = 0 ∧ Im = 0)
/-- A right instruction's word. -/
def encI (x : RI) : Int := match x with
  | (op, D, A, B, Fn, Wd, Pt, Im) =>
    if op = 1 then op * 67108864 + D * 2097152 + A * 65536 + B * 2048 + b1 Wd * 1024 + Fn / 16 * 64
    else if op = 2 ∨ op = 3 then op * 67108864 + D * 2097152 + Pt * 524288 + Im
    else if 4 ≤ op ∧ op < 12 then op * 67108864 + D * 2097152 + A * 65536 + Im % 65536
    else if 12 ≤ op ∧ op < 20 then op * 67108864 + A * 65536 + Im % 65536
    else if op = 20 then op * 67108864 + A * 2097152 + B * 65536 + idx Fn * 4096 + b1 Wd * 2048 + Im % 2048
    else if op = 21 then op * 67108864 + Im % 67108864
    else if op = 22 then op * 67108864 + Im
    else if op = 24 ∨ op = 25 then op * 67108864 + D * 2097152 + Im
    else if op = 26 ∨ op = 27 then op * 67108864 + D * 2097152
    else op * 67108864
/-- What a word's parts say. -/
def rawR (w : Int) : RI :=
  if w / 67108864 = 1 then (w / 67108864, w / 2097152 % 32, w / 65536 % 32, w / 2048 % 32, 16 * (w / 64 % 16), decide (w / 1024 % 2 = 1), 0, 0)
  else if w / 67108864 = 2 ∨ w / 67108864 = 3 then (w / 67108864, w / 2097152 % 32, 0, 0, 0, false, w / 524288 % 4, w % 65536)
  else if 4 ≤ w / 67108864 ∧ w / 67108864 < 12 then (w / 67108864, w / 2097152 % 32, w / 65536 % 32, 0, 0, false, 0, sx 65536 w)
  else if 12 ≤ w / 67108864 ∧ w / 67108864 < 20 then (w / 67108864, 0, w / 65536 % 32, 0, 0, false, 0, sx 65536 w)
  else if w / 67108864 = 20 then (w / 67108864, 0, w / 2097152 % 32, w / 65536 % 32, cdn (w / 4096 % 16), decide (w / 2048 % 2 = 1), 0, sx 2048 w)
  else if w / 67108864 = 21 then (w / 67108864, 0, 0, 0, 0, false, 0, sx 67108864 w)
  else if w / 67108864 = 22 then (w / 67108864, 0, 0, 0, 0, false, 0, w % 67108864)
  else if w / 67108864 = 24 ∨ w / 67108864 = 25 then (w / 67108864, w / 2097152 % 32, 0, 0, 0, false, 0, w % 65536)
  else if w / 67108864 = 26 ∨ w / 67108864 = 27 then (w / 67108864, w / 2097152 % 32, 0, 0, 0, false, 0, 0)
  else (w / 67108864, 0, 0, 0, 0, false, 0, 0)
theorem enc_lt {x : RI} (h : okR x) : 0 ≤ encI x ∧ encI x < 4294967296 := by
  obtain ⟨op, D, A, B, Fn, Wd, Pt, Im⟩ := x
  have hw := b1_le Wd
  have hi := idx_le Fn
  simp only [okR, alu_ok] at h
  simp only [encI]
  (repeat' split) <;> omega
theorem sx_of {m v i : Int} (hm : 0 < m) (h2 : m % 2 = 0) (hv : v % m = i % m) (h : -(m / 2) ≤ i ∧ i < m / 2) : sx m v = i := by
  unfold sx
  rw [hv]
  have h3 : m = 2 * (m / 2) := by omega
  by_cases hi : 0 ≤ i
  · rw [Int.emod_eq_of_lt hi (by omega), if_neg (by omega)]
  · have : i % m = i + m := by
      rw [← Int.add_emod_right]
      exact Int.emod_eq_of_lt (by omega) (by omega)
    rw [this, if_pos (by omega)]
    omega
theorem b1_d {w : Bool} {n : Int} (h : n = b1 w) : decide (n = 1) = w := by
  subst h; cases w <;> decide
/-- What is written is read. -/
theorem raw_enc {x : RI} (h : okR x) : rawR (encI x) = x := by
  obtain ⟨op, D, A, B, Fn, Wd, Pt, Im⟩ := x
  have hw := b1_le Wd
  have hi := idx_le Fn
  simp only [okR] at h
  rcases h with ⟨rfl, hD, hA, hB, hF, rfl, rfl⟩ | ⟨ho, hD, rfl, rfl, rfl, rfl, hP, hI⟩ | ⟨ho, hD, hA, rfl, rfl, rfl, rfl, hI⟩ | ⟨ho, rfl, hA, rfl, rfl, rfl, rfl, hI⟩ | ⟨rfl, rfl, hA, hB, hF, rfl, hI⟩ |
    ⟨rfl, rfl, rfl, rfl, rfl, rfl, rfl, hI⟩ | ⟨rfl, rfl, rfl, rfl, rfl, rfl, rfl, hI⟩ | ⟨rfl, rfl, rfl, rfl, rfl, rfl, rfl, rfl⟩ | ⟨ho, hD, rfl, rfl, rfl, rfl, rfl, hI⟩ | ⟨ho, hD, rfl, rfl, rfl, rfl, rfl, rfl⟩
  · rw [alu_ok] at hF
    simp only [encI, if_true]
    generalize hE : (1 : Int) * 67108864 + D * 2097152 + A * 65536 + B * 2048 + b1 Wd * 1024 + Fn / 16 * 64 = w
    have e1 : w / 67108864 = 1 := by omega
    simp only [rawR, e1, if_true, Prod.mk.injEq, true_and, and_true]
    refine ⟨by omega, by omega, by omega, by omega, b1_d (by omega)⟩
  · have e0 : op ≠ 1 := by omega
    simp only [encI, if_neg e0, if_pos ho]
    generalize hE : op * 67108864 + D * 2097152 + Pt * 524288 + Im = w
    have e1 : w / 67108864 = op := by omega
    simp only [rawR, e1, if_neg e0, if_pos ho, Prod.mk.injEq, true_and, and_true]
    omega
  · have e0 : op ≠ 1 := by omega
    have e2 : ¬ (op = 2 ∨ op = 3) := by omega
    simp only [encI, if_neg e0, if_neg e2, if_pos ho]
    generalize hE : op * 67108864 + D * 2097152 + A * 65536 + Im % 65536 = w
    have e1 : w / 67108864 = op := by omega
    simp only [rawR, e1, if_neg e0, if_neg e2, if_pos ho, Prod.mk.injEq, true_and, and_true]
    exact ⟨by omega, by omega, sx_of (by omega) (by omega) (by omega) (by omega)⟩
  · have e0 : op ≠ 1 := by omega
    have e2 : ¬ (op = 2 ∨ op = 3) := by omega
    have e3 : ¬ (4 ≤ op ∧ op < 12) := by omega
    simp only [encI, if_neg e0, if_neg e2, if_neg e3, if_pos ho]
    generalize hE : op * 67108864 + A * 65536 + Im % 65536 = w
    have e1 : w / 67108864 = op := by omega
    simp only [rawR, e1, if_neg e0, if_neg e2, if_neg e3, if_pos ho, Prod.mk.injEq, true_and, and_true]
    exact ⟨by omega, sx_of (by omega) (by omega) (by omega) (by omega)⟩
  · simp only [encI, show ¬ ((20 : Int) = 1) by decide, show ¬ ((20 : Int) = 2 ∨ (20 : Int) = 3) by decide, show ¬ (4 ≤ (20 : Int) ∧ (20 : Int) < 12) by decide, show ¬ (12 ≤ (20 : Int) ∧ (20 : Int) < 20) by decide, if_false, if_true]
    generalize hE : (20 : Int) * 67108864 + A * 2097152 + B * 65536 + idx Fn * 4096 + b1 Wd * 2048 + Im % 2048 = w
    have e1 : w / 67108864 = 20 := by omega
    have e9 : w / 4096 % 16 = idx Fn := by omega
    simp only [rawR, e1, show ¬ ((20 : Int) = 1) by decide, show ¬ ((20 : Int) = 2 ∨ (20 : Int) = 3) by decide, show ¬ (4 ≤ (20 : Int) ∧ (20 : Int) < 12) by decide, show ¬ (12 ≤ (20 : Int) ∧ (20 : Int) < 20) by decide, if_false, if_true, Prod.mk.injEq, true_and, and_true]
    exact ⟨by omega, by omega, by rw [e9, cdn_idx hF], b1_d (by omega), sx_of (by omega) (by omega) (by omega) (by omega)⟩
  · simp only [encI, show ¬ ((21 : Int) = 1) by decide, show ¬ ((21 : Int) = 2 ∨ (21 : Int) = 3) by decide, show ¬ (4 ≤ (21 : Int) ∧ (21 : Int) < 12) by decide, show ¬ (12 ≤ (21 : Int) ∧ (21 : Int) < 20) by decide, show ¬ ((21 : Int) = 20) by decide, if_false, if_true]
    generalize hE : (21 : Int) * 67108864 + Im % 67108864 = w
    have e1 : w / 67108864 = 21 := by omega
    simp only [rawR, e1, show ¬ ((21 : Int) = 1) by decide, show ¬ ((21 : Int) = 2 ∨ (21 : Int) = 3) by decide, show ¬ (4 ≤ (21 : Int) ∧ (21 : Int) < 12) by decide, show ¬ (12 ≤ (21 : Int) ∧ (21 : Int) < 20) by decide, show ¬ ((21 : Int) = 20) by decide, if_false, if_true, Prod.mk.injEq, true_and, and_true]
    exact sx_of (by omega) (by omega) (by omega) (by omega)
  · simp only [encI, show ¬ ((22 : Int) = 1) by decide, show ¬ ((22 : Int) = 2 ∨ (22 : Int) = 3) by decide, show ¬ (4 ≤ (22 : Int) ∧ (22 : Int) < 12) by decide, show ¬ (12 ≤ (22 : Int) ∧ (22 : Int) < 20) by decide, show ¬ ((22 : Int) = 20) by decide, show ¬ ((22 : Int) = 21) by decide, if_false, if_true]
    generalize hE : (22 : Int) * 67108864 + Im = w
    have e1 : w / 67108864 = 22 := by omega
    simp only [rawR, e1, show ¬ ((22 : Int) = 1) by decide, show ¬ ((22 : Int) = 2 ∨ (22 : Int) = 3) by decide, show ¬ (4 ≤ (22 : Int) ∧ (22 : Int) < 12) by decide, show ¬ (12 ≤ (22 : Int) ∧ (22 : Int) < 20) by decide, show ¬ ((22 : Int) = 20) by decide, show ¬ ((22 : Int) = 21) by decide, if_false, if_true, Prod.mk.injEq, true_and, and_true]
    omega
  · simp [encI, rawR]
  · have e0 : op ≠ 1 := by omega
    have e2 : ¬ (op = 2 ∨ op = 3) := by omega
    have e3 : ¬ (4 ≤ op ∧ op < 12) := by omega
    have e4 : ¬ (12 ≤ op ∧ op < 20) := by omega
    have e5 : op ≠ 20 := by omega
    have e6 : op ≠ 21 := by omega
    have e7 : op ≠ 22 := by omega
    simp only [encI, if_neg e0, if_neg e2, if_neg e3, if_neg e4, if_neg e5, if_neg e6, if_neg e7, if_pos ho]
    generalize hE : op * 67108864 + D * 2097152 + Im = w
    have e1 : w / 67108864 = op := by omega
    simp only [rawR, e1, if_neg e0, if_neg e2, if_neg e3, if_neg e4, if_neg e5, if_neg e6, if_neg e7, if_pos ho, Prod.mk.injEq, true_and, and_true]
    omega
  · have e0 : op ≠ 1 := by omega
    have e2 : ¬ (op = 2 ∨ op = 3) := by omega
    have e3 : ¬ (4 ≤ op ∧ op < 12) := by omega
    have e4 : ¬ (12 ≤ op ∧ op < 20) := by omega
    have e5 : op ≠ 20 := by omega
    have e6 : op ≠ 21 := by omega
    have e7 : op ≠ 22 := by omega
    have e8 : ¬ (op = 24 ∨ op = 25) := by omega
    simp only [encI, if_neg e0, if_neg e2, if_neg e3, if_neg e4, if_neg e5, if_neg e6, if_neg e7, if_neg e8, if_pos ho]
    generalize hE : op * 67108864 + D * 2097152 = w
    have e1 : w / 67108864 = op := by omega
    simp only [rawR, e1, if_neg e0, if_neg e2, if_neg e3, if_neg e4, if_neg e5, if_neg e6, if_neg e7, if_neg e8, if_pos ho, Prod.mk.injEq, true_and, and_true]
    omega
theorem raw_op (w : Int) : (rawR w).1 = w / 67108864 := by
  unfold rawR; (repeat' split) <;> rfl
open Classical in
/-- What an instruction is written as, a word read as. -/
noncomputable def wordR (x : RI) : Int × Int := if okR x then (encI x, 0) else (0, 2)
def zeroR : RI := (0, 0, 0, 0, 0, false, 0, 0)
open Classical in
noncomputable def readR (w : Int) : RI × Int := if okR (rawR w) ∧ encI (rawR w) = w then (rawR w, 0) else (zeroR, 230)
theorem read_word {x : RI} (h : okR x) : readR (encI x) = (x, 0) := by
  unfold readR
  rw [raw_enc h, if_pos ⟨h, rfl⟩]
end Go.Eng
