import Derived.Test.YtdfelkcioeinfaaDoorEnwW02
set_option linter.unusedVariables false
set_option linter.unusedSimpArgs false
set_option maxHeartbeats 4000000
set_option maxRecDepth 100000
namespace Go.Eng
open Go
variable {R : Type}
namespace W
theorem wu8 (z : Int) : W.wrap .u8 z = z % 256 := by simp [W.wrap, IntKind.wrap, IntKind.bits, IntKind.signed]
theorem wi8 (z : Int) : W.wrap .i8 z = if z % 256 < 128 then z % 256 else z % 256 - 256 := by
  simp [W.wrap, IntKind.wrap, IntKind.bits, IntKind.signed]; split <;> split <;> omega
theorem wi16 (z : Int) : W.wrap .i16 z = if z % 65536 < 32768 then z % 65536 else z % 65536 - 65536 := by
  simp [W.wrap, IntKind.wrap, IntKind.bits, IntKind.signed]; split <;> split <;> omega
theorem or_nat {a b : Int} (ha : 0 ≤ a ∧ a < 18446744073709551616) (hb : 0 ≤ b ∧ b < 18446744073709551616) : W.or .u64 a b = ((a.toNat ||| b.toNat : Nat) : Int) := by
  have h1 : (BitVec.ofInt 64 a).toNat = a.toNat := by have := W.ofInt_nat a; omega
  have h2 : (BitVec.ofInt 64 b).toNat = b.toNat := by have := W.ofInt_nat b; omega
  show (((BitVec.ofInt 64 a ||| BitVec.ofInt 64 b).toNat : Nat) : Int) = _
  rw [BitVec.toNat_or, h1, h2]
theorem or_comm' (a b : Int) : W.or .u64 a b = W.or .u64 b a := by
  simp only [W.or]; rw [BitVec.or_comm]
theorem or_add {a b : Int} (n : Nat) (ha : 0 ≤ a) (h : a * 2 ^ n < 18446744073709551616) (hb : 0 ≤ b) (hb2 : b < 2 ^ n) (hb3 : b < 18446744073709551616) : W.or .u64 (a * 2 ^ n) b = a * 2 ^ n + b := by
  have hp : (0 : Int) < 2 ^ n := Int.pow_pos (by omega)
  have h0 : 0 ≤ a * 2 ^ n := Int.mul_nonneg ha (by omega)
  rw [or_nat ⟨h0, h⟩ ⟨hb, hb3⟩]
  have h6 : ((2 ^ n : Nat) : Int) = (2 : Int) ^ n := by simp
  have h3 := Nat.two_pow_add_eq_or_of_lt (show b.toNat < 2 ^ n by omega) a.toNat
  have h7 : (a * 2 ^ n).toNat = 2 ^ n * a.toNat := by
    have : ((2 ^ n * a.toNat : Nat) : Int) = a * 2 ^ n := by
      rw [Int.natCast_mul, h6, Int.toNat_of_nonneg ha, Int.mul_comm]
    omega
  rw [h7, ← h3, Int.natCast_add, Int.natCast_mul, h6, Int.toNat_of_nonneg ha, Int.toNat_of_nonneg hb, Int.mul_comm]
end W
def low (x : Int) (w : Bool) : Int := if w then x else x % 4294967296
def p64 (x : Int) : Prop := 0 ≤ x ∧ x < 18446744073709551616
theorem low_p {x : Int} {w : Bool} (h : p64 x) : p64 (low x w) := by unfold p64 low at *; cases w <;> simp <;> omega
theorem low_32 (x : Int) : 0 ≤ low x false ∧ low x false < 4294967296 := by simp [low]; omega
/-- Shifts. -/
def sar (x c : Int) (w : Bool) : Int := W.wrap .u64 (if w then W.shr .i64 (W.wrap .i64 x) c else W.wrap .u32 (W.shr .i32 (W.wrap .i32 (W.wrap .u32 x)) c))
def cnt (b : Int) (w : Bool) : Int := if w then b % 64 else b % 32
def shf (op a b : Int) (w : Bool) : Int :=
  if op = 96 then W.wrap .u64 (W.shl .u64 a (cnt b w)) else if op = 112 then W.shr .u64 a (cnt b w) else sar a (cnt b w) w
/-- What an operation makes of two numbers. -/
def alu (op x y : Int) (w : Bool) : Int × Bool :=
  if op = 48 then (if low y w = 0 then 0 else W.wrap .u64 (W.quo (low x w) (low y w)), true)
  else if op = 144 then (if low y w = 0 then low x w else W.rem (low x w) (low y w), true)
  else if op = 96 ∨ op = 112 ∨ op = 192 then (low (shf op (low x w) (low y w) w) w, true)
  else if op = 0 then (low (W.wrap .u64 (W.add (low x w) (low y w))) w, true)
  else if op = 16 then (low (W.wrap .u64 (W.sub (low x w) (low y w))) w, true)
  else if op = 32 then (low (W.wrap .u64 (W.mul (low x w) (low y w))) w, true)
  else if op = 64 then (low (W.wrap .u64 (W.or .u64 (low x w) (low y w))) w, true)
  else if op = 80 then (low (W.wrap .u64 (W.and .u64 (low x w) (low y w))) w, true)
  else if op = 160 then (low (W.wrap .u64 (W.xor .u64 (low x w) (low y w))) w, true)
  else if op = 128 then (low (W.wrap .u64 (W.sub 0 (low x w))) w, true)
  else if op = 176 then (low (low y w) w, true)
  else (low 0 w, false)
theorem wrap_p (z : Int) : p64 (W.wrap .u64 z) := by rw [W.wu64]; unfold p64; omega
theorem or_p (a b : Int) : p64 (W.or .u64 a b) := by rw [W.or_u64]; exact U_lo _
theorem and_p (a b : Int) : p64 (W.and .u64 a b) := by rw [W.and_u64]; exact U_lo _
theorem xor_p (a b : Int) : p64 (W.xor .u64 a b) := by rw [W.xor_u64]; exact U_lo _
theorem p0 : p64 0 := by unfold p64; omega
theorem rem_p {a b : Int} (ha : p64 a) (hb : p64 b) : p64 (W.rem a b) := by
  unfold p64 W.rem at *
  have h1 := Int.tmod_nonneg b ha.1
  have h2 : a.tmod b ≤ a := by
    rw [Int.tmod_eq_emod_of_nonneg ha.1]
    rw [Int.emod_def]
    have := Int.mul_nonneg hb.1 (Int.ediv_nonneg ha.1 hb.1)
    omega
  omega
theorem quo_le {a b : Int} (ha : 0 ≤ a) (hb : 0 ≤ b) : 0 ≤ W.quo a b ∧ W.quo a b ≤ a := by
  unfold W.quo
  rw [Int.tdiv_eq_ediv_of_nonneg ha]
  exact ⟨Int.ediv_nonneg ha hb, Int.ediv_le_self b ha⟩
theorem fdiv_p {a : Int} (n : Nat) (ha : p64 a) : p64 (a.fdiv (2 ^ n)) := by
  unfold p64 at *
  have h0 : (0 : Int) ≤ 2 ^ n := Int.pow_nonneg (by omega)
  rw [Int.fdiv_eq_ediv_of_nonneg _ h0]
  have := Int.ediv_le_self (2 ^ n) ha.1
  have := Int.ediv_nonneg ha.1 h0
  omega
theorem shf_p {op a b : Int} {w : Bool} (ha : p64 a) : p64 (shf op a b w) := by
  unfold shf
  split
  · exact wrap_p _
  split
  · exact fdiv_p _ ha
  · exact wrap_p _
theorem alu_p {op x y : Int} {w : Bool} (hx : p64 x) (hy : p64 y) : p64 (alu op x y w).1 := by
  have h1 := low_p (w := w) hx
  have h2 := low_p (w := w) hy
  unfold alu
  repeat' split
  all_goals first
    | exact p0
    | exact wrap_p _
    | exact h1
    | exact rem_p h1 h2
    | exact low_p (shf_p h1)
    | exact low_p (wrap_p _)
    | exact low_p h2
    | exact low_p p0
theorem ring1 {x y : Int} {w : Bool} (hx : p64 x) (hy : p64 y) : (alu 16 (alu 0 x y w).1 y w).1 = (alu 176 0 x w).1 := by
  unfold p64 at hx hy
  simp [alu, W.wu64, W.add, W.sub, low]
  cases w <;> simp <;> omega
theorem ring4 {x : Int} {w : Bool} (hx : p64 x) : (alu 0 (alu 128 x 0 w).1 x w).1 = 0 := by
  unfold p64 at hx
  simp [alu, W.wu64, W.add, W.sub, low]
  cases w <;> simp <;> omega
theorem bits_add (a b : BitVec 64) : U (a &&& b) + U (a ^^^ b) = U (a ||| b) := by
  have h0 : (a &&& b) &&& (a ^^^ b) = 0#64 := by
    apply BitVec.eq_of_getLsbD_eq; intro i hi
    simp; cases a.getLsbD i <;> cases b.getLsbD i <;> simp
  have h1 : (a &&& b) ||| (a ^^^ b) = a ||| b := by
    apply BitVec.eq_of_getLsbD_eq; intro i hi
    simp; cases a.getLsbD i <;> cases b.getLsbD i <;> simp
  have h2 := BitVec.toNat_add_of_and_eq_zero h0
  rw [BitVec.add_eq_or_of_and_eq_zero _ _ h0, h1] at h2
  simp only [U]; omega
theorem ring5 {x y : Int} {w : Bool} (hx : p64 x) (hy : p64 y) : (alu 0 (alu 80 x y w).1 (alu 160 x y w).1 w).1 = (alu 64 x y w).1 := by
  have h := bits_add (B64 (low x w)) (B64 (low y w))
  have h1 := U_lo (B64 (low x w) &&& B64 (low y w)); have h2 := U_lo (B64 (low x w) ^^^ B64 (low y w)); have h3 := U_lo (B64 (low x w) ||| B64 (low y w))
  simp only [alu, W.wu64, W.add, W.or_u64, W.and_u64, W.xor_u64]
  simp
  revert h h1 h2 h3
  generalize U (B64 (low x w) &&& B64 (low y w)) = p
  generalize U (B64 (low x w) ^^^ B64 (low y w)) = q
  generalize U (B64 (low x w) ||| B64 (low y w)) = r
  intro h h1 h2 h3
  cases w <;> simp [low] <;> omega
theorem ring3 {x y : Int} {w : Bool} (hx : p64 x) (hy : p64 y) : (alu 0 (alu 32 (alu 48 x y w).1 y w).1 (alu 144 x y w).1 w).1 = (alu 176 0 x w).1 := by
  have ha := low_p (w := w) hx
  have hb := low_p (w := w) hy
  have hl : ∀ z : Int, low (low z w) w = low z w := by intro z; cases w <;> simp [low]
  have hlw : ∀ z : Int, p64 z → z ≤ low x w → low z w = z := by
    intro z hz hle
    cases w
    · have := low_32 x; unfold p64 at hz; simp only [low] at *; simp at *; omega
    · rfl
  simp only [alu]
  simp
  rw [hl x]
  by_cases hz : low y w = 0
  · simp only [hz, if_true, hl]
    simp only [W.mul, W.add, Int.mul_zero, Int.zero_mul, W.wu64]
    unfold p64 at ha
    cases w <;> simp [low] at * <;> omega
  · simp only [if_neg hz]
    have hq := quo_le ha.1 hb.1
    have hr := rem_p ha hb
    have hdm : W.quo (low x w) (low y w) * low y w + W.rem (low x w) (low y w) = low x w := by
      unfold W.quo W.rem; rw [Int.mul_comm]; exact Int.mul_tdiv_add_tmod _ _
    have hqb : 0 ≤ W.quo (low x w) (low y w) * low y w := Int.mul_nonneg hq.1 hb.1
    have hql : p64 (W.quo (low x w) (low y w)) := by unfold p64 at *; omega
    rw [W.wu64_id hql.1 hql.2, hlw _ hql hq.2]
    unfold W.mul W.add
    have hm : p64 (W.quo (low x w) (low y w) * low y w) := by unfold p64 at *; omega
    rw [W.wu64_id hm.1 hm.2, hlw _ hm (by unfold p64 at *; omega), hlw _ hm (by unfold p64 at *; omega), hlw _ hr (by unfold p64 at *; omega), hdm, W.wu64_id ha.1 ha.2]
    exact hl x
theorem wfl_u {x : Int} (h : WfT (.int .u64) x) : p64 x := u64_lo h
def cmp (a b : Int) : Int := if a < b then -1 else if a > b then 1 else 0
def sgn (x : Int) (w : Bool) : Int := if w then W.wrap .i64 x else W.wrap .i64 (W.wrap .i32 (W.wrap .u32 x))
def ord (op a b : Int) (w : Bool) : Int := if op = 96 ∨ op = 112 ∨ op = 192 ∨ op = 208 then cmp (sgn a w) (sgn b w) else cmp a b
def cnd (op x y : Int) (w : Bool) : Bool × Bool :=
  let o := ord op (low x w) (low y w) w
  if op = 16 then (W.eq o 0, true)
  else if op = 80 then (W.ne o 0, true)
  else if op = 64 then (W.ne (W.wrap .u64 (W.and .u64 (low x w) (low y w))) 0, true)
  else if op = 32 ∨ op = 96 then (W.gt o 0, true)
  else if op = 48 ∨ op = 112 then (W.ge o 0, true)
  else if op = 160 ∨ op = 192 then (W.lt o 0, true)
  else if op = 176 ∨ op = 208 then (W.le o 0, true)
  else (false, false)
theorem cmp_lt {a b : Int} : W.lt (cmp a b) 0 = decide (a < b) := by
  unfold cmp W.lt
  by_cases h : a < b
  · simp [h]
  · by_cases h2 : b < a
    · simp [h, h2]
    · simp [h, h2]
theorem cmp_le {a b : Int} : W.le (cmp a b) 0 = decide (a ≤ b) := by
  unfold cmp W.le
  by_cases h : a < b
  · simp [h]; omega
  · by_cases h2 : b < a
    · simp [h, h2]
    · simp [h, h2]; omega
theorem cmp_gt {a b : Int} : W.gt (cmp a b) 0 = decide (b < a) := by
  unfold cmp W.gt
  by_cases h : a < b
  · simp [h]; omega
  · by_cases h2 : b < a
    · simp [h, h2]
    · simp [h, h2]
theorem cmp_ge {a b : Int} : W.ge (cmp a b) 0 = decide (b ≤ a) := by
  unfold cmp W.ge
  by_cases h : a < b
  · simp [h]
  · by_cases h2 : b < a
    · simp [h, h2]; omega
    · simp [h, h2]; omega
theorem cmp_eq {a b : Int} : W.eq (cmp a b) 0 = decide (a = b) := by
  unfold cmp W.eq
  by_cases h : a < b
  · simp [h]; omega
  · by_cases h2 : b < a
    · simp [h, h2]; omega
    · simp [h, h2]; omega
theorem cmp_ne {a b : Int} : W.ne (cmp a b) 0 = !decide (a = b) := by
  have := cmp_eq (a := a) (b := b)
  unfold W.eq at this; unfold W.ne
  rw [← this]; rfl
def ng (x : Int) (w : Bool) : Bool := if w then decide (9223372036854775808 ≤ x) else decide (2147483648 ≤ x % 4294967296)
theorem shr_u {x : Int} {n : Nat} (h : n ≤ 64) : W.shr .u64 x (n : Int) = x / 2 ^ n := by
  unfold W.shr
  have : min (n : Int).toNat IntKind.u64.bits = n := by simp [IntKind.bits]; omega
  rw [this, Int.fdiv_eq_ediv_of_nonneg _ (Int.pow_nonneg (by omega))]
def les (a b : Int) (s w : Bool) : Bool := if s = true ∧ ng a w ≠ ng b w then ng a w else decide (a < b)
theorem sgn_lt {a b : Int} {w : Bool} (ha : p64 a) (hb : p64 b) (hw : w = false → a < 4294967296 ∧ b < 4294967296) : les a b true w = decide (sgn a w < sgn b w) := by
  unfold p64 at ha hb
  unfold les ng sgn
  cases w
  · have := hw rfl
    simp only [Bool.false_eq_true, if_false, W.wi64, W.wi32, W.wu32]
    by_cases h1 : 2147483648 ≤ a % 4294967296 <;> by_cases h2 : 2147483648 ≤ b % 4294967296 <;> simp [h1, h2] <;> (repeat' split) <;> omega
  · simp only [if_true, W.wi64]
    by_cases h1 : 9223372036854775808 ≤ a <;> by_cases h2 : 9223372036854775808 ≤ b <;> simp [h1, h2] <;> (repeat' split) <;> omega
def rcnd (op x y : Int) (w : Bool) : Bool × Bool :=
  let a := low x w
  let b := low y w
  if op = 16 then (W.eq a b, true) else if op = 80 then (W.ne a b, true) else if op = 64 then (W.ne (W.wrap .u64 (W.and .u64 a b)) 0, true)
  else if op = 32 then (les b a false w, true) else if op = 48 then (W.not (les a b false w), true) else if op = 160 then (les a b false w, true) else if op = 176 then (W.not (les b a false w), true)
  else if op = 96 then (les b a true w, true) else if op = 112 then (W.not (les a b true w), true) else if op = 192 then (les a b true w, true) else if op = 208 then (W.not (les b a true w), true)
  else (false, false)
theorem cond_same {op x y : Int} {w : Bool} (hx : p64 x) (hy : p64 y) : cnd op x y w = rcnd op x y w := by
  have ha := low_p (w := w) hx
  have hb := low_p (w := w) hy
  have h1 : ∀ a b : Int, (!decide (a < b)) = decide (b ≤ a) := by intro a b; by_cases h : a < b <;> simp [h] <;> omega
  have hs := sgn_lt (w := w) ha hb (by intro e; subst e; exact ⟨(low_32 x).2, (low_32 y).2⟩)
  have hs' := sgn_lt (w := w) hb ha (by intro e; subst e; exact ⟨(low_32 y).2, (low_32 x).2⟩)
  have hu : ∀ a b : Int, les a b false w = decide (a < b) := by intro a b; simp [les]
  unfold cnd rcnd
  simp only [hs, hs', hu, W.not, h1]
  by_cases h : op = 16
  · subst h; simp [ord]; rw [cmp_eq]; rfl
  by_cases h : op = 80
  · subst h; simp [ord]; rw [cmp_ne]; rfl
  by_cases h : op = 64
  · subst h; simp
  by_cases h : op = 32
  · subst h; simp [ord, cmp_gt]
  by_cases h : op = 96
  · subst h; simp [ord, cmp_gt]
  by_cases h : op = 48
  · subst h; simp [ord, cmp_ge]
  by_cases h : op = 112
  · subst h; simp [ord, cmp_ge]
  by_cases h : op = 160
  · subst h; simp [ord, cmp_lt]
  by_cases h : op = 192
  · subst h; simp [ord, cmp_lt]
  by_cases h : op = 176
  · subst h; simp [ord, cmp_le]
  by_cases h : op = 208
  · subst h; simp [ord, cmp_le]
  simp [*]
def it (op y3 : Int) : Nat → Int → Int
  | 0, y => y
  | m + 1, y => it op y3 m (if op = 96 then (y * 2) % 18446744073709551616 else (W.or .u64 (W.quo y 2 % 18446744073709551616) y3) % 18446744073709551616)
def topW (w : Bool) : Int := if w then 9223372036854775808 else 2147483648
theorem or_pow {a : Int} {n : Nat} (hn : n < 64) (ha : 0 ≤ a) (h : a < 2 ^ n) : W.or .u64 a (2 ^ n) = a + 2 ^ n := by
  have h1 : (BitVec.ofInt 64 a).toNat = a.toNat := by
    have h2 := W.ofInt_nat a
    have : (2 : Int) ^ n < 2 ^ 64 := Int.pow_lt_pow_of_lt (by omega) hn
    have h3 : (2 : Int) ^ 64 = 18446744073709551616 := by decide
    omega
  have h2 : (BitVec.ofInt 64 (2 ^ n)).toNat = 2 ^ n := by
    have h2 := W.ofInt_nat (2 ^ n)
    have h4 : (2 : Int) ^ n < 2 ^ 64 := Int.pow_lt_pow_of_lt (by omega) hn
    have h3 : (2 : Int) ^ 64 = 18446744073709551616 := by decide
    have h5 : (0 : Int) ≤ 2 ^ n := Int.pow_nonneg (by omega)
    have h6 : ((2 ^ n : Nat) : Int) = (2 : Int) ^ n := by simp
    omega
  show (((BitVec.ofInt 64 a ||| BitVec.ofInt 64 (2 ^ n)).toNat : Nat) : Int) = _
  rw [BitVec.toNat_or, h1, h2]
  have h6 : ((2 ^ n : Nat) : Int) = (2 : Int) ^ n := by simp
  have h7 : a.toNat < 2 ^ n := by omega
  have h3 := Nat.two_pow_add_eq_or_of_lt h7 1
  rw [Nat.mul_one] at h3
  rw [Nat.or_comm, ← h3]
  omega
theorem or_zero {a : Int} (ha : p64 a) : W.or .u64 a 0 = a := by
  show (((BitVec.ofInt 64 a ||| BitVec.ofInt 64 0).toNat : Nat) : Int) = _
  have := W.ofInt_nat a
  unfold p64 at ha
  simp
  omega
theorem quo2 {y : Int} (h : 0 ≤ y) : W.quo y 2 = y / 2 := Int.tdiv_eq_ediv_of_nonneg h
theorem it_shl : ∀ (m : Nat) (y3 y : Int), p64 y → it 96 y3 m y = (y * 2 ^ m) % 18446744073709551616
  | 0, y3, y, h => by unfold p64 at h; simp [it]; omega
  | m + 1, y3, y, h => by
    simp only [it, if_true]
    rw [it_shl m y3 _ (by unfold p64; omega), Int.mul_emod, Int.emod_emod, ← Int.mul_emod, Int.pow_succ, Int.mul_assoc, Int.mul_comm 2]
theorem it_shr {op : Int} (ho : op ≠ 96) : ∀ (m : Nat) (y : Int), p64 y → it op 0 m y = y / 2 ^ m
  | 0, y, h => by simp [it]
  | m + 1, y, h => by
    have h' := h
    unfold p64 at h
    have h1 : (W.or .u64 (W.quo y 2 % 18446744073709551616) 0) % 18446744073709551616 = y / 2 := by
      rw [quo2 h.1, or_zero (by unfold p64; omega)]; omega
    simp only [it, if_neg ho, h1]
    rw [it_shr ho m _ (by unfold p64; omega), Int.ediv_ediv_of_nonneg (by omega), Int.pow_succ, Int.mul_comm]
theorem it_sar64 {op : Int} (ho : op ≠ 96) : ∀ (m : Nat) (y : Int), 9223372036854775808 ≤ y → y < 18446744073709551616 → it op 9223372036854775808 m y = (y - 18446744073709551616) / 2 ^ m + 18446744073709551616
  | 0, y, h, h' => by simp [it]
  | m + 1, y, h, h' => by
    have h1 : (W.or .u64 (W.quo y 2 % 18446744073709551616) 9223372036854775808) % 18446744073709551616 = y / 2 + 9223372036854775808 := by
      have hp : (2 : Int) ^ 63 = 9223372036854775808 := by decide
      have := or_pow (a := y / 2) (n := 63) (by omega) (by omega) (by omega)
      rw [hp] at this
      rw [quo2 (by omega), show y / 2 % 18446744073709551616 = y / 2 by omega, this]; omega
    simp only [it, if_neg ho, h1]
    rw [it_sar64 ho m _ (by omega) (by omega), show y / 2 + 9223372036854775808 - 18446744073709551616 = (y - 18446744073709551616) / 2 by omega, Int.ediv_ediv_of_nonneg (by omega), Int.pow_succ, Int.mul_comm (2 ^ m)]
theorem it_sar32 {op : Int} (ho : op ≠ 96) : ∀ (m : Nat) (y : Int), 2147483648 ≤ y → y < 4294967296 → it op 2147483648 m y = (y - 4294967296) / 2 ^ m + 4294967296
  | 0, y, h, h' => by simp [it]
  | m + 1, y, h, h' => by
    have h1 : (W.or .u64 (W.quo y 2 % 18446744073709551616) 2147483648) % 18446744073709551616 = y / 2 + 2147483648 := by
      have hp : (2 : Int) ^ 31 = 2147483648 := by decide
      have := or_pow (a := y / 2) (n := 31) (by omega) (by omega) (by omega)
      rw [hp] at this
      rw [quo2 (by omega), show y / 2 % 18446744073709551616 = y / 2 by omega, this]; omega
    simp only [it, if_neg ho, h1]
    rw [it_sar32 ho m _ (by omega) (by omega), show y / 2 + 2147483648 - 4294967296 = (y - 4294967296) / 2 by omega, Int.ediv_ediv_of_nonneg (by omega), Int.pow_succ, Int.mul_comm (2 ^ m)]
theorem shl_n {a : Int} {n : Nat} (h : n ≤ 64) : W.shl .u64 a (n : Int) = a * 2 ^ n := by
  unfold W.shl
  have : min (n : Int).toNat IntKind.u64.bits = n := by simp [IntKind.bits]; omega
  rw [this]
theorem shri_n {a : Int} {n : Nat} (h : n ≤ 64) : W.shr .i64 a (n : Int) = a / 2 ^ n := by
  unfold W.shr
  have : min (n : Int).toNat IntKind.i64.bits = n := by simp [IntKind.bits]; omega
  rw [this, Int.fdiv_eq_ediv_of_nonneg _ (Int.pow_nonneg (by omega))]
theorem shri32_n {a : Int} {n : Nat} (h : n ≤ 32) : W.shr .i32 a (n : Int) = a / 2 ^ n := by
  unfold W.shr
  have : min (n : Int).toNat IntKind.i32.bits = n := by simp [IntKind.bits]; omega
  rw [this, Int.fdiv_eq_ediv_of_nonneg _ (Int.pow_nonneg (by omega))]
theorem ediv_neg {a : Int} (n : Nat) (h : a < 0) : a / 2 ^ n < 0 ∧ a ≤ a / 2 ^ n := by
  have h2 : (0 : Int) < 2 ^ n := Int.pow_pos (by omega)
  refine ⟨Int.ediv_neg_of_neg_of_pos h h2, ?_⟩
  have h3 : (1 : Int) ≤ 2 ^ n := h2
  have h4 := Int.ediv_neg_of_neg_of_pos h h2
  have h5 := Int.mul_ediv_add_emod a (2 ^ n)
  have h6 := Int.emod_nonneg a (show (2 : Int) ^ n ≠ 0 by omega)
  refine Int.le_ediv_of_mul_le h2 ?_
  have h7 : a * 2 ^ n ≤ a * 1 := Int.mul_le_mul_of_nonpos_left (by omega) h3
  omega
theorem ediv_pos {a : Int} (n : Nat) (h : 0 ≤ a) : 0 ≤ a / 2 ^ n ∧ a / 2 ^ n ≤ a :=
  ⟨Int.ediv_nonneg h (Int.pow_nonneg (by omega)), Int.ediv_le_self _ h⟩
theorem sh_same {op a b : Int} {w : Bool} (ha : p64 a) (hb : 0 ≤ b) (hw : w = false → a < 4294967296) (ho : op = 96 ∨ op = 112 ∨ op = 192) :
    low (it op (if ng a w = true ∧ op = 192 then topW w else 0) (cnt b w).toNat a) w = low (shf op a b w) w := by
  have hc : 0 ≤ cnt b w ∧ cnt b w < 64 ∧ (w = false → cnt b w < 32) := by unfold cnt; cases w <;> simp <;> omega
  obtain ⟨n, hn⟩ : ∃ n : Nat, cnt b w = n := ⟨(cnt b w).toNat, by omega⟩
  unfold shf
  rw [hn] at hc ⊢
  rcases ho with rfl | rfl | rfl
  · simp only [show ¬ ((96 : Int) = 192) by omega, and_false, if_false, if_true, Int.toNat_natCast]
    rw [it_shl n 0 a ha, shl_n (by omega), W.wu64]
  · simp only [show ¬ ((112 : Int) = 192) by omega, show ¬ ((112 : Int) = 96) by omega, and_false, if_false, if_true, Int.toNat_natCast]
    rw [it_shr (by omega) n a ha, shr_u (by omega)]
  · simp only [and_true, show ¬ ((192 : Int) = 96) by omega, show ¬ ((192 : Int) = 112) by omega, if_false, Int.toNat_natCast]
    unfold sar topW ng
    cases w
    · have ha2 := hw rfl
      have h32 := hc.2.2 rfl
      simp only [Bool.false_eq_true, if_false, decide_eq_true_eq, low]
      unfold p64 at ha
      rw [shri32_n (by omega)]
      by_cases h : 2147483648 ≤ a % 4294967296
      · have e : W.wrap .i32 (W.wrap .u32 a) = a - 4294967296 := by rw [W.wu32, W.wi32]; split <;> omega
        have := ediv_neg (a := a - 4294967296) n (by omega)
        rw [if_pos h, it_sar32 (by omega) n a (by omega) (by omega), e, W.wu32, W.wu64]
        omega
      · have e : W.wrap .i32 (W.wrap .u32 a) = a := by rw [W.wu32, W.wi32]; split <;> omega
        have := ediv_pos (a := a) n (by omega)
        rw [if_neg h, it_shr (by omega) n a ha, e, W.wu32, W.wu64]
        omega
    · simp only [if_true, decide_eq_true_eq, low]
      rw [shri_n (by omega)]
      unfold p64 at ha
      by_cases h : 9223372036854775808 ≤ a
      · have e : W.wrap .i64 a = a - 18446744073709551616 := by rw [W.wi64]; split <;> omega
        have := ediv_neg (a := a - 18446744073709551616) n (by omega)
        rw [if_pos h, it_sar64 (by omega) n a (by omega) (by omega), e, W.wu64]
        omega
      · have e : W.wrap .i64 a = a := by rw [W.wi64]; split <;> omega
        have := ediv_pos (a := a) n (by omega)
        rw [if_neg h, it_shr (by omega) n a ha, e, W.wu64]
        omega
theorem rem_le {a b : Int} (ha : 0 ≤ a) (hb : 0 ≤ b) : 0 ≤ W.rem a b ∧ W.rem a b ≤ a := by
  unfold W.rem
  refine ⟨Int.tmod_nonneg b ha, ?_⟩
  rw [Int.tmod_eq_emod_of_nonneg ha, Int.emod_def]
  have := Int.mul_nonneg hb (Int.ediv_nonneg ha hb)
  omega
/-- A byte of a list. -/
def bt (l : List Int) (i : Nat) : Int := l.getD i 0
def BtOk (l : List Int) : Prop := ∀ i, 0 ≤ bt l i ∧ bt l i < 256
theorem btOk_wf {l : List Int} (h : ∀ x ∈ l, wfI .u8 x) : BtOk l := by
  intro i
  unfold bt
  rw [List.getD_eq_getElem?_getD]
  cases hx : l[i]? with
  | none => simp
  | some x =>
    have := wfI_iff.1 (h x (List.mem_of_getElem? hx))
    simp [IntKind.min, IntKind.max, IntKind.signed, IntKind.bits] at this
    simp; omega
/-- The number of a list's first bytes, from the last on. -/
def hg (l : List Int) : Nat → Int
  | 0 => 0
  | t + 1 => hg l t * 256 + bt l (7 - t)
theorem hg_lt {l : List Int} (h : BtOk l) : ∀ t, 0 ≤ hg l t ∧ hg l t < 256 ^ t
  | 0 => by simp [hg]
  | t + 1 => by
    have := hg_lt h t
    have := h (7 - t)
    simp only [hg, Int.pow_succ]; omega
theorem shl8 {a : Int} : W.shl .u64 a 8 = a * 256 := by
  unfold W.shl; simp [IntKind.bits]
theorem pad_get {l : List Int} {i : Nat} (hi : i < 8) : W.get (W.over [0, 0, 0, 0, 0, 0, 0, 0] 0 (W.slice l 0 (W.minN (W.len l) 8))) i (0 : Int) = bt l i := by
  have hlen : (W.slice l 0 (W.minN (W.len l) 8)).length = min l.length 8 := by
    simp only [W.slice, W.minN, W.len, List.drop_zero, List.length_take]; by_cases h8 : l.length ≤ 8 <;> simp only [h8, if_true, if_false] <;> omega
  have hs : (W.slice l 0 (W.minN (W.len l) 8)).length ≤ 8 := by omega
  unfold W.get bt
  rw [List.getD_eq_getElem?_getD, over_get (by simpa using hs), List.getD_eq_getElem?_getD]
  rw [hlen]
  by_cases hc : i < l.length
  · rw [if_pos (by omega)]
    have : (W.slice l 0 (W.minN (W.len l) 8))[i - 0]? = l[i]? := by
      simp only [W.slice, W.minN, W.len, List.drop_zero, List.getElem?_take, Nat.sub_zero]
      rw [if_pos]; by_cases h8 : l.length ≤ 8 <;> simp only [h8, if_true, if_false] <;> omega
    rw [this]
  · rw [if_neg (by omega), List.getElem?_eq_none (by omega : l.length ≤ i)]
    have : ([0, 0, 0, 0, 0, 0, 0, 0] : List Int)[i]? = some 0 := by
      have : i = 0 ∨ i = 1 ∨ i = 2 ∨ i = 3 ∨ i = 4 ∨ i = 5 ∨ i = 6 ∨ i = 7 := by omega
      rcases this with h | h | h | h | h | h | h | h <;> subst h <;> rfl
    rw [this]; rfl
def sz (n : Int) : Bool := decide (n = 1 ∨ n = 2 ∨ n = 4 ∨ n = 8)
/-- A number's bytes. -/
def by8 (x : Int) (i : Nat) : Int := x / 256 ^ i % 256
theorem byte_of {x : Int} {i : Nat} (hi : i < 8) : W.wrap .u8 (W.shr .u64 x ((8 * i : Nat) : Int)) = by8 x i := by
  unfold W.shr by8
  have : min ((8 * i : Nat) : Int).toNat IntKind.u64.bits = 8 * i := by simp [IntKind.bits]; omega
  rw [this, Int.fdiv_eq_ediv_of_nonneg _ (Int.pow_nonneg (by omega)), W.wu8, Int.pow_mul]
  rfl
def bytesN (x n : Int) : List Int := if sz n then (List.range n.toNat).map (by8 x) else []
def upTo (x : Int) (t : Nat) : List Int := (List.range 8).map fun i => if i < t then by8 x i else 0
theorem sz_le {n : Int} (h : sz n = true) : 0 ≤ n ∧ n ≤ 8 := by simp [sz] at h; omega
theorem bytes_ok (x n : Int) : BtOk (bytesN x n) := by
  intro i
  unfold bt bytesN
  rw [List.getD_eq_getElem?_getD]
  split
  · rw [List.getElem?_map]
    cases h : (List.range n.toNat)[i]? with
    | none => simp
    | some j => simp [by8]; omega
  · simp
theorem bt_bytes {x n : Int} (h : sz n = true) (i : Nat) : bt (bytesN x n) i = if i < n.toNat then by8 x i else 0 := by
  unfold bt bytesN
  rw [if_pos h, List.getD_eq_getElem?_getD, List.getElem?_map]
  by_cases hi : i < n.toNat
  · rw [List.getElem?_range hi, if_pos hi]; rfl
  · rw [List.getElem?_eq_none (by simpa using hi), if_neg hi]; rfl
theorem hg_bytes {x n : Int} (h : sz n = true) (hx : p64 x) : hg (bytesN x n) 8 = x % 256 ^ n.toNat := by
  unfold p64 at hx
  simp only [hg, bt_bytes h]
  simp only [sz, decide_eq_true_eq] at h
  rcases h with h | h | h | h <;> subst h <;> simp [by8] <;> omega
def sgnN (x n : Int) : Int := if n = 1 then W.wrap .u64 (W.wrap .i8 x) else if n = 2 then W.wrap .u64 (W.wrap .i16 x) else if n = 4 then W.wrap .u64 (W.wrap .i32 x) else x
theorem sign_again (x n : Int) : sgnN (sgnN x n) n = sgnN x n := by
  unfold sgnN
  by_cases h1 : n = 1
  · simp [h1, W.wu64, W.wi8]; split <;> split <;> omega
  by_cases h2 : n = 2
  · simp [h2, W.wu64, W.wi16]; split <;> split <;> omega
  by_cases h4 : n = 4
  · simp [h4, W.wu64, W.wi32]; split <;> split <;> omega
  simp [h1, h2, h4]
theorem shl1 {n : Int} (h : n = 1 ∨ n = 2 ∨ n = 4) : W.wrap .u64 (W.shl .u64 1 (W.wrap .u64 (W.wrap .i64 (W.mul 8 n)))) = 256 ^ n.toNat := by
  rcases h with h | h | h <;> subst h <;> decide +kernel
def vs (l : List Int) : Nat → Int
  | 0 => 0
  | t + 1 => vs l t + bt l t * 256 ^ t
theorem vs_lt {l : List Int} (h : BtOk l) : ∀ t, 0 ≤ vs l t ∧ vs l t < 256 ^ t
  | 0 => by simp [vs]
  | t + 1 => by
    have h1 := vs_lt h t
    have h2 := h t
    have h3 : (0 : Int) < 256 ^ t := Int.pow_pos (by omega)
    have h4 : 0 ≤ bt l t * 256 ^ t := Int.mul_nonneg h2.1 (by omega)
    have h5 : bt l t * 256 ^ t ≤ 255 * 256 ^ t := Int.mul_le_mul_of_nonneg_right (by omega) (by omega)
    simp only [vs, Int.pow_succ]; omega
theorem vs_hg (l : List Int) : vs l 8 = hg l 8 := by
  simp [vs, hg]; omega
theorem vs_end {l : List Int} {j : Nat} (hj : l.length ≤ j) : ∀ m, vs l (j + m) = vs l j
  | 0 => rfl
  | m + 1 => by
    have h0 : bt l (j + m) = 0 := by unfold bt; rw [List.getD_eq_getElem?_getD, List.getElem?_eq_none (by omega)]; rfl
    rw [← Nat.add_assoc]; simp only [vs]; rw [vs_end hj m, h0]; omega
theorem wrap_p' (z : Int) : p64 (W.wrap .u64 z) := by rw [W.wu64]; unfold p64; omega
def bytesTo (x : Int) (j : Nat) : List Int := (List.range j).map (by8 x)
theorem byte_of' {x : Int} {i : Nat} (hi : i < 8) : W.wrap .u8 (W.shr .u64 x (W.wrap .u64 (W.wrap .i64 (W.mul 8 (i : Int))))) = by8 x i := by
  have e1 : W.wrap .u64 (W.wrap .i64 (W.mul 8 (i : Int))) = ((8 * i : Nat) : Int) := by
    unfold W.mul; rw [W.wi64_id (by omega) (by omega), W.wu64_id (by omega) (by omega)]; omega
  rw [e1, byte_of hi]
end Go.Eng
