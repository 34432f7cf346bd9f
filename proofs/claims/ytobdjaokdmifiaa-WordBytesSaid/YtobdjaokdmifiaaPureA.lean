import Derived.Test.YtobdjaokdmifiaaFns
import Derived.Test.YtobdjaokdmifiaaEnwWords
set_option linter.unusedVariables false
set_option linter.unusedSimpArgs false
set_option maxHeartbeats 4000000
set_option maxRecDepth 100000
namespace Go.Proofs.Ytobdjaokdmifiaa
open Go Go.Eng
variable {R : Type}
theorem heads_eq (k : Bool → Option R) : F_clevislaw01heads R () k = k true := by kernel_rfl
def low (x : Int) (w : Bool) : Int := if w then x else x % 4294967296
theorem low_eq (x : PTs.D ps_word_low) (k : Int → Option R) : F_word_low R x k = k (low x.1 x.2) := by
  obtain ⟨(x0 : Int), (x1 : Bool)⟩ := x
  have h : x0 % 4294967296 % 18446744073709551616 = x0 % 4294967296 := by omega
  cases x1 <;> simp [F_word_low, N_word_low, br_t, br_f, low, W.wu64, W.wu32, h]
def p64 (x : Int) : Prop := 0 ≤ x ∧ x < 18446744073709551616
theorem low_p {x : Int} {w : Bool} (h : p64 x) : p64 (low x w) := by unfold p64 low at *; cases w <;> simp <;> omega
theorem low_32 (x : Int) : 0 ≤ low x false ∧ low x false < 4294967296 := by simp [low]; omega
/-- Shifts. -/
def sar (x c : Int) (w : Bool) : Int := W.wrap .u64 (if w then W.shr .i64 (W.wrap .i64 x) c else W.wrap .u32 (W.shr .i32 (W.wrap .i32 (W.wrap .u32 x)) c))
def cnt (b : Int) (w : Bool) : Int := if w then b % 64 else b % 32
def shf (op a b : Int) (w : Bool) : Int :=
  if op = 96 then W.wrap .u64 (W.shl .u64 a (cnt b w)) else if op = 112 then W.shr .u64 a (cnt b w) else sar a (cnt b w) w
theorem shift_eq (x : PTs.D ps_word_shift) (hb : p64 x.2.2.1) (k : Int → Option R) : F_word_shift R x k = k (shf x.1 x.2.1 x.2.2.1 x.2.2.2) := by
  obtain ⟨(op : Int), (a : Int), (b : Int), (w : Bool)⟩ := x
  have h1 : W.wrap .u64 (b % 32) = b % 32 := by rw [W.wu64]; omega
  have h2 : W.wrap .u64 (b % 64) = b % 64 := by rw [W.wu64]; omega
  cases w <;> by_cases h96 : op = 96 <;> by_cases h112 : op = 112 <;> simp [F_word_shift, N_word_shift, br_ite, W.not_t, W.not, W.eq_t, h96, h112, shf, cnt, sar, W.and_31, W.and_63, h1, h2]
/-- What an operation makes of two numbers. -/
def alu (op x y : Int) (w : Bool) : Int × Bool :=
  if op = 48 then (if low y w = 0 then 0 else W.wrap .u64 (W.quo (low x w) (low y w)), true)
  else if op = 144 then (if low y w = 0 then low x w else W.rem (low x w) (low y w), true)
  else if op = 96 ∨ op = 112 ∨ op = 192 then (low (shf op (low x w) (low y w) w) w, true)
  else if op = 0 then (low (W.wrap .u64 (W.add (low x w) (low y w))) w, true)
  else if op = 16 then (low (W.wrap .u64 (W.sub (low x w) (low y w))) w, true)
  else if op = 32 then (low (W.wrap .u64 (W.mul (low x w) (low y w))) w, true)
  else if op = 64 then (low (W.wrap .u64 (W.or .u64 (low x w) (low y w))) w, true)
  else if op = 80 then (low (W.wrap .u64 (W.and .u64 (low x w) (low y w))) w, true)
  else if op = 160 then (low (W.wrap .u64 (W.xor .u64 (low x w) (low y w))) w, true)
  else if op = 128 then (low (W.wrap .u64 (W.sub 0 (low x w))) w, true)
  else if op = 176 then (low (low y w) w, true)
  else (low 0 w, false)
theorem plain_eq (x : PTs.D ps_word_plain) (k : Int × Bool → Option R) : F_word_plain R x k = k (
    if x.1 = 0 then (W.wrap .u64 (W.add x.2.1 x.2.2), true) else if x.1 = 16 then (W.wrap .u64 (W.sub x.2.1 x.2.2), true) else if x.1 = 32 then (W.wrap .u64 (W.mul x.2.1 x.2.2), true)
    else if x.1 = 64 then (W.wrap .u64 (W.or .u64 x.2.1 x.2.2), true) else if x.1 = 80 then (W.wrap .u64 (W.and .u64 x.2.1 x.2.2), true) else if x.1 = 160 then (W.wrap .u64 (W.xor .u64 x.2.1 x.2.2), true)
    else if x.1 = 128 then (W.wrap .u64 (W.sub 0 x.2.1), true) else if x.1 = 176 then (x.2.2, true) else (0, false)) := by
  obtain ⟨(op : Int), (a : Int), (b : Int)⟩ := x
  simp only [F_word_plain, N_word_plain, br_ite, W.eq_t, apply_ite k]
theorem alu_eq (x : PTs.D ps_word_Alu) (hx : p64 x.2.1) (hy : p64 x.2.2.1) (k : Int × Bool → Option R) : F_word_Alu R x k = k (alu x.1 x.2.1 x.2.2.1 x.2.2.2) := by
  obtain ⟨(op : Int), (a : Int), (b : Int), (w : Bool)⟩ := x
  have hb := low_p (w := w) hy
  simp only [F_word_Alu, N_word_Alu, low_eq, plain_eq, shift_eq, hb, alu, br_l, br_r]
  by_cases h48 : op = 48
  · subst h48; by_cases hz : low b w = 0 <;> simp [br_ite, W.eq_t, hz]
  by_cases h144 : op = 144
  · subst h144; by_cases hz : low b w = 0 <;> simp [br_ite, W.eq_t, hz]
  by_cases h96 : op = 96
  · subst h96; simp [br_ite, W.eq_t]
  by_cases h112 : op = 112
  · subst h112; simp [br_ite, W.eq_t]
  by_cases h192 : op = 192
  · subst h192; simp [br_ite, W.eq_t]
  simp only [br_ite, W.eq_t, h48, h144, h96, h112, h192, if_false, or_self]
  repeat' split
  all_goals rfl
end Go.Proofs.Ytobdjaokdmifiaa
