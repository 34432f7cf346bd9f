import Derived.Test.YtobdjaokdmifiaaPureTurns
set_option linter.unusedVariables false
set_option linter.unusedSimpArgs false
set_option maxHeartbeats 4000000
set_option maxRecDepth 100000
namespace Go.Proofs.Ytobdjaokdmifiaa
open Go Go.Eng
variable {R : Type}
def ng (x : Int) (w : Bool) : Bool := if w then decide (9223372036854775808 ≤ x) else decide (2147483648 ≤ x % 4294967296)
theorem shr_u {x : Int} {n : Nat} (h : n ≤ 64) : W.shr .u64 x (n : Int) = x / 2 ^ n := by
  unfold W.shr
  have : min (n : Int).toNat IntKind.u64.bits = n := by simp [IntKind.bits]; omega
  rw [this, Int.fdiv_eq_ediv_of_nonneg _ (Int.pow_nonneg (by omega))]
theorem neg_eq (x : PTs.D ps_clevisref01neg) (hx : p64 x.1) (k : Bool → Option R) : F_clevisref01neg R x k = k (ng x.1 x.2) := by
  obtain ⟨(x : Int), (w : Bool)⟩ := x
  unfold p64 at hx
  simp only [F_clevisref01neg, N_clevisref01neg, br_ite]
  have e1 := shr_u (x := x) (n := 63) (by omega)
  have e2 := shr_u (x := x) (n := 31) (by omega)
  simp only [show ((63 : Nat) : Int) = 63 from rfl, show ((31 : Nat) : Int) = 31 from rfl] at e1 e2
  rw [e1, e2, W.and_1, W.wu64]
  simp only at hx
  cases w
  · simp only [Bool.false_eq_true, if_false, ng, W.eq]
    congr 1
    have : (2 : Int) ^ 31 = 2147483648 := by decide
    rw [this]
    by_cases h : 2147483648 ≤ x % 4294967296
    · simp only [h, decide_true, beq_iff_eq]; omega
    · simp only [h, decide_false, beq_eq_false_iff_ne]; omega
  · simp only [if_true, ng, W.eq]
    congr 1
    have : (2 : Int) ^ 63 = 9223372036854775808 := by decide
    rw [this]
    by_cases h : 9223372036854775808 ≤ x
    · simp only [h, decide_true, beq_iff_eq]; omega
    · simp only [h, decide_false, beq_eq_false_iff_ne]; omega
def les (a b : Int) (s w : Bool) : Bool := if s = true ∧ ng a w ≠ ng b w then ng a w else decide (a < b)
theorem less_eq (x : PTs.D ps_clevisref01less) (ha : p64 x.1) (hb : p64 x.2.1) (k : Bool → Option R) : F_clevisref01less R x k = k (les x.1 x.2.1 x.2.2.1 x.2.2.2) := by
  obtain ⟨(a : Int), (b : Int), (s : Bool), (w : Bool)⟩ := x
  simp only [F_clevisref01less, N_clevisref01less, neg_eq, ha, hb, br_ite, W.pickf_t, W.not_t, les]
  cases s
  · simp [W.lt]
  · by_cases h : ng a w = ng b w
    · simp [h, W.eqB, W.lt]
    · simp [h, W.eqB]
theorem sgn_lt {a b : Int} {w : Bool} (ha : p64 a) (hb : p64 b) (hw : w = false → a < 4294967296 ∧ b < 4294967296) : les a b true w = decide (sgn a w < sgn b w) := by
  unfold p64 at ha hb
  unfold les ng sgn
  cases w
  · have := hw rfl
    simp only [Bool.false_eq_true, if_false, W.wi64, W.wi32, W.wu32]
    by_cases h1 : 2147483648 ≤ a % 4294967296 <;> by_cases h2 : 2147483648 ≤ b % 4294967296 <;> simp [h1, h2] <;> (repeat' split) <;> omega
  · simp only [if_true, W.wi64]
    by_cases h1 : 9223372036854775808 ≤ a <;> by_cases h2 : 9223372036854775808 ≤ b <;> simp [h1, h2] <;> (repeat' split) <;> omega
def rcnd (op x y : Int) (w : Bool) : Bool × Bool :=
  let a := low x w
  let b := low y w
  if op = 16 then (W.eq a b, true) else if op = 80 then (W.ne a b, true) else if op = 64 then (W.ne (W.wrap .u64 (W.and .u64 a b)) 0, true)
  else if op = 32 then (les b a false w, true) else if op = 48 then (W.not (les a b false w), true) else if op = 160 then (les a b false w, true) else if op = 176 then (W.not (les b a false w), true)
  else if op = 96 then (les b a true w, true) else if op = 112 then (W.not (les a b true w), true) else if op = 192 then (les a b true w, true) else if op = 208 then (W.not (les b a true w), true)
  else (false, false)
theorem rcond_eq (x : PTs.D ps_clevisref01Cond) (hx : p64 x.2.1) (hy : p64 x.2.2.1) (k : Bool × Bool → Option R) : F_clevisref01Cond R x k = k (rcnd x.1 x.2.1 x.2.2.1 x.2.2.2) := by
  obtain ⟨(op : Int), (x : Int), (y : Int), (w : Bool)⟩ := x
  have hm : ∀ z : Int, W.wrap .u64 (W.and .u64 z 4294967295) = z % 4294967296 := by intro z; rw [W.and_32, W.wu64]; omega
  have hp : ∀ z : Int, p64 (z % 4294967296) := by intro z; unfold p64; omega
  cases w
  · simp only [F_clevisref01Cond, N_clevisref01Cond, hm, less_eq, hp, hx, hy, rcnd, low, W.not, Bool.not_false, br_t, br_f, Bool.false_eq_true, if_false]
    simp only [br_ite, W.eq_t, apply_ite k]
  · simp only [F_clevisref01Cond, N_clevisref01Cond, hm, less_eq, hp, hx, hy, rcnd, low, W.not, Bool.not_true, br_t, br_f, if_true]
    simp only [br_ite, W.eq_t, apply_ite k]
theorem cond_same {op x y : Int} {w : Bool} (hx : p64 x) (hy : p64 y) : cnd op x y w = rcnd op x y w := by
  have ha := low_p (w := w) hx
  have hb := low_p (w := w) hy
  have h1 : ∀ a b : Int, (!decide (a < b)) = decide (b ≤ a) := by intro a b; by_cases h : a < b <;> simp [h] <;> omega
  have hs := sgn_lt (w := w) ha hb (by intro e; subst e; exact ⟨(low_32 x).2, (low_32 y).2⟩)
  have hs' := sgn_lt (w := w) hb ha (by intro e; subst e; exact ⟨(low_32 y).2, (low_32 x).2⟩)
  have hu : ∀ a b : Int, les a b false w = decide (a < b) := by intro a b; simp [les]
  unfold cnd rcnd
  simp only [hs, hs', hu, W.not, h1]
  by_cases h : op = 16
  · subst h; simp [ord]; rw [cmp_eq]; rfl
  by_cases h : op = 80
  · subst h; simp [ord]; rw [cmp_ne]; rfl
  by_cases h : op = 64
  · subst h; simp
  by_cases h : op = 32
  · subst h; simp [ord, cmp_gt]
  by_cases h : op = 96
  · subst h; simp [ord, cmp_gt]
  by_cases h : op = 48
  · subst h; simp [ord, cmp_ge]
  by_cases h : op = 112
  · subst h; simp [ord, cmp_ge]
  by_cases h : op = 160
  · subst h; simp [ord, cmp_lt]
  by_cases h : op = 192
  · subst h; simp [ord, cmp_lt]
  by_cases h : op = 176
  · subst h; simp [ord, cmp_le]
  by_cases h : op = 208
  · subst h; simp [ord, cmp_le]
  simp [*]
theorem WordAsks_law (x : PTs.D ps_clevislaw01WordAsks) (hw : WfL ps_clevislaw01WordAsks x) : ∃ (C : Cfg) (fl d : Nat), CfgOk C ∧ C.P = Try.prog ∧ call C fl d 4 (encL false ps_clevislaw01WordAsks x) [] getL = some () := by
  refine E_clevislaw01WordAsks ok_word_Cond ok_clevislaw01heads ok_clevisref01Cond x ?_
  obtain ⟨(op : Int), (x : Int), (y : Int), (w : Bool)⟩ := x
  obtain ⟨_, hx, hy, _⟩ := hw
  have hx : p64 x := u64_lo hx
  have hy : p64 y := u64_lo hy
  simp only [L_clevislaw01WordAsks, cond_eq, rcond_eq, hx, hy, heads_eq, cond_same hx hy]
  simp [br_ite, W.pickf_t, W.eqB, W.pick_t]
end Go.Proofs.Ytobdjaokdmifiaa
