import Derived.Test.YtobdjaokdmifiaaPureA
set_option linter.unusedVariables false
set_option linter.unusedSimpArgs false
set_option maxHeartbeats 4000000
set_option maxRecDepth 100000
namespace Go.Proofs.Ytobdjaokdmifiaa
open Go Go.Eng
variable {R : Type}
def cmp (a b : Int) : Int := if a < b then -1 else if a > b then 1 else 0
theorem cmpi_eq (x : PTs.D ps_word_compare_int64) (k : Int → Option R) : F_word_compare_int64 R x k = k (cmp x.1 x.2) := by
  obtain ⟨(a : Int), (b : Int)⟩ := x
  simp only [F_word_compare_int64, N_word_compare_int64, br_ite, W.lt_t, W.gt_t, cmp, apply_ite k]
theorem cmpu_eq (x : PTs.D ps_word_compare_uint64) (k : Int → Option R) : F_word_compare_uint64 R x k = k (cmp x.1 x.2) := by
  obtain ⟨(a : Int), (b : Int)⟩ := x
  simp only [F_word_compare_uint64, N_word_compare_uint64, br_ite, W.lt_t, W.gt_t, cmp, apply_ite k]
def sgn (x : Int) (w : Bool) : Int := if w then W.wrap .i64 x else W.wrap .i64 (W.wrap .i32 (W.wrap .u32 x))
def ord (op a b : Int) (w : Bool) : Int := if op = 96 ∨ op = 112 ∨ op = 192 ∨ op = 208 then cmp (sgn a w) (sgn b w) else cmp a b
theorem order_eq (x : PTs.D ps_word_order) (k : Int → Option R) : F_word_order R x k = k (ord x.1 x.2.1 x.2.2.1 x.2.2.2) := by
  obtain ⟨(op : Int), (a : Int), (b : Int), (w : Bool)⟩ := x
  simp only [F_word_order, N_word_order, cmpi_eq, cmpu_eq, br_ite, W.eq_t, W.not_t, ord, sgn]
  by_cases h1 : op = 96
  · subst h1; cases w <;> simp
  by_cases h2 : op = 112
  · subst h2; cases w <;> simp
  by_cases h3 : op = 192
  · subst h3; cases w <;> simp
  by_cases h4 : op = 208
  · subst h4; cases w <;> simp
  simp [h1, h2, h3, h4]
def cnd (op x y : Int) (w : Bool) : Bool × Bool :=
  let o := ord op (low x w) (low y w) w
  if op = 16 then (W.eq o 0, true)
  else if op = 80 then (W.ne o 0, true)
  else if op = 64 then (W.ne (W.wrap .u64 (W.and .u64 (low x w) (low y w))) 0, true)
  else if op = 32 ∨ op = 96 then (W.gt o 0, true)
  else if op = 48 ∨ op = 112 then (W.ge o 0, true)
  else if op = 160 ∨ op = 192 then (W.lt o 0, true)
  else if op = 176 ∨ op = 208 then (W.le o 0, true)
  else (false, false)
theorem cond_eq (x : PTs.D ps_word_Cond) (k : Bool × Bool → Option R) : F_word_Cond R x k = k (cnd x.1 x.2.1 x.2.2.1 x.2.2.2) := by
  obtain ⟨(op : Int), (x : Int), (y : Int), (w : Bool)⟩ := x
  simp only [F_word_Cond, N_word_Cond, low_eq, order_eq, br_l, br_r, cnd]
  by_cases h1 : op = 16
  · subst h1; simp [br_ite, W.eq_t]
  by_cases h2 : op = 80
  · subst h2; simp [br_ite, W.eq_t]
  by_cases h3 : op = 64
  · subst h3; simp [br_ite, W.eq_t]
  by_cases h4 : op = 32
  · subst h4; simp [br_ite, W.eq_t]
  by_cases h5 : op = 96
  · subst h5; simp [br_ite, W.eq_t]
  by_cases h6 : op = 48
  · subst h6; simp [br_ite, W.eq_t]
  by_cases h7 : op = 112
  · subst h7; simp [br_ite, W.eq_t]
  by_cases h8 : op = 160
  · subst h8; simp [br_ite, W.eq_t]
  by_cases h9 : op = 192
  · subst h9; simp [br_ite, W.eq_t]
  by_cases h10 : op = 176
  · subst h10; simp [br_ite, W.eq_t]
  by_cases h11 : op = 208
  · subst h11; simp [br_ite, W.eq_t]
  simp [br_ite, W.eq_t, h1, h2, h3, h4, h5, h6, h7, h8, h9, h10, h11]
theorem cmp_lt {a b : Int} : W.lt (cmp a b) 0 = decide (a < b) := by
  unfold cmp W.lt
  by_cases h : a < b
  · simp [h]
  · by_cases h2 : b < a
    · simp [h, h2]
    · simp [h, h2]
theorem cmp_le {a b : Int} : W.le (cmp a b) 0 = decide (a ≤ b) := by
  unfold cmp W.le
  by_cases h : a < b
  · simp [h]; omega
  · by_cases h2 : b < a
    · simp [h, h2]
    · simp [h, h2]; omega
theorem cmp_gt {a b : Int} : W.gt (cmp a b) 0 = decide (b < a) := by
  unfold cmp W.gt
  by_cases h : a < b
  · simp [h]; omega
  · by_cases h2 : b < a
    · simp [h, h2]
    · simp [h, h2]
theorem cmp_ge {a b : Int} : W.ge (cmp a b) 0 = decide (b ≤ a) := by
  unfold cmp W.ge
  by_cases h : a < b
  · simp [h]
  · by_cases h2 : b < a
    · simp [h, h2]; omega
    · simp [h, h2]; omega
theorem cmp_eq {a b : Int} : W.eq (cmp a b) 0 = decide (a = b) := by
  unfold cmp W.eq
  by_cases h : a < b
  · simp [h]; omega
  · by_cases h2 : b < a
    · simp [h, h2]; omega
    · simp [h, h2]; omega
theorem cmp_ne {a b : Int} : W.ne (cmp a b) 0 = !decide (a = b) := by
  have := cmp_eq (a := a) (b := b)
  unfold W.eq at this; unfold W.ne
  rw [← this]; rfl
theorem WordTurns_law (x : PTs.D ps_clevislaw01WordTurns) (hw : WfL ps_clevislaw01WordTurns x) : ∃ (C : Cfg) (fl d : Nat), CfgOk C ∧ C.P = Try.prog ∧ call C fl d 5 (encL false ps_clevislaw01WordTurns x) [] getL = some () := by
  refine E_clevislaw01WordTurns ok_word_Cond ok_clevislaw01heads x 6 ?_
  obtain ⟨(x : Int), (y : Int), (w : Bool)⟩ := x
  have h1 : ∀ a b : Int, (decide (a ≤ b)) = !(decide (b < a)) := by intro a b; by_cases h : b < a <;> simp [h] <;> omega
  simp only [L_clevislaw01WordTurns, P_clevislaw01WordTurns_3_0_s, cond_eq, heads_eq]
  simp [br_ite, W.lt_t, W.le_t, W.and2_t, W.picko_t, W.pickf_t, W.not_t, W.eqB_t, W.get, W.toNat, W.ofNat, W.add, W.wi64, cnd, ord, cmp_lt, cmp_le, cmp_gt, cmp_ge, cmp_eq, cmp_ne, h1]
end Go.Proofs.Ytobdjaokdmifiaa
