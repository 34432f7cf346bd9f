import Derived.Test.YtflkcceicgaipaaLawConst
set_option linter.unusedVariables false
set_option linter.unusedSimpArgs false
set_option maxRecDepth 100000
set_option maxHeartbeats 4000000
namespace Go.Proofs.Ytflkcceicgaipaa
open Go Go.Eng
theorem any_3 : anyB.2.2.1 = -9223372036854775808 := by simp only [anyB]
theorem any_4 : anyB.2.2.2.1 = 9223372036854775807 := by simp only [anyB]
theorem any_5 : anyB.2.2.2.2.1 = 0 := by simp only [anyB]
theorem any_6 : anyB.2.2.2.2.2 = 18446744073709551615 := by simp only [anyB]
theorem eta6 (z : Bd) : (z.1, z.2.1, z.2.2.1, z.2.2.2.1, z.2.2.2.2.1, z.2.2.2.2.2) = z := Eq.trans (by rfl) (Eq.refl _)
theorem weq_self (z : Int) : W.eq z z = true := W.eq_t.2 (Eq.refl z)
theorem opt_some' {α β : Type} (a : α) (k0 : β) (k : α → β) : opt (some a) k0 k = k a := Eq.trans (by rfl) (Eq.refl _)
theorem const_1 (x : Int) : (constB x).1 = x := by simp only [constB]
theorem const_2 (x : Int) : (constB x).2.1 = x := by simp only [constB]
theorem one_eq (x : Int) : ((x, x, -9223372036854775808, 9223372036854775807, 0, 18446744073709551615) : Bd) = oneB x := by simp only [oneB]
open Classical in
theorem const_pure (a : PTs.D ps_clevislaw08BoundConst) (hw : WfL ps_clevislaw08BoundConst a) :
    L_clevislaw08BoundConst F_bound_Tidy F_bound_In F_bound_Value F_bound_Const F_bound_Any F_clevislaw08heads F_bound_Within F_bound_Join a = some () := by
  obtain ⟨(x : Int), (y : Int)⟩ := a
  obtain ⟨hx, hy⟩ := hw
  have hx : wfI .u64 x := hx
  have hy : wfI .u64 y := hy
  have hin : decide (inP (constB x) y) = W.eq x y := by
    rw [Bool.eq_iff_iff, decide_eq_true_eq, in_const hx hy, W.eq_t]
  have hwi : decide (withinP anyB (constB x)) = true := decide_eq_true (within_any hx)
  have hb : ∀ b : Bool, W.eqB b b = true := fun b => W.eqB_t.2 rfl
  simp only [L_clevislaw08BoundConst, Const_eq, Any_eq, Value_eq, Tidy_eq, In_eq, Within_eq, Join_eq, heads_eq, eta6, any_3, any_4, any_5, any_6, one_eq, tidy_const hx, tidy_one hx, opt_some', const_1, const_2, if_true, weq_self, hin, hb, hwi, join_self hx]
  rfl
theorem boundConst_law (x : PTs.D ps_clevislaw08BoundConst) (hw : WfL ps_clevislaw08BoundConst x) :
    ∃ (C : Cfg) (fl d : Nat), CfgOk C ∧ C.P = Try.prog ∧ call C fl d 6 (encL false ps_clevislaw08BoundConst x) [] getL = some () :=
  E_clevislaw08BoundConst ok_bound_Tidy ok_bound_In ok_bound_Value ok_bound_Const ok_bound_Any ok_clevislaw08heads ok_bound_Within ok_bound_Join x (const_pure x hw)
end Go.Proofs.Ytflkcceicgaipaa
