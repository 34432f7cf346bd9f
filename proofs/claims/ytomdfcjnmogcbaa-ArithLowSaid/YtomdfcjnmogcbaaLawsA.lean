import Derived.Test.YtomdfcjnmogcbaaLawI
set_option linter.unusedVariables false
set_option linter.unusedSimpArgs false
set_option maxHeartbeats 4000000
set_option maxRecDepth 100000
namespace Go.Proofs.Ytomdfcjnmogcbaa
open Go Go.Eng
open Classical
theorem heads9_eq {R : Type} (k : Bool → Option R) : F_clevislaw09heads R () k = k true := by kernel_rfl
theorem ArithReckons_pure (x : PTs.D ps_clevislaw09ArithReckons) (hw : WfL ps_clevislaw09ArithReckons x) (hz : SzL ps_clevislaw09ArithReckons x) :
    L_clevislaw09ArithReckons F_arith_Alu F_clevisref09Alu F_clevislaw09heads x = some () := by
  obtain ⟨(op : Int), ⟨(a1 : Int), (a2 : Int), (a3 : Int), (a4 : Int), (a5 : Int), (a6 : Int)⟩, ⟨(b1 : Int), (b2 : Int), (b3 : Int), (b4 : Int), (b5 : Int), (b6 : Int)⟩, (wide : Bool)⟩ := x
  have wa : wfB (a1, a2, a3, a4, a5, a6) := hw.2.1
  have wb : wfB (b1, b2, b3, b4, b5, b6) := hw.2.2.1
  have e1 := fun k => Alu_eq (R := Unit) op _ _ wide wa wb k
  have e2 := fun k => rAlu9_eq (R := Unit) op _ _ wide wa wb k
  simp only [L_clevislaw09ArithReckons, e1, e2, heads9_eq, W.eq_self, W.eqB_self, W.and2_tt, W.pick_tf, br_t]
theorem ArithReckons_law (x : PTs.D ps_clevislaw09ArithReckons) (hw : WfL ps_clevislaw09ArithReckons x) (hz : SzL ps_clevislaw09ArithReckons x) :
    ∃ (C : Cfg) (fl d : Nat), CfgOk C ∧ C.P = Try.prog ∧ call C fl d 3 (encL false ps_clevislaw09ArithReckons x) [] getL = some () :=
  E_clevislaw09ArithReckons ok_arith_Alu ok_clevisref09Alu ok_clevislaw09heads x (ArithReckons_pure x hw hz)
end Go.Proofs.Ytomdfcjnmogcbaa
