import Derived.Test.YtomdfcjnmogcbaaLawsA
import Derived.Test.YtomdfcjnmogcbaaLawK
set_option linter.unusedVariables false
set_option linter.unusedSimpArgs false
set_option maxHeartbeats 4000000
set_option maxRecDepth 100000
namespace Go.Proofs.Ytomdfcjnmogcbaa
open Go Go.Eng
open Classical
theorem ArithRight_pure (x : PTs.D ps_clevislaw09ArithRight) (hw : WfL ps_clevislaw09ArithRight x) (hz : SzL ps_clevislaw09ArithRight x) :
    L_clevislaw09ArithRight F_arith_Alu F_clevisref01Alu F_clevisref08Check F_clevisref08Any F_clevislaw09heads x = some () := by
  obtain ⟨(op : Int), ⟨(a1 : Int), (a2 : Int), (a3 : Int), (a4 : Int), (a5 : Int), (a6 : Int)⟩, ⟨(b1 : Int), (b2 : Int), (b3 : Int), (b4 : Int), (b5 : Int), (b6 : Int)⟩, (wide : Bool)⟩ := x
  have wa : wfB (a1, a2, a3, a4, a5, a6) := hw.2.1
  have wb : wfB (b1, b2, b3, b4, b5, b6) := hw.2.2.1
  have e1 := fun k => Alu_eq (R := Unit) op _ _ wide wa wb k
  have ca := rCheck_eq (R := Unit) _ wa
  have cb := rCheck_eq (R := Unit) _ wb
  have k9 := alu9_ok (op := op) (w := wide) wa wb
  have cr := rCheck_eq (R := Unit) _ k9.1
  have e0 := ralu_eq (R := Unit) (op, 0, 0, true) p0 p0
  simp only at e0
  simp only [L_clevislaw09ArithRight, e1, eta6', ca, cb, cr, e0, alu_is, rany9_eq, heads9_eq, W.pick_tf, decide_eq_true k9.2, br_t]
  have hx : ¬ (chkP (a1, a2, a3, a4, a5, a6) ∧ chkP (b1, b2, b3, b4, b5, b6)) → alu9 op (a1, a2, a3, a4, a5, a6) (b1, b2, b3, b4, b5, b6) wide = (anyB, decide (isA op)) := by
    intro h
    unfold alu9
    by_cases ho : isA op
    · rw [if_neg (show ¬ ¬ isA op from fun h => h ho), if_pos h, decide_eq_true ho]
    · rw [if_pos ho, decide_eq_false ho]
  by_cases h1 : chkP (a1, a2, a3, a4, a5, a6)
  · rw [decide_eq_true h1]
    by_cases h2 : chkP (b1, b2, b3, b4, b5, b6)
    · rw [decide_eq_true h2]; rfl
    · rw [decide_eq_false h2, hx (fun h => h2 h.2)]
      simp only [W.eq_self, W.eqB_self, W.and2_tt, W.pick_tf, br_t, br_f]
  · rw [decide_eq_false h1, hx (fun h => h1 h.1)]
    simp only [W.eq_self, W.eqB_self, W.and2_tt, W.pick_tf, br_t, br_f]
theorem ArithRight_law (x : PTs.D ps_clevislaw09ArithRight) (hw : WfL ps_clevislaw09ArithRight x) (hz : SzL ps_clevislaw09ArithRight x) :
    ∃ (C : Cfg) (fl d : Nat), CfgOk C ∧ C.P = Try.prog ∧ call C fl d 7 (encL false ps_clevislaw09ArithRight x) [] getL = some () :=
  E_clevislaw09ArithRight ok_arith_Alu ok_clevisref01Alu ok_clevisref08Check ok_clevisref08Any ok_clevislaw09heads x (ArithRight_pure x hw hz)
end Go.Proofs.Ytomdfcjnmogcbaa
