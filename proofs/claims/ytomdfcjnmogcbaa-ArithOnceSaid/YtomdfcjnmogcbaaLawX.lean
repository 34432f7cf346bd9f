import Derived.Test.YtomdfcjnmogcbaaLawsA
import Derived.Test.YtomdfcjnmogcbaaLawZ
set_option linter.unusedVariables false
set_option linter.unusedSimpArgs false
set_option maxHeartbeats 4000000
set_option maxRecDepth 100000
namespace Go.Proofs.Ytomdfcjnmogcbaa
open Go Go.Eng
open Classical
theorem ArithSound_pure (x : PTs.D ps_clevislaw09ArithSound) (hw : WfL ps_clevislaw09ArithSound x) (hz : SzL ps_clevislaw09ArithSound x) :
    L_clevislaw09ArithSound F_arith_Alu F_clevisref01Alu F_clevisref08Check F_clevislaw09heads F_clevisref08In x = some () := by
  obtain ⟨(op : Int), ⟨(a1 : Int), (a2 : Int), (a3 : Int), (a4 : Int), (a5 : Int), (a6 : Int)⟩, ⟨(b1 : Int), (b2 : Int), (b3 : Int), (b4 : Int), (b5 : Int), (b6 : Int)⟩, (n : Int), (m : Int), (wide : Bool)⟩ := x
  have wa : wfB (a1, a2, a3, a4, a5, a6) := hw.2.1
  have wb : wfB (b1, b2, b3, b4, b5, b6) := hw.2.2.1
  have hn : p64 n := u64_lo hw.2.2.2.1
  have hm : p64 m := u64_lo hw.2.2.2.2.1
  have e0 := ralu_eq (R := Unit) (op, n, m, wide) hn hm
  have e1 := fun k => Alu_eq (R := Unit) op _ _ wide wa wb k
  have ca := rCheck_eq (R := Unit) _ wa
  have cb := rCheck_eq (R := Unit) _ wb
  have k9 := alu9_ok (op := op) (w := wide) wa wb
  have cr := rCheck_eq (R := Unit) _ k9.1
  have i1 := fun k => rIn_eq (R := Unit) ((a1, a2, a3, a4, a5, a6), n) k
  have i2 := fun k => rIn_eq (R := Unit) ((b1, b2, b3, b4, b5, b6), m) k
  have i3 := fun k => rIn_eq (R := Unit) ((alu9 op (a1, a2, a3, a4, a5, a6) (b1, b2, b3, b4, b5, b6) wide).1, (alu op n m wide).1) k
  simp only at e0 i1 i2 i3
  have ej : (alu9 op (a1, a2, a3, a4, a5, a6) (b1, b2, b3, b4, b5, b6) wide).2 = decide (isA op) := by
    unfold alu9
    by_cases ho : isA op
    · rw [if_neg (show ¬ ¬ isA op from fun h => h ho), decide_eq_true ho]; split <;> rfl
    · rw [if_pos ho, decide_eq_false ho]
  simp only [L_clevislaw09ArithSound, e0, e1, eta6', ca, cb, cr, i1, i2, i3, ej, alu_is', heads9_eq, W.eqB_self, W.not_eq, Bool.not_true, Bool.not_not, br_f, br_t, W.pick_tf, decide_eq_true k9.2]
  by_cases ho : isA op
  · rw [decide_eq_true ho, br_t]
    by_cases h1 : chkP (a1, a2, a3, a4, a5, a6)
    · rw [decide_eq_true h1]
      by_cases h2 : chkP (b1, b2, b3, b4, b5, b6)
      · rw [decide_eq_true h2]
        by_cases h3 : inP (a1, a2, a3, a4, a5, a6) n
        · rw [decide_eq_true h3]
          by_cases h4 : inP (b1, b2, b3, b4, b5, b6) m
          · rw [decide_eq_true h4, decide_eq_true (alu9_in ho wa wb h1 h2 hn hm h3 h4 wide)]
            rfl
          · rw [decide_eq_false h4]; rfl
        · rw [decide_eq_false h3]; rfl
      · rw [decide_eq_false h2]; rfl
    · rw [decide_eq_false h1]; rfl
  · rw [decide_eq_false ho, br_f]
theorem ArithSound_law (x : PTs.D ps_clevislaw09ArithSound) (hw : WfL ps_clevislaw09ArithSound x) (hz : SzL ps_clevislaw09ArithSound x) :
    ∃ (C : Cfg) (fl d : Nat), CfgOk C ∧ C.P = Try.prog ∧ call C fl d 4 (encL false ps_clevislaw09ArithSound x) [] getL = some () :=
  E_clevislaw09ArithSound ok_arith_Alu ok_clevisref01Alu ok_clevisref08Check ok_clevislaw09heads ok_clevisref08In x (ArithSound_pure x hw hz)
theorem ArithOnce_pure (x : PTs.D ps_clevislaw09ArithOnce) (hw : WfL ps_clevislaw09ArithOnce x) (hz : SzL ps_clevislaw09ArithOnce x) :
    L_clevislaw09ArithOnce F_arith_Alu F_clevisref01Alu F_clevisref08Const F_clevislaw09heads F_clevisref08In x = some () := by
  obtain ⟨(op : Int), (n : Int), (m : Int), (wide : Bool)⟩ := x
  have hn : p64 n := u64_lo hw.2.1
  have hm : p64 m := u64_lo hw.2.2.1
  have e0 := ralu_eq (R := Unit) (op, n, m, wide) hn hm
  simp only at e0
  have wa : wfB (constB n) := wf_const hn
  have wb : wfB (constB m) := wf_const hm
  have e1 := fun k => Alu_eq (R := Unit) op _ _ wide wa wb k
  have i3 := fun k => rIn_eq (R := Unit) ((alu9 op (constB n) (constB m) wide).1, (alu op n m wide).1) k
  simp only at i3
  have c1 := const_chk (wfI_q hn)
  have c2 := const_chk (wfI_q hm)
  have hz : p64 (alu op n m wide).1 := alu_p hn hm
  have ej : (alu9 op (constB n) (constB m) wide).2 = decide (isA op) := by
    unfold alu9
    by_cases ho : isA op
    · rw [if_neg (show ¬ ¬ isA op from fun h => h ho), decide_eq_true ho]; split <;> rfl
    · rw [if_pos ho, decide_eq_false ho]
  simp only [L_clevislaw09ArithOnce, e0, rConst_eq, eta6', e1, i3, ej, alu_is', heads9_eq, W.eqB_self, W.not_eq, Bool.not_true, br_f, br_t, W.pick_tf, W.and_32]
  by_cases ho : isA op
  · rw [decide_eq_true ho]
    simp only [Bool.not_true, W.pick_ff, br_f]
    have ii := alu9_in ho wa wb c1 c2 hn hm ((in_const (wfI_q hn) (wfI_q hn)).2 rfl) ((in_const (wfI_q hm) (wfI_q hm)).2 rfl) wide
    rw [decide_eq_true ii, br_t]
    by_cases hc : (op = 48 ∧ m % 4294967296 = 0) ∨ op = 144 ∨ (op = 48 ∧ m = 0) ∨ (op = 192 ∧ wide = false)
    · have : (W.pick (W.pick (W.pick (W.pick (W.eq op 48) (W.eq (W.wrap IntKind.u64 (m % 4294967296)) 0) false) true (W.eq op 144)) true (W.pick (W.eq op 48) (W.eq m 0) false)) true (W.pick (W.eq op 192) (!wide) false)) = true := by
        simp only [W.picko_t, W.pickf_t, W.eq_t]
        rw [W.wu64_id (by omega) (by omega)]
        rcases hc with h | h | h | h
        · exact .inl (.inl (.inl h))
        · exact .inl (.inl (.inr h))
        · exact .inl (.inr h)
        · exact .inr ⟨h.1, by rw [h.2]; rfl⟩
      rw [this, br_t]
    · rw [once_known ho hn hm hc]
      simp only [W.eq_self, W.and2_tt, br_t]
      cases (W.pick (W.pick (W.pick (W.pick (W.eq op 48) (W.eq (W.wrap IntKind.u64 (m % 4294967296)) 0) false) true (W.eq op 144)) true (W.pick (W.eq op 48) (W.eq m 0) false)) true (W.pick (W.eq op 192) (!wide) false)) <;> rfl
  · rw [decide_eq_false ho]
    simp only [Bool.not_false, W.pick_tf, br_t]
theorem ArithOnce_law (x : PTs.D ps_clevislaw09ArithOnce) (hw : WfL ps_clevislaw09ArithOnce x) (hz : SzL ps_clevislaw09ArithOnce x) :
    ∃ (C : Cfg) (fl d : Nat), CfgOk C ∧ C.P = Try.prog ∧ call C fl d 5 (encL false ps_clevislaw09ArithOnce x) [] getL = some () :=
  E_clevislaw09ArithOnce ok_arith_Alu ok_clevisref01Alu ok_clevisref08Const ok_clevislaw09heads ok_clevisref08In x (ArithOnce_pure x hw hz)
theorem ArithLow_pure (x : PTs.D ps_clevislaw09ArithLow) (hw : WfL ps_clevislaw09ArithLow x) (hz : SzL ps_clevislaw09ArithLow x) :
    L_clevislaw09ArithLow F_arith_Alu F_clevisref08Check F_clevisref08Any F_clevislaw09heads x = some () := by
  obtain ⟨(op : Int), ⟨(a1 : Int), (a2 : Int), (a3 : Int), (a4 : Int), (a5 : Int), (a6 : Int)⟩, ⟨(b1 : Int), (b2 : Int), (b3 : Int), (b4 : Int), (b5 : Int), (b6 : Int)⟩⟩ := x
  have wa : wfB (a1, a2, a3, a4, a5, a6) := hw.2.1
  have wb : wfB (b1, b2, b3, b4, b5, b6) := hw.2.2
  have e1 := fun k => Alu_eq (R := Unit) op _ _ false wa wb k
  have ca := rCheck_eq (R := Unit) _ wa
  have cb := rCheck_eq (R := Unit) _ wb
  simp only [L_clevislaw09ArithLow, e1, eta6', ca, cb, rany9_eq, heads9_eq, W.not_eq, Bool.not_not, W.pick_tf, br_t]
  have hx : ¬ (chkP (a1, a2, a3, a4, a5, a6) ∧ chkP (b1, b2, b3, b4, b5, b6)) → alu9 op (a1, a2, a3, a4, a5, a6) (b1, b2, b3, b4, b5, b6) false = (anyB, decide (isA op)) := by
    intro h
    unfold alu9
    by_cases ho : isA op
    · rw [if_neg (show ¬ ¬ isA op from fun h => h ho), if_pos h, decide_eq_true ho]
    · rw [if_pos ho, decide_eq_false ho]
  by_cases ho : isA op
  · by_cases h1 : chkP (a1, a2, a3, a4, a5, a6)
    · rw [decide_eq_true h1]
      by_cases h2 : chkP (b1, b2, b3, b4, b5, b6)
      · rw [decide_eq_true h2]
        have hl := alu9_low ho wa wb h1 h2
        have ej : (alu9 op (a1, a2, a3, a4, a5, a6) (b1, b2, b3, b4, b5, b6) false).2 = true := by rw [alu9_w ho h1 h2]
        rw [ej]
        have l1 : W.le (alu9 op (a1, a2, a3, a4, a5, a6) (b1, b2, b3, b4, b5, b6) false).1.2.1 4294967295 = true := by unfold W.le; exact decide_eq_true hl.1
        have l2 : W.ge (alu9 op (a1, a2, a3, a4, a5, a6) (b1, b2, b3, b4, b5, b6) false).1.2.2.1 0 = true := by unfold W.ge; exact decide_eq_true hl.2
        rw [l1, l2]; rfl
      · rw [decide_eq_false h2, hx (fun h => h2 h.2), decide_eq_true ho]
        simp only [W.eq_self, W.eqB_self, W.and2_tt, W.pick_tf, br_t, br_f]
        rfl
    · rw [decide_eq_false h1, hx (fun h => h1 h.1), decide_eq_true ho]
      simp only [W.eq_self, W.eqB_self, W.and2_tt, W.pick_tf, br_t, br_f]
      rfl
  · have ex : alu9 op (a1, a2, a3, a4, a5, a6) (b1, b2, b3, b4, b5, b6) false = (anyB, false) := by unfold alu9; rw [if_pos ho]
    rw [ex]
    simp only [W.eq_self, W.eqB_self, W.and2_tt, W.pick_tf, br_t, br_f]
theorem ArithLow_law (x : PTs.D ps_clevislaw09ArithLow) (hw : WfL ps_clevislaw09ArithLow x) (hz : SzL ps_clevislaw09ArithLow x) :
    ∃ (C : Cfg) (fl d : Nat), CfgOk C ∧ C.P = Try.prog ∧ call C fl d 6 (encL false ps_clevislaw09ArithLow x) [] getL = some () :=
  E_clevislaw09ArithLow ok_arith_Alu ok_clevisref08Check ok_clevisref08Any ok_clevislaw09heads x (ArithLow_pure x hw hz)
end Go.Proofs.Ytomdfcjnmogcbaa
