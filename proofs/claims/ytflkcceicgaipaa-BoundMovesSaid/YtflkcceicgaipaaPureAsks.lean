import Derived.Test.YtflkcceicgaipaaLawConst
set_option linter.unusedVariables false
set_option linter.unusedSimpArgs false
set_option maxRecDepth 100000
set_option maxHeartbeats 4000000
namespace Go.Proofs.Ytflkcceicgaipaa
open Go Go.Eng
theorem rValue_eq {R : Type} (x : PTs.D ps_clevisref08Value) (k : PTs.D qs_clevisref08Value → Option R) : F_clevisref08Value R x k = k (if x.1 = x.2.1 then (x.1, true) else (0, false)) := by
  obtain ⟨(a : Int), (b : Int), (c : Int), (d : Int), (v : Int), (m : Int)⟩ := x
  simp only [F_clevisref08Value, N_clevisref08Value, br_ite, W.ne_t, apply_ite k]
  by_cases h : a = b <;> simp [h]
theorem chk_same (v m : BitVec 64) : v &&& m = 0#64 ↔ v = v &&& ~~~m := by
  constructor
  · intro h
    apply BitVec.eq_of_getLsbD_eq; intro i hi
    have h2 := congrArg (fun z => z.getLsbD i) h
    simp only [BitVec.getLsbD_and, BitVec.getLsbD_not, BitVec.getLsbD_zero, decide_eq_true hi, Bool.true_and] at h2 ⊢
    revert h2; cases v.getLsbD i <;> cases m.getLsbD i <;> simp
  · intro h
    apply BitVec.eq_of_getLsbD_eq; intro i hi
    have h2 := congrArg (fun z => z.getLsbD i) h
    simp only [BitVec.getLsbD_and, BitVec.getLsbD_not, BitVec.getLsbD_zero, decide_eq_true hi, Bool.true_and] at h2 ⊢
    revert h2; cases v.getLsbD i <;> cases m.getLsbD i <;> simp
open Classical in
theorem rCheck_eq {R : Type} (x : PTs.D ps_clevisref08Check) (hw : wfB x) (k : PTs.D qs_clevisref08Check → Option R) : F_clevisref08Check R x k = k (decide (chkP x)) := by
  obtain ⟨(a : Int), (b : Int), (c : Int), (d : Int), (v : Int), (m : Int)⟩ := x
  obtain ⟨_, _, _, _, hv, _⟩ := hw
  have hv : wfI .u64 v := hv
  have hc : (v = U (B64 v &&& ~~~(B64 m))) ↔ B64 v &&& B64 m = 0#64 := by
    rw [chk_same]
    constructor
    · intro h; rw [← U_inj, U_B64 hv]; exact h
    · intro h; rw [← h, U_B64 hv]
  simp only [F_clevisref08Check, N_clevisref08Check, F_clevisref07Check, N_clevisref07Check, W.wrap_u64, W.and_u64, B64_U, U_zero, br_ite, W.pickf_t, W.le_t]
  by_cases h1 : a ≤ b ∧ c ≤ d
  · rw [if_pos h1]; refine congrArg k (dec_eq ?_)
    rw [W.pickf_t, decide_eq_true_eq]
    exact ⟨fun h => ⟨h1.1, h1.2, hc.2 h.2⟩, fun h => ⟨rfl, hc.1 h.2.2⟩⟩
  · rw [if_neg h1]; exact congrArg k (dec_eq ⟨(fun h => absurd h (by simp)), fun h2 => absurd ⟨h2.1, h2.2.1⟩ h1⟩)
open Classical in
theorem rIn_eq {R : Type} (x : PTs.D ps_clevisref08In) (k : PTs.D qs_clevisref08In → Option R) : F_clevisref08In R x k = k (decide (inP x.1 x.2)) := by
  obtain ⟨⟨(a : Int), (b : Int), (c : Int), (d : Int), (v : Int), (m : Int)⟩, (x : Int)⟩ := x
  simp only [F_clevisref08In, N_clevisref08In, F_clevisref07In, N_clevisref07In, W.wrap_u64, W.wrap_i64, W.andNot_u64, B64_U, br_ite, W.pickf_t, W.le_t, W.ge_t]
  by_cases h1 : ((x ≥ a ∧ x ≤ b) ∧ I (B64 x) ≥ c) ∧ I (B64 x) ≤ d
  · rw [if_pos h1]; refine congrArg k (dec_eq ?_)
    simp only [W.pick, cond_true, W.eq_t]
    exact ⟨fun h => ⟨h1.1.1, ⟨h1.1.2, h1.2⟩, h⟩, fun h => h.2.2⟩
  · rw [if_neg h1]; refine congrArg k (dec_eq ⟨(fun h => absurd h (by simp)), fun h2 => absurd ⟨⟨h2.1, h2.2.1.1⟩, h2.2.1.2⟩ h1⟩)
theorem or_sub (p q : BitVec 64) : q &&& ~~~p = 0#64 ↔ q ||| p = p := by
  constructor
  · intro h
    apply BitVec.eq_of_getLsbD_eq; intro i hi
    have h2 := congrArg (fun z => z.getLsbD i) h
    simp only [BitVec.getLsbD_and, BitVec.getLsbD_or, BitVec.getLsbD_not, BitVec.getLsbD_zero, decide_eq_true hi, Bool.true_and] at h2 ⊢
    revert h2; cases p.getLsbD i <;> cases q.getLsbD i <;> simp
  · intro h
    apply BitVec.eq_of_getLsbD_eq; intro i hi
    have h2 := congrArg (fun z => z.getLsbD i) h
    simp only [BitVec.getLsbD_and, BitVec.getLsbD_or, BitVec.getLsbD_not, BitVec.getLsbD_zero, decide_eq_true hi, Bool.true_and] at h2 ⊢
    revert h2; cases p.getLsbD i <;> cases q.getLsbD i <;> simp
open Classical in
theorem rWithin_eq {R : Type} (x : PTs.D ps_clevisref08Within) (hw : wfB x.1) (k : PTs.D qs_clevisref08Within → Option R) : F_clevisref08Within R x k = k (decide (withinP x.1 x.2)) := by
  obtain ⟨⟨(a : Int), (b : Int), (c : Int), (d : Int), (v : Int), (m : Int)⟩, ⟨(a' : Int), (b' : Int), (c' : Int), (d' : Int), (v' : Int), (m' : Int)⟩⟩ := x
  obtain ⟨_, _, _, _, _, hm⟩ := hw
  have hm : wfI .u64 m := hm
  have ho : U (B64 m' ||| B64 m) = m ↔ B64 m' &&& ~~~(B64 m) = 0#64 := by
    rw [or_sub]
    constructor
    · intro h; rw [← U_inj, U_B64 hm]; exact h
    · intro h; rw [h, U_B64 hm]
  simp only [F_clevisref08Within, N_clevisref08Within, F_clevisref07Within, N_clevisref07Within, W.wrap_u64, W.andNot_u64, B64_U, U_zero, br_ite, W.pickf_t, W.le_t, W.ge_t]
  by_cases h1 : ((((((a' ≥ a ∧ a' ≤ b) ∧ b' ≥ a) ∧ b' ≤ b) ∧ c' ≥ c) ∧ c' ≤ d) ∧ d' ≥ c) ∧ d' ≤ d
  · rw [if_pos h1]; refine congrArg k (dec_eq ?_)
    obtain ⟨⟨⟨⟨⟨⟨⟨q1, q2⟩, q3⟩, q4⟩, q5⟩, q6⟩, q7⟩, q8⟩ := h1
    rw [W.pickf_t, W.pickf_t, decide_eq_true_eq, W.eq_t]
    exact ⟨fun h => ⟨⟨q1, q2⟩, ⟨q3, q4⟩, ⟨q5, q6⟩, ⟨q7, q8⟩, ho.2 h.2.1, h.2.2⟩, fun h => ⟨rfl, ho.1 h.2.2.2.2.1, h.2.2.2.2.2⟩⟩
  · rw [if_neg h1]; refine congrArg k (dec_eq ⟨(fun h => absurd h (by simp)), ?_⟩)
    rintro ⟨⟨q1, q2⟩, ⟨q3, q4⟩, ⟨q5, q6⟩, ⟨q7, q8⟩, _⟩
    exact absurd ⟨⟨⟨⟨⟨⟨⟨q1, q2⟩, q3⟩, q4⟩, q5⟩, q6⟩, q7⟩, q8⟩ h1
theorem rConst_eq {R : Type} (x : PTs.D ps_clevisref08Const) (k : PTs.D qs_clevisref08Const → Option R) : F_clevisref08Const R x k = k (constB x) := by
  simp only [F_clevisref08Const, N_clevisref08Const, F_clevisref07Const, N_clevisref07Const, W.wrap_i64, constB]
noncomputable def sizeB (n : Int) : Bd := if n = 1 then (0, 255, 0, 255, 0, 255) else if n = 2 then (0, 65535, 0, 65535, 0, 65535) else if n = 4 then (0, 4294967295, 0, 4294967295, 0, 4294967295) else anyB
theorem Size_eq {R : Type} (n : PTs.D ps_bound_Size) (k : PTs.D qs_bound_Size → Option R) : F_bound_Size R n k = k (sizeB n) := by
  revert n; intro (n : Int)
  by_cases h1 : n = 1
  · subst h1; exact Eq.trans (by rfl) (Eq.refl _)
  by_cases h2 : n = 2
  · subst h2; exact Eq.trans (by rfl) (Eq.refl _)
  by_cases h4 : n = 4
  · subst h4; exact Eq.trans (by rfl) (Eq.refl _)
  have e : W.pick (W.pick (W.ne n 1) (W.ne n 2) false) (W.ne n 4) false = true := by rw [W.pickf_t, W.pickf_t, W.ne_t, W.ne_t, W.ne_t]; exact ⟨⟨h1, h2⟩, h4⟩
  simp only [F_bound_Size, N_bound_Size, e, br_t, Any_eq, sizeB, if_neg h1, if_neg h2, if_neg h4, anyB]
theorem rSize_eq {R : Type} (n : PTs.D ps_clevisref08Size) (k : PTs.D qs_clevisref08Size → Option R) : F_clevisref08Size R n k = k (sizeB n) := by
  revert n; intro (n : Int)
  by_cases h1 : n = 1
  · subst h1; exact Eq.trans (by rfl) (Eq.refl _)
  by_cases h2 : n = 2
  · subst h2; exact Eq.trans (by rfl) (Eq.refl _)
  by_cases h4 : n = 4
  · subst h4; exact Eq.trans (by rfl) (Eq.refl _)
  simp only [F_clevisref08Size, N_clevisref08Size, br_ite, W.eq_t, if_neg h1, if_neg h2, if_neg h4, F_clevisref08Any, N_clevisref08Any, F_clevisref07Any, N_clevisref07Any, sizeB, anyB]
theorem weq_self (z : Int) : W.eq z z = true := W.eq_t.2 (Eq.refl z)
theorem eta6 (z : Bd) : (z.1, z.2.1, z.2.2.1, z.2.2.2.1, z.2.2.2.2.1, z.2.2.2.2.2) = z := Eq.trans (by rfl) (Eq.refl _)
open Classical in
theorem asks_pure (a : PTs.D ps_clevislaw08BoundAsks) (hw : WfL ps_clevislaw08BoundAsks a) :
    L_clevislaw08BoundAsks F_bound_Check F_bound_In F_bound_Value F_bound_Const F_bound_Size F_clevislaw08heads F_clevisref08Value F_clevisref08Check F_clevisref08In F_bound_Within F_clevisref08Within F_clevisref08Const F_clevisref08Size a = some () := by
  obtain ⟨⟨(a : Int), (b : Int), (c : Int), (d : Int), (v : Int), (m : Int)⟩, ⟨(a' : Int), (b' : Int), (c' : Int), (d' : Int), (v' : Int), (m' : Int)⟩, (x : Int), (n : Int)⟩ := a
  obtain ⟨hp, hq, _, _⟩ := hw
  have hp : wfB (a, b, c, d, v, m) := hp
  have hb : ∀ b : Bool, W.eqB b b = true := fun b => W.eqB_t.2 rfl
  have c1 := fun k => rCheck_eq (R := Unit) (a, b, c, d, v, m) hp k
  have c2 := fun k => rWithin_eq (R := Unit) ((a, b, c, d, v, m), (a', b', c', d', v', m')) hp k
  simp only [L_clevislaw08BoundAsks, Value_eq, rValue_eq, Check_eq, c1, In_eq, rIn_eq, Within_eq, c2, Const_eq, rConst_eq, Size_eq, rSize_eq, heads_eq, hb, weq_self]
  rfl
theorem boundAsks_law (x : PTs.D ps_clevislaw08BoundAsks) (hw : WfL ps_clevislaw08BoundAsks x) :
    ∃ (C : Cfg) (fl d : Nat), CfgOk C ∧ C.P = Try.prog ∧ call C fl d 4 (encL false ps_clevislaw08BoundAsks x) [] getL = some () :=
  E_clevislaw08BoundAsks ok_bound_Check ok_bound_In ok_bound_Value ok_bound_Const ok_bound_Size ok_clevislaw08heads ok_clevisref08Value ok_clevisref08Check ok_clevisref08In ok_bound_Within ok_clevisref08Within ok_clevisref08Const ok_clevisref08Size x (asks_pure x hw)
end Go.Proofs.Ytflkcceicgaipaa
