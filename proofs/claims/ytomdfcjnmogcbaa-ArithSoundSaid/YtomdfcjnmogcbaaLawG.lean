import Derived.Test.YtomdfcjnmogcbaaLawF
set_option linter.unusedVariables false
set_option linter.unusedSimpArgs false
set_option maxHeartbeats 4000000
set_option maxRecDepth 100000
namespace Go.Proofs.Ytomdfcjnmogcbaa
open Go Go.Eng
variable {R : Type}
noncomputable def tidy9 (b : Bd) : Bd := opt (tidyB b) anyB fun c => c
theorem aTidy_eq (x : PTs.D ps_arith_tidy) (k : Bd → Option R) : F_arith_tidy R x k = k (tidy9 x) := by
  obtain ⟨(a1 : Int), (a2 : Int), (a3 : Int), (a4 : Int), (a5 : Int), (a6 : Int)⟩ := x
  simp only [F_arith_tidy, N_arith_tidy, Tidy_eq, Any_eq, eta6', tidy9]
  cases tidyB (a1, a2, a3, a4, a5, a6) with
  | none => simp only [opt, br_f]
  | some c => simp only [opt, br_t]
theorem rTidy9_eq (x : PTs.D ps_clevisref09tidy) (k : Bd → Option R) : F_clevisref09tidy R x k = k (tidy9 x) := by
  obtain ⟨(a1 : Int), (a2 : Int), (a3 : Int), (a4 : Int), (a5 : Int), (a6 : Int)⟩ := x
  simp only [F_clevisref09tidy, N_clevisref09tidy, rTidy_eq, rany9_eq, eta6', tidy9, W.not_eq]
  cases tidyB (a1, a2, a3, a4, a5, a6) with
  | none => simp only [opt, Bool.not_false, br_t]
  | some c => simp only [opt, Bool.not_true, br_f]
theorem low_wf {b : Bd} (hw : wfB b) (hc : chkP b) : wfB (lowB b) ∧ chkP (lowB b) := by
  by_cases h1 : b.2.1 ≤ 4294967295
  · rw [low_small h1]; exact ⟨hw, hc⟩
  · rw [low_big h1]
    have w1 : wfB (cutB' b) := ⟨by rfl, by rfl, by rfl, by rfl, wf_U _, wf_U _⟩
    have c1 : chkT (cutB' b) := by
      unfold cutB'
      simp only [chkT, B64_U]
      rw [U_inj]
      have := chk_zero hc.2.2
      generalize B64 b.2.2.2.2.1 = p at this ⊢
      generalize B64 b.2.2.2.2.2 = q at this ⊢
      apply BitVec.eq_of_getLsbD_eq; intro i hi
      have h2 := congrArg (fun z => z.getLsbD i) this
      simp only [BitVec.getLsbD_and, BitVec.getLsbD_not, BitVec.getLsbD_zero, decide_eq_true hi, Bool.true_and] at h2 ⊢
      revert h2; cases p.getLsbD i <;> cases q.getLsbD i <;> cases M32.getLsbD i <;> simp
    rcases lowC_cases (lowP b.2.2.2.2.1) (lowP b.2.2.2.2.2) (tidyB (cutB' b)) with e | ⟨x, e1, e2⟩
    · rw [e]
      refine ⟨⟨by rfl, by rfl, by rfl, by rfl, by rfl, by rfl⟩, ?_⟩
      unfold chkP wholeB
      refine ⟨by decide, by decide, ?_⟩
      simp only [B64_0]; simp; rfl
    · rw [e2]
      obtain ⟨q1, q2, _⟩ := tidy_some w1 c1 e1
      exact ⟨q1, q2⟩
/-- The second operand of a shift that is not wide. -/
noncomputable def cntB (b : Bd) : Bd := if b.1 = b.2.1 then constB (b.1 % 32) else b
open Classical in
noncomputable def nar9 (op : Int) (a b : Bd) : Bd :=
  if shrun op then
    (if (op ≠ 112 ∧ ¬ (lowB b).1 = (lowB b).2.1) ∨ (op = 192 ∧ 2147483647 < (lowB a).2.1) then wholeB
      else lowB (tidy9 (opB (if op = 192 then 112 else op) (lowB a) (cntB (lowB b)))))
  else lowB (tidy9 (opB op (lowB a) (lowB b)))
open Classical in
noncomputable def alu9 (op : Int) (a b : Bd) (w : Bool) : Bd × Bool :=
  if ¬ isA op then (anyB, false) else if ¬ (chkP a ∧ chkP b) then (anyB, true) else (tidy9 (if w = true then opB op a b else nar9 op a b), true)
theorem wf_cnt {b : Bd} (h : wfB b) : wfB (cntB b) := by
  have := u64_lo h.1
  unfold cntB; split
  · exact wf_const ⟨by omega, by omega⟩
  · exact h
theorem rLow_one (x : PTs.D ps_clevisref08Low) (k : Bd → Option R) : F_clevisref08Low R x k = k (lowB x) := rLow_eq x k
open Classical in
theorem rNarrow9_eq (op : Int) (ho : isA op) (a b : Bd) (wa : wfB a) (wb : wfB b) (ca : chkP a) (cb : chkP b) (k : Bd → Option R) : F_clevisref09narrow R (op, a, b) k = k (nar9 op a b) := by
  have la := low_wf wa ca
  have lb := low_wf wb cb
  have hw := fun op (h : isA op) b' (wb : wfB b') => rWide_eq (R := R) op h (lowB a) b' la.1 wb
  obtain ⟨(a1 : Int), (a2 : Int), (a3 : Int), (a4 : Int), (a5 : Int), (a6 : Int)⟩ := a
  obtain ⟨(b1 : Int), (b2 : Int), (b3 : Int), (b4 : Int), (b5 : Int), (b6 : Int)⟩ := b
  simp only [F_clevisref09narrow, N_clevisref09narrow, rLow_one, rValue_eq, rConst_eq, rsize4, rTidy9_eq, eta6']
  unfold nar9
  generalize lowB (a1, a2, a3, a4, a5, a6) = A at la hw ⊢
  generalize lowB (b1, b2, b3, b4, b5, b6) = B at lb ⊢
  have pb : p64 B.1 := u64_lo lb.1.1
  have er : W.rem B.1 32 = B.1 % 32 := by unfold W.rem; exact Int.tmod_eq_emod_of_nonneg pb.1
  have ecnt : W.pick (W.pick (W.eq op 96) true (W.eq op 112)) true (W.eq op 192) = decide (shrun op) := by
    rw [Bool.eq_iff_iff, W.picko_t, W.picko_t, W.eq_t, W.eq_t, W.eq_t, decide_eq_true_eq]; unfold shrun; rw [or_assoc]
  rw [ecnt, br_d]
  by_cases hs : shrun op
  rotate_left
  · rw [if_neg hs, if_neg hs, hw op ho B lb.1]
  rw [if_pos hs, if_pos hs]
  have ho' : isA (if op = 192 then 112 else op) := by
    unfold shrun at hs
    rcases hs with e | e | e <;> subst e <;> simp [isA]
  have hstep : ∀ C : Bd, wfB C → (br (W.eq op 192) (F_clevisref09wide R (112, A, C) fun y => F_clevisref09tidy R y fun y => k (lowB y)) (F_clevisref09wide R (op, A, C) fun y => F_clevisref09tidy R y fun y => k (lowB y))) =
      k (lowB (tidy9 (opB (if op = 192 then 112 else op) A C))) := by
    intro C wc
    by_cases h : op = 192
    · rw [br_pos (W.eq_t.2 h), if_pos h, hw 112 (by simp [isA]) C wc, rTidy9_eq]
    · rw [br_neg (by rw [W.eq_d]; simpa using h), if_neg h, hw op ho C wc, rTidy9_eq]
  simp only [rTidy9_eq] at hstep
  have hcond : ∀ one : Bool, W.pick (W.pick (W.not one) (W.ne op 112) false) true (W.pick (W.eq op 192) (W.gt A.2.1 2147483647) false) = true ↔ (op ≠ 112 ∧ one = false) ∨ (op = 192 ∧ 2147483647 < A.2.1) := by
    intro one
    rw [W.picko_t, W.pickf_t, W.pickf_t, W.not_t, W.ne_t, W.eq_t, W.gt_t]
    constructor
    · rintro (h | h)
      · exact .inl ⟨h.2, h.1⟩
      · exact .inr h
    · rintro (h | h)
      · exact .inl ⟨h.2, h.1⟩
      · exact .inr h
  by_cases h1 : B.1 = B.2.1
  · simp only [if_pos h1, br_t, er]
    have ec : cntB B = constB (B.1 % 32) := by unfold cntB; rw [if_pos h1]
    rw [ec]
    by_cases h2 : (op ≠ 112 ∧ ¬ B.1 = B.2.1) ∨ (op = 192 ∧ 2147483647 < A.2.1)
    · rw [if_pos h2, br_pos ((hcond true).2 (by rcases h2 with h | h; exact absurd h1 h.2; exact .inr h))]
    · rw [if_neg h2, br_neg (by rw [Bool.eq_false_iff]; intro h; rcases (hcond true).1 h with h | h; cases h.2; exact h2 (.inr h))]
      exact hstep _ (wf_const ⟨by omega, by omega⟩)
  · simp only [if_neg h1, br_f]
    have ec : cntB B = B := by unfold cntB; rw [if_neg h1]
    rw [ec]
    by_cases h2 : (op ≠ 112 ∧ ¬ B.1 = B.2.1) ∨ (op = 192 ∧ 2147483647 < A.2.1)
    · rw [if_pos h2, br_pos ((hcond false).2 (by rcases h2 with h | h; exact .inl ⟨h.1, rfl⟩; exact .inr h))]
    · rw [if_neg h2, br_neg (by rw [Bool.eq_false_iff]; intro h; rcases (hcond false).1 h with h | h; exact h2 (.inl ⟨h.1, h1⟩); exact h2 (.inr h))]
      exact hstep _ lb.1
open Classical in
theorem alu_is (op : Int) : (alu op 0 0 true).2 = decide (isA op) := by
  by_cases h : isA op
  · rw [decide_eq_true h]
    unfold isA at h
    rcases h with e | e | e | e | e | e | e | e | e | e | e | e | e <;> subst e <;> simp [alu]
  · rw [decide_eq_false h]
    unfold isA at h
    simp only [not_or] at h
    obtain ⟨h1, h2, h3, h4, h5, h6, h7, h8, h9, h10, h11, h12, h13⟩ := h
    simp [alu, *]
open Classical in
theorem rAlu9_eq (op : Int) (a b : Bd) (w : Bool) (wa : wfB a) (wb : wfB b) (k : Bd × Bool → Option R) : F_clevisref09Alu R (op, a, b, w) k = k (alu9 op a b w) := by
  have hn := fun h h1 h2 => rNarrow9_eq (R := R) op h a b wa wb h1 h2
  have hw := fun h => rWide_eq (R := R) op h a b wa wb
  have ca := rCheck_eq (R := R) a wa
  have cb := rCheck_eq (R := R) b wb
  have e0 := ralu_eq (R := R) (op, 0, 0, true) p0 p0
  simp only at e0
  obtain ⟨(a1 : Int), (a2 : Int), (a3 : Int), (a4 : Int), (a5 : Int), (a6 : Int)⟩ := a
  obtain ⟨(b1 : Int), (b2 : Int), (b3 : Int), (b4 : Int), (b5 : Int), (b6 : Int)⟩ := b
  simp only [F_clevisref09Alu, N_clevisref09Alu, e0, alu_is, ca, cb, rany9_eq, rTidy9_eq, eta6', W.not_eq, Bool.not_not, alu9]
  by_cases ho : isA op
  rotate_left
  · rw [decide_eq_false ho, if_pos (show ¬ isA op from ho)]; exact br_t _ _
  rw [decide_eq_true ho, show (!true) = false from rfl, br_f, if_neg (show ¬ ¬ isA op from fun h => h ho)]
  by_cases h1 : chkP (a1, a2, a3, a4, a5, a6)
  rotate_left
  · rw [decide_eq_false h1, br_f, if_pos (fun h => h1 h.1)]
  by_cases h2 : chkP (b1, b2, b3, b4, b5, b6)
  rotate_left
  · rw [decide_eq_true h1, br_t, decide_eq_false h2, if_pos (fun h => h2 h.2)]; exact br_t _ _
  rw [decide_eq_true h1, br_t, decide_eq_true h2, if_neg (fun h => h ⟨h1, h2⟩), br_neg (show W.pick false true (!true) = false from rfl)]
  cases w with
  | true => simp only [Bool.not_true, br_f, hw ho, if_true]
  | false => simp only [Bool.not_false, br_t, hn ho h1 h2, Bool.false_eq_true, if_false]
end Go.Proofs.Ytomdfcjnmogcbaa
