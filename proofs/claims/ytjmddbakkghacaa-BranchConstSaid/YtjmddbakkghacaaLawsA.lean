import Derived.Test.YtjmddbakkghacaaLawD
set_option linter.unusedVariables false
set_option linter.unusedSimpArgs false
set_option maxHeartbeats 4000000
set_option maxRecDepth 100000
namespace Go.Proofs.Ytjmddbakkghacaa
open Go Go.Eng
open Classical
/-! ### plain laws of what is known behind a condition -/
theorem opp_opp {op : Int} (h : isOp op) (h' : op ≠ 64) : oppO (oppO op) = op ∧ isOp (oppO op) ∧ oppO op ≠ 64 ∧ mostO (oppO op) = mostO op := by
  unfold isOp at h
  rcases h with h | h | h | h | h | h | h | h | h | h | h <;> subst h <;> first | exact absurd rfl h' | (simp [oppO, isOp, mostO, sgdP])
theorem opp_neg {op : Int} (h : ¬ isOp op) : oppO op = -1 := by
  unfold isOp at h
  simp only [not_or] at h
  obtain ⟨h1, h2, h3, h4, h5, h6, h7, h8, h9, h10, h11⟩ := h
  simp [oppO, *]
theorem opp_64 : oppO 64 = -1 := by simp [oppO]
theorem dle (a b : Int) : decide (a ≤ b) = !decide (b < a) := by by_cases h : a ≤ b <;> simp [h] <;> omega
theorem dlt (a b : Int) : decide (a < b) = !decide (b ≤ a) := by by_cases h : a < b <;> simp [h] <;> omega
theorem cnd_opp {op x y : Int} {w : Bool} (h : isOp op) (h' : op ≠ 64) : (cnd (oppO op) x y w).1 = !(cnd op x y w).1 := by
  unfold isOp at h
  rcases h with h | h | h | h | h | h | h | h | h | h | h <;> subst h <;> first | exact absurd rfl h' | skip
  all_goals
    simp [oppO, cnd, ord, cmp_lt, cmp_le, cmp_gt, cmp_ge, cmp_eq, cmp_ne]
    try first
      | exact dle _ _
      | exact dlt _ _
theorem refine_opp {op : Int} {a b : Bd} {w : Bool} (h : isOp op) (h' : op ≠ 64) : refineB op a b w false = refineB (oppO op) a b w true := by
  obtain ⟨h1, h2, h3, h4⟩ := opp_opp h h'
  unfold refineB
  by_cases hc : chkP a ∧ chkP b
  · rw [if_pos ⟨h, hc⟩, if_pos ⟨h2, hc⟩]
    unfold mainB
    rw [h4]
    have e : stepB op a b false = stepB (oppO op) a b true := by
      unfold stepB
      rw [if_neg h', if_neg h3]; rfl
    rw [e, cnd_opp h h']
    cases (cnd op a.1 b.1 w).1 <;> simp
  · rw [if_neg (fun h => hc h.2), if_neg (fun h => hc h.2)]
noncomputable def swap3 (z : Bd × Bd × Bool) : Bd × Bd × Bool := (z.2.1, z.1, z.2.2)
theorem both_swap (p : Bd × Bd) : bothB (p.2, p.1) = swap3 (bothB p) := by
  unfold bothB swap3
  cases tidyB p.1 <;> cases tidyB p.2 <;> rfl
theorem opt_swap (o : Option (Bd × Bd)) : opt (swp o) (zB, zB, false) bothB = swap3 (opt o (zB, zB, false) bothB) := by
  cases o with
  | none => rfl
  | some p => exact both_swap p
theorem swp_swp (o : Option (Bd × Bd)) : swp (swp o) = o := by cases o <;> rfl
theorem main_swap {o q : Int} {a b : Bd} {w h : Bool} (hs : stepB o a b h = swp (stepB q b a h)) (hc : ∀ x y, (cnd o x y w).1 = (cnd q y x w).1) (hm : mostO o = mostO q) : mainB o a b w h = swap3 (mainB q b a w h) := by
  unfold mainB
  by_cases h1 : a.1 = a.2.1 ∧ b.1 = b.2.1
  · rw [if_pos h1, if_pos (show b.1 = b.2.1 ∧ a.1 = a.2.1 from ⟨h1.2, h1.1⟩), hc]
    split <;> rfl
  · rw [if_neg h1, if_neg (show ¬ (b.1 = b.2.1 ∧ a.1 = a.2.1) from fun h => h1 ⟨h.2, h.1⟩), hm]
    by_cases h2 : w = false ∧ ¬ (a.2.1 ≤ mostO q ∧ b.2.1 ≤ mostO q)
    · rw [if_pos h2, if_pos (show w = false ∧ ¬ (b.2.1 ≤ mostO q ∧ a.2.1 ≤ mostO q) from ⟨h2.1, fun h => h2.2 ⟨h.2, h.1⟩⟩)]; rfl
    · rw [if_neg h2, if_neg (show ¬ (w = false ∧ ¬ (b.2.1 ≤ mostO q ∧ a.2.1 ≤ mostO q)) from fun h => h2 ⟨h.1, fun h' => h.2 ⟨h'.2, h'.1⟩⟩), hs, opt_swap]
theorem refine_swap {o q : Int} {a b : Bd} {w h : Bool} (ho : isOp o) (hq : isOp q) (hs : stepB o a b h = swp (stepB q b a h)) (hc : ∀ x y, (cnd o x y w).1 = (cnd q y x w).1) (hm : mostO o = mostO q) : refineB o a b w h = swap3 (refineB q b a w h) := by
  unfold refineB
  by_cases h1 : chkP a ∧ chkP b
  · rw [if_pos ⟨ho, h1⟩, if_pos ⟨hq, h1.2, h1.1⟩, main_swap hs hc hm]
  · rw [if_neg (fun h => h1 h.2), if_neg (fun h => h1 ⟨h.2.2, h.2.1⟩)]; rfl
theorem turn_u (a b : Bd) (w h : Bool) : refineB 32 a b w h = swap3 (refineB 160 b a w h) := by
  refine refine_swap (by simp [isOp]) (by simp [isOp]) ?_ ?_ (by simp [mostO, sgdP])
  · cases h <;> simp [stepB, truthB, oppO, swp_swp]
  · intro x y; simp [cnd, ord, cmp_gt, cmp_lt]
theorem turn_s (a b : Bd) (w h : Bool) : refineB 112 a b w h = swap3 (refineB 208 b a w h) := by
  refine refine_swap (by simp [isOp]) (by simp [isOp]) ?_ ?_ (by simp [mostO, sgdP])
  · cases h <;> simp [stepB, truthB, oppO, swp_swp]
  · intro x y; simp [cnd, ord, cmp_ge, cmp_le]
theorem refine_no {op : Int} {a b : Bd} {w h : Bool} (ho : ¬ isOp op) : refineB op a b w h = (a, b, true) := by
  unfold refineB; rw [if_neg (fun h => ho h.1)]
theorem wfI_p {x : Int} (h : p64 x) : wfI .u64 x := by
  unfold p64 at h; rw [wfI_iff]; simp [IntKind.min, IntKind.max, IntKind.signed, IntKind.bits]; omega
theorem chk_const {x : Int} (h : wfI .u64 x) : chkP (constB x) := by
  refine ⟨Int.le_refl _, Int.le_refl _, ?_⟩
  simp only [constB]
  rw [B64_0, and_n0, U_B64 h]
theorem BranchConst_pure (x : PTs.D ps_clevislaw10BranchConst) (hw : WfL ps_clevislaw10BranchConst x) (hz : SzL ps_clevislaw10BranchConst x) :
    L_clevislaw10BranchConst F_clevisref01Cond F_branch_Refine F_clevisref08Const F_clevislaw10heads x = some () := by
  obtain ⟨(op : Int), (x : Int), (y : Int), (wide : Bool)⟩ := x
  have px : p64 x := u64_lo hw.2.1
  have py : p64 y := u64_lo hw.2.2.1
  have c1 : rcnd op x y wide = cnd op x y wide := (cond_same px py).symm
  have c2 := rcond_eq (R := Unit) (op, x, y, wide) px py
  simp only at c2
  simp only [L_clevislaw10BranchConst, Refine_eq, rConst_eq, heads10_eq, c2, c1, eta6', cnd_is]
  by_cases ho : isOp op
  · have hm : ∀ h, refineB op (constB x) (constB y) wide h = if (cnd op x y wide).1 = h then (constB x, constB y, true) else (zB, zB, false) := by
      intro h
      unfold refineB
      rw [if_pos ⟨ho, chk_const (wfI_p px), chk_const (wfI_p py)⟩]
      unfold mainB
      rw [if_pos ⟨rfl, rfl⟩]; rfl
    rw [decide_eq_true ho, hm true, hm false]
    have q1 : W.eqB false true = false := rfl
    have q2 : W.eqB true false = false := rfl
    have q3 : W.and2 true false = false := rfl
    have q4 : W.and2 false true = false := rfl
    have q5 : W.and2 false false = false := rfl
    have q6 : ∀ c, W.pick false c false = false := fun _ => rfl
    have q7 : ∀ c, W.pick true true c = true := fun _ => rfl
    have q8 : ∀ c, W.and2 false c = false := fun _ => rfl
    have q9 : ∀ c, W.and2 true c = c := fun _ => rfl
    cases (cnd op x y wide).1
    · simp only [if_true, if_false, Bool.false_eq_true, W.eqB_self, W.not_tt, W.not_ff, q1, q2, q3, q4, q5, q6, q7, q8, q9, W.pick_tt, W.pick_ft, W.pick_tf, br_t, br_f, W.eq_self, W.and2_tt]
    · simp only [if_true, if_false, Bool.true_eq_false, W.eqB_self, W.not_tt, W.not_ff, q1, q2, q3, q4, q5, q6, q7, q8, q9, W.pick_tt, W.pick_ft, W.pick_tf, br_t, br_f, W.eq_self, W.and2_tt]
  · rw [decide_eq_false ho, refine_no ho, refine_no ho]
    simp [W.not, W.eqB, br_t, br_f, W.and2, W.pick, W.eq_self]
theorem BranchConst_law (x : PTs.D ps_clevislaw10BranchConst) (hw : WfL ps_clevislaw10BranchConst x) (hz : SzL ps_clevislaw10BranchConst x) :
    ∃ (C : Cfg) (fl d : Nat), CfgOk C ∧ C.P = Try.prog ∧ call C fl d 3 (encL false ps_clevislaw10BranchConst x) [] getL = some () :=
  E_clevislaw10BranchConst ok_clevisref01Cond ok_branch_Refine ok_clevisref08Const ok_clevislaw10heads x (BranchConst_pure x hw hz)
theorem BranchRefines_pure (x : PTs.D ps_clevislaw10BranchRefines) (hw : WfL ps_clevislaw10BranchRefines x) (hz : SzL ps_clevislaw10BranchRefines x) :
    L_clevislaw10BranchRefines F_branch_Opposite F_branch_Refine F_clevislaw10heads F_clevisref10Opposite F_clevisref10Refine x = some () := by
  obtain ⟨(op : Int), ⟨(a1 : Int), (a2 : Int), (a3 : Int), (a4 : Int), (a5 : Int), (a6 : Int)⟩, ⟨(b1 : Int), (b2 : Int), (b3 : Int), (b4 : Int), (b5 : Int), (b6 : Int)⟩, (wide : Bool), (holds : Bool)⟩ := x
  have wa : wfB (a1, a2, a3, a4, a5, a6) := hw.2.1
  have wb : wfB (b1, b2, b3, b4, b5, b6) := hw.2.2.1
  have er := rRefine_eq (R := Unit) (op, (a1, a2, a3, a4, a5, a6), (b1, b2, b3, b4, b5, b6), wide, holds) wa wb
  simp only [L_clevislaw10BranchRefines, Refine_eq, er, Opposite_eq, rOpposite_eq, heads10_eq, W.eq_self, W.eqB_self, W.and2_tt, W.pick_tf, br_t]
theorem BranchRefines_law (x : PTs.D ps_clevislaw10BranchRefines) (hw : WfL ps_clevislaw10BranchRefines x) (hz : SzL ps_clevislaw10BranchRefines x) :
    ∃ (C : Cfg) (fl d : Nat), CfgOk C ∧ C.P = Try.prog ∧ call C fl d 4 (encL false ps_clevislaw10BranchRefines x) [] getL = some () :=
  E_clevislaw10BranchRefines ok_branch_Opposite ok_branch_Refine ok_clevislaw10heads ok_clevisref10Opposite ok_clevisref10Refine x (BranchRefines_pure x hw hz)
theorem BranchOpposite_pure (x : PTs.D ps_clevislaw10BranchOpposite) (hw : WfL ps_clevislaw10BranchOpposite x) (hz : SzL ps_clevislaw10BranchOpposite x) :
    L_clevislaw10BranchOpposite F_clevisref01Cond F_branch_Opposite F_branch_Refine F_clevislaw10heads x = some () := by
  obtain ⟨(op : Int), ⟨(a1 : Int), (a2 : Int), (a3 : Int), (a4 : Int), (a5 : Int), (a6 : Int)⟩, ⟨(b1 : Int), (b2 : Int), (b3 : Int), (b4 : Int), (b5 : Int), (b6 : Int)⟩, (wide : Bool)⟩ := x
  have wa : wfB (a1, a2, a3, a4, a5, a6) := hw.2.1
  have wb : wfB (b1, b2, b3, b4, b5, b6) := hw.2.2.1
  have pa : p64 a1 := u64_lo wa.1
  have pb : p64 b1 := u64_lo wb.1
  have c1 : ∀ o, rcnd o a1 b1 wide = cnd o a1 b1 wide := fun o => (cond_same pa pb).symm
  have c2 := fun o => rcond_eq (R := Unit) (o, a1, b1, wide) pa pb
  simp only at c2
  simp only [L_clevislaw10BranchOpposite, Refine_eq, Opposite_eq, heads10_eq, c2, c1]
  by_cases h : isOp op ∧ op ≠ 64
  · obtain ⟨h1, h2, h3, h4⟩ := opp_opp h.1 h.2
    have hp : ¬ oppO op < 0 := by
      intro h'
      unfold isOp at h2
      omega
    rw [br_neg (by rw [W.lt_d]; exact decide_eq_false hp), refine_opp h.1 h.2, h1, cnd_opp h.1 h.2]
    simp only [W.eq_self, W.eqB_self, W.and2_tt, W.pick_tf, br_t]
    rw [br_pos]
    cases (cnd op a1 b1 wide).1 <;> rfl
  · have hp : oppO op = -1 := by
      by_cases h1 : isOp op
      · have : op = 64 := by false_or_by_contra; exact h ⟨h1, by assumption⟩
        rw [this, opp_64]
      · exact opp_neg h1
    rw [hp, br_pos (by decide), br_t]
theorem BranchOpposite_law (x : PTs.D ps_clevislaw10BranchOpposite) (hw : WfL ps_clevislaw10BranchOpposite x) (hz : SzL ps_clevislaw10BranchOpposite x) :
    ∃ (C : Cfg) (fl d : Nat), CfgOk C ∧ C.P = Try.prog ∧ call C fl d 7 (encL false ps_clevislaw10BranchOpposite x) [] getL = some () :=
  E_clevislaw10BranchOpposite ok_clevisref01Cond ok_branch_Opposite ok_branch_Refine ok_clevislaw10heads x (BranchOpposite_pure x hw hz)
theorem BranchTurns_pure (x : PTs.D ps_clevislaw10BranchTurns) (hw : WfL ps_clevislaw10BranchTurns x) (hz : SzL ps_clevislaw10BranchTurns x) :
    L_clevislaw10BranchTurns F_branch_Refine F_clevislaw10heads x = some () := by
  obtain ⟨⟨(a1 : Int), (a2 : Int), (a3 : Int), (a4 : Int), (a5 : Int), (a6 : Int)⟩, ⟨(b1 : Int), (b2 : Int), (b3 : Int), (b4 : Int), (b5 : Int), (b6 : Int)⟩, (wide : Bool), (holds : Bool)⟩ := x
  simp only [L_clevislaw10BranchTurns, Refine_eq, heads10_eq, turn_u, turn_s, swap3, W.eq_self, W.eqB_self, W.and2_tt, W.pick_tf, br_t]
theorem BranchTurns_law (x : PTs.D ps_clevislaw10BranchTurns) (hw : WfL ps_clevislaw10BranchTurns x) (hz : SzL ps_clevislaw10BranchTurns x) :
    ∃ (C : Cfg) (fl d : Nat), CfgOk C ∧ C.P = Try.prog ∧ call C fl d 8 (encL false ps_clevislaw10BranchTurns x) [] getL = some () :=
  E_clevislaw10BranchTurns ok_branch_Refine ok_clevislaw10heads x (BranchTurns_pure x hw hz)
end Go.Proofs.Ytjmddbakkghacaa
