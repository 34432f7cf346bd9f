import Derived.Test.YtjmddbakkghacaaLawC
set_option linter.unusedVariables false
set_option linter.unusedSimpArgs false
set_option maxHeartbeats 4000000
set_option maxRecDepth 100000
namespace Go.Proofs.Ytjmddbakkghacaa
open Go Go.Eng
variable {R : Type}
theorem fin_eq (o : Option (Bd × Bd)) (k : Bd × Bd × Bool → Option R) (t : Bd × Bd → Option R) (ht : ∀ p, t p = k (bothB p)) : opt o (k (zB, zB, false)) t = k (opt o (zB, zB, false) bothB) := by
  cases o with
  | none => rfl
  | some p => exact ht p
theorem fin_eq' (o : Option (Bd × Bd)) (k : Bd × Bd × Bool → Option R) : (opt o (k (zB, zB, false)) fun p => k (bothB p)) = k (opt o (zB, zB, false) bothB) := fin_eq o k _ fun _ => rfl
noncomputable def valB (b : Bd) : Int × Bool := if b.1 = b.2.1 then (b.1, true) else (0, false)
theorem Value_one (x : PTs.D ps_bound_Value) (k : PTs.D qs_bound_Value → Option R) : F_bound_Value R x k = k (valB x) := Value_eq x k
theorem val_both (a b : Bd) : W.pick (valB a).2 (valB b).2 false = true ↔ a.1 = a.2.1 ∧ b.1 = b.2.1 := by
  unfold valB
  by_cases h1 : a.1 = a.2.1 <;> by_cases h2 : b.1 = b.2.1 <;> simp [h1, h2, W.pick]
theorem val_is {a : Bd} (h : a.1 = a.2.1) : (valB a).1 = a.1 := by unfold valB; rw [if_pos h]
theorem set_snd {a b : Bd} {h : Bool} {p : Bd × Bd} (hs : setB a b h = some p) : p.2 = b := by
  unfold setB at hs
  by_cases h1 : b.1 ≠ b.2.1
  · rw [if_pos h1] at hs; cases hs; rfl
  rw [if_neg h1] at hs
  by_cases h2 : h = true ∧ (b.1 = 0 ∨ W.wrap .u64 (W.and .u64 b.1 (W.wrap .u64 (W.sub b.1 1))) ≠ 0)
  · rw [if_pos h2] at hs; cases hs; rfl
  rw [if_neg h2] at hs
  by_cases h3 : (meetT a.2.2.2.2.1 a.2.2.2.2.2 (if h = true then b.1 else 0) (U (~~~(B64 b.1)))).2 = true
  · rw [if_pos h3] at hs; cases hs; rfl
  · rw [if_neg h3] at hs; cases hs
open Classical in
theorem Refine_eq (x : PTs.D ps_branch_Refine) (k : Bd × Bd × Bool → Option R) : F_branch_Refine R x k = k (refineB x.1 x.2.1 x.2.2.1 x.2.2.2.1 x.2.2.2.2) := by
  obtain ⟨(op : Int), ⟨(a1 : Int), (a2 : Int), (a3 : Int), (a4 : Int), (a5 : Int), (a6 : Int)⟩, ⟨(b1 : Int), (b2 : Int), (b3 : Int), (b4 : Int), (b5 : Int), (b6 : Int)⟩, (wide : Bool), (holds : Bool)⟩ := x
  have hb := val_both (a1, a2, a3, a4, a5, a6) (b1, b2, b3, b4, b5, b6)
  have hva := val_is (a := (a1, a2, a3, a4, a5, a6))
  have hvb := val_is (a := (b1, b2, b3, b4, b5, b6))
  simp only [F_branch_Refine, N_branch_Refine, Value_one, cond_eq, cnd_is, Check_eq, near_eq, Opposite_eq, W.not_eq, Bool.not_not]
  revert hb hva hvb
  generalize valB (a1, a2, a3, a4, a5, a6) = p
  generalize valB (b1, b2, b3, b4, b5, b6) = q
  generalize hV : W.pick p.2 q.2 false = V
  intro hb hva hvb
  by_cases hop : isOp op
  rotate_left
  · rw [br_neg (decide_eq_false hop)]
    exact congrArg k (if_neg (fun h : isOp op ∧ _ => hop h.1)).symm
  rw [br_pos (decide_eq_true hop)]
  by_cases ha : chkP (a1, a2, a3, a4, a5, a6)
  rotate_left
  · rw [br_neg (show (!W.pick false true (!decide (chkP (a1, a2, a3, a4, a5, a6)))) = false by rw [decide_eq_false ha]; rfl)]
    exact congrArg k (if_neg (fun h : isOp op ∧ chkP (a1, a2, a3, a4, a5, a6) ∧ chkP (b1, b2, b3, b4, b5, b6) => ha h.2.1)).symm
  rw [br_pos (show (!W.pick false true (!decide (chkP (a1, a2, a3, a4, a5, a6)))) = true by rw [decide_eq_true ha]; rfl)]
  by_cases hbb : chkP (b1, b2, b3, b4, b5, b6)
  rotate_left
  · rw [br_pos (show W.pick false true (!decide (chkP (b1, b2, b3, b4, b5, b6))) = true by rw [decide_eq_false hbb]; rfl)]
    exact congrArg k (if_neg (fun h : isOp op ∧ chkP (a1, a2, a3, a4, a5, a6) ∧ chkP (b1, b2, b3, b4, b5, b6) => hbb h.2.2)).symm
  rw [br_neg (show W.pick false true (!decide (chkP (b1, b2, b3, b4, b5, b6))) = false by rw [decide_eq_true hbb]; rfl)]
  have er : refineB op (a1, a2, a3, a4, a5, a6) (b1, b2, b3, b4, b5, b6) wide holds = mainB op (a1, a2, a3, a4, a5, a6) (b1, b2, b3, b4, b5, b6) wide holds := if_pos ⟨hop, ha, hbb⟩
  rw [er]
  unfold mainB
  cases V with
  | true =>
    obtain ⟨h1, h2⟩ := hb.1 rfl
    rw [if_pos ⟨h1, h2⟩, hva h1, hvb h2]
    by_cases hc : (cnd op a1 b1 wide).1 = holds
    · rw [br_neg (by rw [W.eqB_t.2 hc]; rfl), br_neg (show W.and2 (!true) (!wide) = false from rfl), br_neg (show W.and2 (!true) (!wide) = false from rfl), br_neg (show (!true) = false from rfl), if_pos hc]
    · rw [br_pos (by cases h : W.eqB (cnd op a1 b1 wide).1 holds; rfl; exact absurd (W.eqB_t.1 h) hc), if_neg hc]; rfl
  | false =>
    rw [if_neg (fun h => by have := hb.2 h; cases this), br_neg (show W.pick false _ false = false from rfl)]
    have main : ∀ (t : OT_branch_hold_1 → Option R), (∀ d, t (false, d) = k (zB, zB, false)) →
        (∀ (p : Bd × Bd), t (true, a1, a2, a3, a4, a5, a6, b1, b2, b3, b4, b5, b6, 0, 0, 0, 0, 0, 0, 0, 0, 0, 0, 0, 0, p.1.1, p.1.2.1, p.1.2.2.1, p.1.2.2.2.1, p.1.2.2.2.2.1, p.1.2.2.2.2.2, p.2.1, p.2.2.1, p.2.2.2.1, p.2.2.2.2.1, p.2.2.2.2.2.1, p.2.2.2.2.2.2, ()) = k (bothB p)) →
        br (W.eq op 64) (E_branch_bits_1 R (b1, b2, b3, b4, b5, b6, holds, a1, a2, a3, a4, a5, a6, b1, b2, b3, b4, b5, b6, 0, 0, 0, 0, 0, 0, 0, 0, 0, 0, 0, 0, a1, a2, a3, a4, a5, a6, b1, b2, b3, b4, b5, b6, ()) t)
          (br holds (E_branch_hold_1 R (op, a1, a2, a3, a4, a5, a6, b1, b2, b3, b4, b5, b6, 0, 0, 0, 0, 0, 0, 0, 0, 0, 0, 0, 0, a1, a2, a3, a4, a5, a6, b1, b2, b3, b4, b5, b6, ()) t)
            (E_branch_hold_1 R (oppO op, a1, a2, a3, a4, a5, a6, b1, b2, b3, b4, b5, b6, 0, 0, 0, 0, 0, 0, 0, 0, 0, 0, 0, 0, a1, a2, a3, a4, a5, a6, b1, b2, b3, b4, b5, b6, ()) t)) =
          k (opt (stepB op (a1, a2, a3, a4, a5, a6) (b1, b2, b3, b4, b5, b6) holds) (zB, zB, false) bothB) := by
      intro t ht hp
      unfold stepB
      by_cases h64 : op = 64
      · rw [br_pos (W.eq_t.2 h64), if_pos h64, bits_eq _ _ _ _ _ _ _ _ _ _ _ _ _ _ _ _ _ _ _ _ _ _ _ _ _ _ _ _ _ _ _ _ _ _ _ _ _ _ _ _ _ _ _ (k (zB, zB, false)) t ht]
        have h2 := fun p => set_snd (a := (a1, a2, a3, a4, a5, a6)) (b := (b1, b2, b3, b4, b5, b6)) (h := holds) (p := p)
        cases hs : setB (a1, a2, a3, a4, a5, a6) (b1, b2, b3, b4, b5, b6) holds with
        | none => rfl
        | some p =>
          have := hp p
          rw [h2 p hs] at this
          exact this
      · rw [br_neg (by rw [W.eq_d]; simpa using h64), if_neg h64]
        have h10 := isOp_ten hop h64 holds
        cases holds with
        | true =>
          rw [br_t, hold_eq op h10 _ _ _ _ _ _ _ _ _ _ _ _ _ _ _ _ _ _ _ _ _ _ _ _ _ _ _ _ _ _ _ _ _ _ _ _ (k (zB, zB, false)) t ht]
          exact fin_eq _ k _ hp
        | false =>
          rw [br_f, hold_eq (oppO op) h10 _ _ _ _ _ _ _ _ _ _ _ _ _ _ _ _ _ _ _ _ _ _ _ _ _ _ _ _ _ _ _ _ _ _ _ _ (k (zB, zB, false)) t ht]
          exact fin_eq _ k _ hp
    by_cases hw : wide = false ∧ ¬ (a2 ≤ mostO op ∧ b2 ≤ mostO op)
    · obtain ⟨rfl, h2⟩ := hw
      rw [if_pos ⟨rfl, h2⟩, br_pos (by rfl), br_pos (by rw [decide_eq_false h2]; rfl)]
    · rw [if_neg hw]
      cases wide with
      | true =>
        rw [br_neg (show W.and2 (!false) (!true) = false from rfl)]
        rw [br_neg (show W.and2 (!false) (!true) = false from rfl), br_pos (show (!false) = true from rfl), br_neg (show (!true) = false from rfl)]
        refine main _ (fun d => ?_) (fun p => ?_)
        · simp only [br_f, br_t, Bool.not_false]; rfl
        · simp only [br_t, Tidy_eq, bothB, eta6']
          cases tidyB p.1 with
          | none => simp only [opt_none, br_f, br_t, Bool.not_false]; rfl
          | some c =>
            cases tidyB p.2 with
            | none => simp only [opt_none, opt_some, br_f, br_t, Bool.not_false]; rfl
            | some d => simp only [opt_some, br_f, br_t, Bool.not_true, eta6']
      | false =>
        have h3 : a2 ≤ mostO op ∧ b2 ≤ mostO op := by false_or_by_contra; exact hw ⟨rfl, by assumption⟩
        rw [br_pos (show W.and2 (!false) (!false) = true from rfl), br_neg (by rw [decide_eq_true h3]; rfl)]
        refine main _ (fun d => ?_) (fun p => ?_)
        · simp only [br_f, br_t, Bool.not_false]; rfl
        · simp only [br_t, Tidy_eq, bothB, eta6']
          cases tidyB p.1 with
          | none => simp only [opt_none, br_f, br_t, Bool.not_false]; rfl
          | some c =>
            cases tidyB p.2 with
            | none => simp only [opt_none, opt_some, br_f, br_t, Bool.not_false]; rfl
            | some d => simp only [opt_some, br_f, br_t, Bool.not_true, eta6']
theorem rValue_one (x : PTs.D ps_clevisref08Value) (k : PTs.D qs_clevisref08Value → Option R) : F_clevisref08Value R x k = k (valB x) := rValue_eq x k
theorem val_p {a : Bd} (h : p64 a.1) : p64 (valB a).1 := by unfold valB; split; exact h; exact ⟨by decide, by decide⟩
theorem p64_0 : p64 0 := ⟨by decide, by decide⟩
theorem wf_1 {a : Bd} (h : wfB a) : p64 a.1 := u64_lo h.1
theorem rfin_eq (o : Option (Bd × Bd)) (k : Bd × Bd × Bool → Option R) (t : Bd × Bd → Option R)
    (ht : ∀ p, t p = br (W.pick (!(opt (tidyB p.1) ((0, 0, 0, 0, 0, 0), false) fun c => (c, true)).2) true (!(opt (tidyB p.2) ((0, 0, 0, 0, 0, 0), false) fun c => (c, true)).2)) (k ((0, 0, 0, 0, 0, 0), (0, 0, 0, 0, 0, 0), false))
      (k ((opt (tidyB p.1) ((0, 0, 0, 0, 0, 0), false) fun c => (c, true)).1, (opt (tidyB p.2) ((0, 0, 0, 0, 0, 0), false) fun c => (c, true)).1, true))) : opt o (k (zB, zB, false)) t = k (opt o (zB, zB, false) bothB) := by
  refine fin_eq o k t fun p => ?_
  rw [ht p]
  unfold bothB
  cases tidyB p.1 with
  | none => cases tidyB p.2 <;> rfl
  | some c => cases tidyB p.2 <;> rfl
open Classical in
theorem rRefine_eq (x : PTs.D ps_clevisref10Refine) (wa : wfB x.2.1) (wb : wfB x.2.2.1) (k : Bd × Bd × Bool → Option R) : F_clevisref10Refine R x k = k (refineB x.1 x.2.1 x.2.2.1 x.2.2.2.1 x.2.2.2.2) := by
  obtain ⟨(op : Int), ⟨(a1 : Int), (a2 : Int), (a3 : Int), (a4 : Int), (a5 : Int), (a6 : Int)⟩, ⟨(b1 : Int), (b2 : Int), (b3 : Int), (b4 : Int), (b5 : Int), (b6 : Int)⟩, (wide : Bool), (holds : Bool)⟩ := x
  have wa : wfB (a1, a2, a3, a4, a5, a6) := wa
  have wb : wfB (b1, b2, b3, b4, b5, b6) := wb
  have hb := val_both (a1, a2, a3, a4, a5, a6) (b1, b2, b3, b4, b5, b6)
  have hva := val_is (a := (a1, a2, a3, a4, a5, a6))
  have hvb := val_is (a := (b1, b2, b3, b4, b5, b6))
  have pa := val_p (wf_1 wa)
  have pb := val_p (wf_1 wb)
  have c0 : rcnd op 0 0 true = cnd op 0 0 true := (cond_same p64_0 p64_0).symm
  simp only [F_clevisref10Refine, N_clevisref10Refine, rValue_one, rcond_eq (op, 0, 0, true) p64_0 p64_0, c0, cnd_is, rCheck_eq _ wa, rCheck_eq _ wb, rsigned_eq, rOpposite_eq, W.not_eq, Bool.not_not]
  revert hb hva hvb pa pb
  generalize valB (a1, a2, a3, a4, a5, a6) = p
  generalize valB (b1, b2, b3, b4, b5, b6) = q
  generalize hV : W.pick p.2 q.2 false = V
  intro hb hva hvb pa pb
  have cpq : rcnd op p.1 q.1 wide = cnd op p.1 q.1 wide := (cond_same pa pb).symm
  simp only [rcond_eq (op, p.1, q.1, wide) pa pb, cpq]
  by_cases hop : isOp op
  rotate_left
  · rw [br_neg (decide_eq_false hop)]
    exact congrArg k (if_neg (fun h : isOp op ∧ _ => hop h.1)).symm
  rw [br_pos (decide_eq_true hop)]
  by_cases ha : chkP (a1, a2, a3, a4, a5, a6)
  rotate_left
  · rw [br_neg (show (!W.pick false true (!decide (chkP (a1, a2, a3, a4, a5, a6)))) = false by rw [decide_eq_false ha]; rfl)]
    exact congrArg k (if_neg (fun h : isOp op ∧ chkP (a1, a2, a3, a4, a5, a6) ∧ chkP (b1, b2, b3, b4, b5, b6) => ha h.2.1)).symm
  rw [br_pos (show (!W.pick false true (!decide (chkP (a1, a2, a3, a4, a5, a6)))) = true by rw [decide_eq_true ha]; rfl)]
  by_cases hbb : chkP (b1, b2, b3, b4, b5, b6)
  rotate_left
  · rw [br_pos (show W.pick false true (!decide (chkP (b1, b2, b3, b4, b5, b6))) = true by rw [decide_eq_false hbb]; rfl)]
    exact congrArg k (if_neg (fun h : isOp op ∧ chkP (a1, a2, a3, a4, a5, a6) ∧ chkP (b1, b2, b3, b4, b5, b6) => hbb h.2.2)).symm
  rw [br_neg (show W.pick false true (!decide (chkP (b1, b2, b3, b4, b5, b6))) = false by rw [decide_eq_true hbb]; rfl)]
  have er : refineB op (a1, a2, a3, a4, a5, a6) (b1, b2, b3, b4, b5, b6) wide holds = mainB op (a1, a2, a3, a4, a5, a6) (b1, b2, b3, b4, b5, b6) wide holds := if_pos ⟨hop, ha, hbb⟩
  rw [er]
  unfold mainB
  cases V with
  | true =>
    obtain ⟨h1, h2⟩ := hb.1 rfl
    rw [if_pos ⟨h1, h2⟩, br_t, hva h1, hvb h2]
    by_cases hc : (cnd op a1 b1 wide).1 = holds
    · rw [br_neg (by rw [W.eqB_t.2 hc]; rfl), if_pos hc]
    · rw [br_pos (by cases h : W.eqB (cnd op a1 b1 wide).1 holds; rfl; exact absurd (W.eqB_t.1 h) hc), if_neg hc]; rfl
  | false =>
    rw [if_neg (fun h => by have := hb.2 h; cases this), br_f]
    have key : ∀ (m : Int), m = mostO op → ∀ (z y : Option R), y = k (opt (stepB op (a1, a2, a3, a4, a5, a6) (b1, b2, b3, b4, b5, b6) holds) (zB, zB, false) bothB) →
        br (W.pick (!wide) (W.pick (W.gt a2 m) true (W.gt b2 m)) false) (k ((a1, a2, a3, a4, a5, a6), (b1, b2, b3, b4, b5, b6), true)) y =
          k (if wide = false ∧ ¬ (a2 ≤ mostO op ∧ b2 ≤ mostO op) then ((a1, a2, a3, a4, a5, a6), (b1, b2, b3, b4, b5, b6), true) else opt (stepB op (a1, a2, a3, a4, a5, a6) (b1, b2, b3, b4, b5, b6) holds) (zB, zB, false) bothB) := by
      intro m hm z y hy
      subst hm
      by_cases hw : wide = false ∧ ¬ (a2 ≤ mostO op ∧ b2 ≤ mostO op)
      · rw [if_pos hw, br_pos]
        rw [W.pickf_t, W.picko_t, W.gt_t, W.gt_t, hw.1]
        exact ⟨rfl, by have := hw.2; omega⟩
      · rw [if_neg hw, br_neg, hy]
        rw [Bool.eq_false_iff]
        intro h
        rw [W.pickf_t, W.picko_t, W.gt_t, W.gt_t] at h
        exact hw ⟨by simpa using h.1, by omega⟩
    have main : ∀ (y : Option R), y = br (W.eq op 64)
        (F_clevisref10set R ((a1, a2, a3, a4, a5, a6), (b1, b2, b3, b4, b5, b6), holds) fun y =>
          br (!y.2) (k ((0, 0, 0, 0, 0, 0), (0, 0, 0, 0, 0, 0), false))
            (F_clevisref08Tidy R (y.1.1, y.1.2.1, y.1.2.2.1, y.1.2.2.2.1, y.1.2.2.2.2.1, y.1.2.2.2.2.2) fun y =>
              F_clevisref08Tidy R (b1, b2, b3, b4, b5, b6) fun y_2 =>
                br (W.pick (!y.2) true (!y_2.2)) (k ((0, 0, 0, 0, 0, 0), (0, 0, 0, 0, 0, 0), false))
                  (k ((y.1.1, y.1.2.1, y.1.2.2.1, y.1.2.2.2.1, y.1.2.2.2.2.1, y.1.2.2.2.2.2), (y_2.1.1, y_2.1.2.1, y_2.1.2.2.1, y_2.1.2.2.2.1, y_2.1.2.2.2.2.1, y_2.1.2.2.2.2.2), true))))
        (br (!holds)
          (F_clevisref10truth R (oppO op, (a1, a2, a3, a4, a5, a6), b1, b2, b3, b4, b5, b6) fun y =>
            br (!y.2.2) (k ((0, 0, 0, 0, 0, 0), (0, 0, 0, 0, 0, 0), false))
              (F_clevisref08Tidy R (y.1.1, y.1.2.1, y.1.2.2.1, y.1.2.2.2.1, y.1.2.2.2.2.1, y.1.2.2.2.2.2) fun y_2 =>
                F_clevisref08Tidy R (y.2.1.1, y.2.1.2.1, y.2.1.2.2.1, y.2.1.2.2.2.1, y.2.1.2.2.2.2.1, y.2.1.2.2.2.2.2) fun y =>
                  br (W.pick (!y_2.2) true (!y.2)) (k ((0, 0, 0, 0, 0, 0), (0, 0, 0, 0, 0, 0), false))
                    (k ((y_2.1.1, y_2.1.2.1, y_2.1.2.2.1, y_2.1.2.2.2.1, y_2.1.2.2.2.2.1, y_2.1.2.2.2.2.2), (y.1.1, y.1.2.1, y.1.2.2.1, y.1.2.2.2.1, y.1.2.2.2.2.1, y.1.2.2.2.2.2), true))))
          (F_clevisref10truth R (op, (a1, a2, a3, a4, a5, a6), b1, b2, b3, b4, b5, b6) fun y =>
            br (!y.2.2) (k ((0, 0, 0, 0, 0, 0), (0, 0, 0, 0, 0, 0), false))
              (F_clevisref08Tidy R (y.1.1, y.1.2.1, y.1.2.2.1, y.1.2.2.2.1, y.1.2.2.2.2.1, y.1.2.2.2.2.2) fun y_2 =>
                F_clevisref08Tidy R (y.2.1.1, y.2.1.2.1, y.2.1.2.2.1, y.2.1.2.2.2.1, y.2.1.2.2.2.2.1, y.2.1.2.2.2.2.2) fun y =>
                  br (W.pick (!y_2.2) true (!y.2)) (k ((0, 0, 0, 0, 0, 0), (0, 0, 0, 0, 0, 0), false))
                    (k ((y_2.1.1, y_2.1.2.1, y_2.1.2.2.1, y_2.1.2.2.2.1, y_2.1.2.2.2.2.1, y_2.1.2.2.2.2.2), (y.1.1, y.1.2.1, y.1.2.2.1, y.1.2.2.2.1, y.1.2.2.2.2.1, y.1.2.2.2.2.2), true))))) →
        y = k (opt (stepB op (a1, a2, a3, a4, a5, a6) (b1, b2, b3, b4, b5, b6) holds) (zB, zB, false) bothB) := by
      intro y hy
      rw [hy]
      simp only [eta6', rTidy_eq]
      unfold stepB
      by_cases h64 : op = 64
      · rw [br_pos (W.eq_t.2 h64), if_pos h64, rset_eq _ _ _ (k (zB, zB, false)) _ (fun d => by simp only [Bool.not_false, br_t]; rfl)]
        have h2 := fun p => set_snd (a := (a1, a2, a3, a4, a5, a6)) (b := (b1, b2, b3, b4, b5, b6)) (h := holds) (p := p)
        cases hs : setB (a1, a2, a3, a4, a5, a6) (b1, b2, b3, b4, b5, b6) holds with
        | none => rfl
        | some p =>
          simp only [opt_some, Bool.not_true, br_f, bothB, h2 p hs]
          cases tidyB p.1 with
          | none => cases tidyB (b1, b2, b3, b4, b5, b6) <;> rfl
          | some c => cases tidyB (b1, b2, b3, b4, b5, b6) <;> rfl
      · rw [br_neg (by rw [W.eq_d]; simpa using h64), if_neg h64]
        have h10 := isOp_ten hop h64 holds
        cases holds with
        | true =>
          rw [show (!true) = false from rfl, br_f, rtruth_eq op h10 _ _ (k (zB, zB, false)) _ (fun p q => by simp only [Bool.not_false, br_t]; rfl)]
          exact rfin_eq _ k _ fun p => by simp only [Bool.not_true, br_f]
        | false =>
          rw [show (!false) = true from rfl, br_t, rtruth_eq (oppO op) h10 _ _ (k (zB, zB, false)) _ (fun p q => by simp only [Bool.not_false, br_t]; rfl)]
          exact rfin_eq _ k _ fun p => by simp only [Bool.not_true, br_f]
    by_cases hs : sgdP op
    · rw [br_pos (decide_eq_true hs)]
      exact key _ (by unfold mostO; rw [if_pos hs]) none _ (main _ rfl)
    · rw [br_neg (decide_eq_false hs)]
      exact key _ (by unfold mostO; rw [if_neg hs]) none _ (main _ rfl)
theorem heads10_eq (k : Bool → Option R) : F_clevislaw10heads R () k = k true := by kernel_rfl
end Go.Proofs.Ytjmddbakkghacaa
