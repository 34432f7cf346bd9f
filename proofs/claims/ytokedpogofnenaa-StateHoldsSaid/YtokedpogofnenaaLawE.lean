import Derived.Test.YtokedpogofnenaaLawD
set_option linter.unusedVariables false
set_option linter.unusedSimpArgs false
set_option maxHeartbeats 4000000
set_option maxRecDepth 100000
namespace Go.Proofs.Ytokedpogofnenaa
open Go Go.Eng
variable {R : Type}
open Classical in
noncomputable def putS (s : St) (r : Int) (x : Kn) : St := if (0 ≤ r ∧ r < 11) ∧ rightP x ∧ checkP s then (s.1.set r.toNat x, s.2.1, s.2.2) else s
open Classical in
theorem put_eq (x : PTs.D ps_state_Put) (hs : smallS x.1) (k : PTs.D qs_state_Put → Option R) : F_state_Put R x k = k (putS x.1 x.2.1 x.2.2) := by
  obtain ⟨⟨a, t, b⟩, (r : Int), (y0 : Int), ⟨(y1 : Int), (y2 : Int), (y3 : Int), (y4 : Int), (y5 : Int), (y6 : Int)⟩, (y7 : Int)⟩ := x
  simp only [F_state_Put, N_state_Put]
  rw [small (a, t, b) hs]
  simp only [check_eq, right_eq, copy_over, W.pick_eq, cond_true, br_d, W.ge_d, W.lt_d]
  by_cases h1 : 0 ≤ r ∧ r < 11
  · rw [br_pos (by simp; omega)]
    by_cases h2 : rightP (y0, (y1, y2, y3, y4, y5, y6), y7)
    · rw [if_pos h2]
      by_cases h3 : checkP (a, t, b)
      · have hl : a.length = 11 := h3.1
        rw [if_pos h3]
        have e : W.toNat (W.ofNat (W.len a)) = 11 := by rw [W.ofNat_eq, W.toNat_nat, W.len_eq, hl]
        simp only [e, putS, if_pos (And.intro h1 (And.intro h2 h3)), ← W.lt_d]
        rw [inb0 (by omega) (by omega), br_t]
        rfl
      · rw [if_neg h3]; simp only [putS, h3, and_false, if_false]
    · rw [if_neg h2]; simp only [putS, h2, false_and, and_false, if_false]
  · rw [br_neg (by simp; omega)]; simp only [putS, h1, false_and, if_false]
/-! ### the document's -/
noncomputable def wfB (b : Bd) : Prop := wfI .u64 b.1 ∧ wfI .u64 b.2.1 ∧ wfI .i64 b.2.2.1 ∧ wfI .i64 b.2.2.2.1 ∧ wfI .u64 b.2.2.2.2.1 ∧ wfI .u64 b.2.2.2.2.2
noncomputable def wfK (x : Kn) : Prop := wfI .i64 x.1 ∧ wfB x.2.1 ∧ wfI .i64 x.2.2
theorem and_z {v m : Int} (h : wfI .u64 v) : U (B64 v &&& B64 m) = 0 ↔ v = U (B64 v &&& ~~~(B64 m)) := by
  have e0 : (0 : Int) = U 0#64 := rfl
  conv => rhs; lhs; rw [← U_B64 h]
  rw [e0, U_inj, U_inj]
  constructor
  · intro h1
    ext i hi
    have := congrArg (fun x : BitVec 64 => x[i]) h1
    simp at this ⊢
    exact this
  · intro h1
    rw [h1]
    ext i hi
    simp
open Classical in
theorem rchk_eq (x : PTs.D ps_clevisref08Check) (h : wfB x) (k : PTs.D qs_clevisref08Check → Option R) : F_clevisref08Check R x k = k (decide (chkP x)) := by
  obtain ⟨(a : Int), (b : Int), (c : Int), (d : Int), (v : Int), (m : Int)⟩ := x
  have hv : wfI .u64 v := h.2.2.2.2.1
  simp only [F_clevisref08Check, N_clevisref08Check, F_clevisref07Check, N_clevisref07Check, br_k k, W.wrap_u64, W.and_u64, B64_U]
  refine congrArg k (dec_eq ?_)
  rw [Bool.cond_eq_ite]
  simp only [W.pick_eq, W.le_d, W.eq_d, chkP, and_z hv]
  by_cases h1 : a ≤ b <;> by_cases h2 : c ≤ d <;> simp [h1, h2]
open Classical in
theorem rright_eq (x : PTs.D ps_clevisref11Right) (h : wfK x) (k : Bool → Option R) : F_clevisref11Right R x k = k (decide (rightP x)) := by
  obtain ⟨(n : Int), ⟨(a : Int), (b : Int), (c : Int), (d : Int), (v : Int), (m : Int)⟩, (r : Int)⟩ := x
  have hc := rchk_eq (R := R) (a, b, c, d, v, m) h.2.1
  simp only [F_clevisref11Right, N_clevisref11Right, br_ite, W.eq_t]
  rw [hc, hc]
  by_cases h0 : n = 0
  · subst h0
    simp only [if_true]
    congr 1
    refine dec_eq ?_
    simp [W.and2_t, W.eq_t, rightP, z0, and_assoc]
  · simp only [if_neg h0]
    by_cases h1 : n = 1
    · subst h1
      by_cases hr : r = 0 <;> simp [hr, rightP, W.pick_eq, W.eq_d]
    · simp only [if_neg h1]
      by_cases h2 : n = 2
      · subst h2
        by_cases hr : 1 ≤ r <;> by_cases hr' : r ≤ 10 <;> simp [hr, hr', rightP, W.pick_eq, W.ge_d, W.le_d]
      · simp [h0, h1, h2, rightP]
noncomputable def wfS (s : St) : Prop := (∀ i, wfK (kn s.1 i)) ∧ ∀ i, wfK (kn s.2.2 i)
theorem wfK_z : wfK z0 := by
  refine ⟨?_, ⟨?_, ?_, ?_, ?_, ?_, ?_⟩, ?_⟩ <;> rfl
open Classical in
theorem rset_eq (s : St) (lo hi : Nat) (h : lo ≤ hi) (hl : hi ≤ s.2.1.length) (hs : hi < 100000000) (k : Bool → Option R) : F_clevisref11set R (s, (lo : Int), (hi : Int)) k = k (decide (∀ i, lo ≤ i → i < hi → bl s.2.1 i = true)) := by
  obtain ⟨a, t, b⟩ := s
  simp only [F_clevisref11set, N_clevisref11set]
  have := loop_all (P := fun n i => P_clevisref11set_2_0 W.big n R (hi : Int) i a t b k) (N := hi) (c := fun i => bl t i = true) (kt := k true) (kf := k false)
    (fun n i ht => by
      dsimp only at hl
      rw [P_clevisref11set_2_0_s, br_pos (W.lt_t.2 (by omega)), br_pos (inb (by rw [W.len_eq]; omega))]
      simp only [W.toNat_nat, bl_get, W.succ64 (show i < 9223372036854775807 by omega), W.not_eq, br_n]
      rw [br_ite]; exact b_ite)
    (fun n => by rw [P_clevisref11set_2_0_s, br_neg (W.lt_irr _)]) (hi - lo) W.big lo (by omega) (big_lt (by omega))
  rw [this]; exact kb_ite
open Classical in
theorem rcheck_eq (x : PTs.D ps_clevisref11Check) (hw : wfS x) (k : Bool → Option R) : F_clevisref11Check R x k = k (decide (checkP x)) := by
  obtain ⟨a, t, b⟩ := x
  simp only [F_clevisref11Check, N_clevisref11Check, W.pick_eq, W.ne_d, W.ofNat_eq, W.len_eq]
  by_cases h1 : a.length = 11 ∧ t.length = 512 ∧ b.length = 64
  · obtain ⟨h1, h2, h3⟩ := h1
    rw [br_neg (by simp [h1, h2, h3])]
    have loop9 := loop_all (P := fun n i => P_clevisref11Check_9_0 F_clevisref11Right F_clevisref11set W.big n R i a t b k) (N := 64) (c := fun i => savedP t b i) (kt := k true) (kf := k false)
      (fun n i ht => by
        rw [P_clevisref11Check_9_0_s, br_pos (W.lt_t.2 (by omega)), br_pos (inb (by rw [W.len_eq]; omega))]
        have e8 : W.wrap .i64 (W.add ((8 * i : Nat) : Int) 8) = ((8 * i + 8 : Nat) : Int) := by rw [W.add_eq, W.wi64_id (by omega) (by omega)]; omega
        simp only [eta2, W.toNat_nat, kn_get, W.succ64 (show i < 9223372036854775807 by omega), W.mul8 (show i < 100000000 by omega), e8]
        rw [rright_eq _ (hw.2 i), inb' (by rw [W.len_eq]; omega)]
        rw [rset_eq (a, t, b) (8 * i) (8 * i + 8) (by omega) (by dsimp only; omega) (by omega)]
        simp only [W.not_eq, W.pick_eq, W.and2, W.ne_d, br_t, Bool.not_not]
        by_cases hr : rightP (kn b i)
        · by_cases h0 : (kn b i).1 = 0
          · rw [if_pos (show savedP t b i from ⟨hr, .inl h0⟩)]
            simp [hr, h0, br_ite]
          · simp only [hr, h0, decide_true, ne_eq, not_false_eq_true, Bool.and_self, br_t, Bool.not_true, cond_false, cond_true, br_nd]
            by_cases h8 : ∀ j, 8 * i ≤ j → j < 8 * i + 8 → bl t j = true
            · rw [if_pos h8, if_pos (show savedP t b i from ⟨hr, .inr h8⟩)]
            · rw [if_neg h8, if_neg (fun h => by rcases h with ⟨_, h | h⟩; exact h0 h; exact h8 h)]
        · rw [if_neg (fun h => hr h.1)]
          simp only [hr, decide_false, Bool.false_and, br_f])
      (fun n => by rw [P_clevisref11Check_9_0_s]; exact br_neg (W.lt_irr _) _ _) 64 W.big 0 (by omega) (big_lt (by omega))
    have loop4 := loop_all (P := fun n i => P_clevisref11Check_4_0 F_clevisref11Right F_clevisref11set W.big n R i a t b k) (N := 11) (c := fun i => rightP (kn a i)) (kt := P_clevisref11Check_9_0 F_clevisref11Right F_clevisref11set W.big W.big R 0 a t b k) (kf := k false)
      (fun n i ht => by
        rw [P_clevisref11Check_4_0_s, br_pos (W.lt_t.2 (by rw [W.ofNat_eq, W.len_eq]; omega)), br_pos (inb (by rw [W.len_eq]; omega))]
        simp only [eta2, W.toNat_nat, kn_get, W.succ64 (show i < 9223372036854775807 by omega)]
        rw [rright_eq _ (hw.1 i)]
        simp only [W.not_eq, br_nd])
      (fun n => by rw [P_clevisref11Check_4_0_s, br_neg (by rw [W.lt_d]; exact decide_eq_false (by rw [W.ofNat_eq, W.len_eq]; omega))]) 11 W.big 0 (by omega) (big_lt (by omega))
    rw [show ((0 : Nat) : Int) = 0 from rfl] at loop4 loop9
    rw [loop4, loop9]
    by_cases c1 : ∀ i, 0 ≤ i → i < 11 → rightP (kn a i)
    · rw [if_pos c1]
      rw [kb_ite]
      exact congrArg k (decide_eq_decide.2 ⟨fun h => ⟨h1, h2, h3, fun i hi => c1 i (by omega) hi, fun i hi => h i (by omega) hi⟩, fun h i _ hi => h.2.2.2.2 i hi⟩)
    · rw [if_neg c1]
      rw [decide_eq_false (show ¬ checkP (a, t, b) from fun h => c1 fun i _ hi => h.2.2.2.1 i hi)]
  · rw [br_pos (by simp; omega)]
    congr 1
    exact dec_eq (by simp [checkP]; intro q1 q2 q3; exact absurd ⟨q1, q2, q3⟩ h1)
open Classical in
theorem rplaces_eq (x : PTs.D ps_clevisref11places) (hw : wfS x.1) (k : Bool → Option R) : F_clevisref11places R x k = k (decide (placesP x.1 x.2.1 x.2.2.1 x.2.2.2)) := by
  obtain ⟨⟨a, t, b⟩, (l : Int), (h : Int), (n : Int)⟩ := x
  simp only [F_clevisref11places, N_clevisref11places]
  rw [rcheck_eq _ hw]
  simp only [W.pick_eq, W.ge_d, W.le_d, W.sub_eq]
  refine congrArg k ?_
  by_cases hp : 0 ≤ l ∧ l ≤ h ∧ h ≤ 512
  · rw [W.wi64_id (by omega) (by omega)]
    refine dec_eq ?_
    simp only [placesP]
    by_cases hc : checkP (a, t, b)
    · simp [hc]; omega
    · simp [hc]
  · rw [decide_eq_false (show ¬ placesP (a, t, b) l h n from fun q => hp ⟨q.2.1, q.2.2.1, by have := q.2.2.2; omega⟩)]
    by_cases h1 : 0 ≤ l
    · by_cases h2 : l ≤ h
      · have h5 : ¬ h ≤ 512 := fun h5 => hp ⟨h1, h2, h5⟩
        simp [h5]
      · simp [h2]
    · simp [h1]
open Classical in
theorem rready_eq (x : PTs.D ps_clevisref11Ready) (hw : wfS x.1) (k : Bool → Option R) : F_clevisref11Ready R x k = k (decide (readyP x.1 x.2.1 x.2.2)) := by
  obtain ⟨⟨a, t, b⟩, (l : Int), (h : Int)⟩ := x
  simp only [F_clevisref11Ready, N_clevisref11Ready]
  rw [rcheck_eq _ hw]
  simp only [W.pick_eq, W.ge_d, W.le_d]
  by_cases hc : checkP (a, t, b)
  · by_cases hp : 0 ≤ l ∧ l ≤ h ∧ h ≤ 512
    · rw [br_pos (by simp [hc]; omega)]
      have hlen : t.length = 512 := hc.2.1
      obtain ⟨x, hx⟩ : ∃ x : Nat, l = x := ⟨l.toNat, by omega⟩
      obtain ⟨y, hy⟩ : ∃ y : Nat, h = y := ⟨h.toNat, by omega⟩
      subst hx hy
      rw [rset_eq (a, t, b) x y (by omega) (by dsimp only; omega) (by omega)]
      refine congrArg k ?_
      simp only [cond_true]
      refine decide_eq_decide.2 ⟨fun hh => ⟨hc, hp.1, hp.2.1, hp.2.2, fun i h1 h2 => hh i (by omega) (by omega)⟩, fun hh i h1 h2 => hh.2.2.2.2 i (by omega) (by omega)⟩
    · rw [br_neg (by simp [hc]; omega), decide_eq_false (show ¬ readyP (a, t, b) l h from fun h => hp ⟨h.2.1, h.2.2.1, h.2.2.2.1⟩)]
  · rw [br_neg (by simp [hc]), decide_eq_false (show ¬ readyP (a, t, b) l h from fun h => hc h.1)]
end Go.Proofs.Ytokedpogofnenaa
