import Derived.Test.YtokedpogofnenaaFns
import Derived.Test.YtokedpogofnenaaEnwLoops
set_option linter.unusedVariables false
set_option linter.unusedSimpArgs false
set_option maxHeartbeats 4000000
set_option maxRecDepth 100000
namespace Go.Proofs.Ytokedpogofnenaa
open Go Go.Eng
variable {R : Type}
abbrev Bd := Int × Int × Int × Int × Int × Int
abbrev Kn := Int × Bd × Int
abbrev St := List Kn × List Bool × List Kn
noncomputable def z0 : Kn := (0, (0, 0, 0, 0, 0, 0), 0)
noncomputable def inP (b : Bd) (x : Int) : Prop := (b.1 ≤ x ∧ x ≤ b.2.1) ∧ (b.2.2.1 ≤ I (B64 x) ∧ I (B64 x) ≤ b.2.2.2.1) ∧ U (B64 x &&& ~~~(B64 b.2.2.2.2.2)) = b.2.2.2.2.1
noncomputable def chkP (b : Bd) : Prop := b.1 ≤ b.2.1 ∧ b.2.2.1 ≤ b.2.2.2.1 ∧ b.2.2.2.2.1 = U (B64 b.2.2.2.2.1 &&& ~~~(B64 b.2.2.2.2.2))
noncomputable def withinP (p q : Bd) : Prop :=
  (p.1 ≤ q.1 ∧ q.1 ≤ p.2.1) ∧ (p.1 ≤ q.2.1 ∧ q.2.1 ≤ p.2.1) ∧ (p.2.2.1 ≤ q.2.2.1 ∧ q.2.2.1 ≤ p.2.2.2.1) ∧ (p.2.2.1 ≤ q.2.2.2.1 ∧ q.2.2.2.1 ≤ p.2.2.2.1) ∧
    U (B64 q.2.2.2.2.2 ||| B64 p.2.2.2.2.2) = p.2.2.2.2.2 ∧ U (B64 q.2.2.2.2.1 &&& ~~~(B64 p.2.2.2.2.2)) = p.2.2.2.2.1
open Classical in
theorem In_eq (x : PTs.D ps_bound_In) (k : PTs.D qs_bound_In → Option R) : F_bound_In R x k = k (decide (inP x.1 x.2)) := by
  obtain ⟨⟨a, b, c, d, v, m⟩, x⟩ := x
  simp only [F_bound_In, N_bound_In, F_bound_among_uint64, N_bound_among_uint64, F_bound_among_int64, N_bound_among_int64, F_tnum_In, N_tnum_In, F_tnum_tidy, N_tnum_tidy, br_k k, W.wrap_u64, W.wrap_i64, W.andNot_u64, B64_U, B64_I]
  exact congrArg k (dec_eq (by simp [W.pick, W.le, W.and2, W.eq, inP] <;> grind))
open Classical in
theorem Check_eq (x : PTs.D ps_bound_Check) (k : PTs.D qs_bound_Check → Option R) : F_bound_Check R x k = k (decide (chkP x)) := by
  obtain ⟨a, b, c, d, v, m⟩ := x
  simp only [F_bound_Check, N_bound_Check, F_tnum_Check, N_tnum_Check, F_tnum_tidy, N_tnum_tidy, br_k k, W.wrap_u64, W.wrap_i64, W.andNot_u64, B64_U, B64_I]
  exact congrArg k (dec_eq (by simp [W.pick, W.le, W.and2, W.eq, chkP] <;> grind))
open Classical in
theorem BWithin_eq (x : PTs.D ps_bound_Within) (k : PTs.D qs_bound_Within → Option R) : F_bound_Within R x k = k (decide (withinP x.1 x.2)) := by
  obtain ⟨⟨a, b, c, d, v, m⟩, ⟨a', b', c', d', v', m'⟩⟩ := x
  simp only [F_bound_Within, N_bound_Within, F_bound_among_uint64, N_bound_among_uint64, F_bound_among_int64, N_bound_among_int64, F_tnum_In, N_tnum_In, F_tnum_tidy, N_tnum_tidy, F_tnum_Within, N_tnum_Within,
    br_k k, W.wrap_u64, W.wrap_i64, W.andNot_u64, W.or_u64, B64_U, B64_I]
  exact congrArg k (dec_eq (by simp [W.pick, W.le, W.and2, W.eq, withinP] <;> grind))

noncomputable def rightP (k : Kn) : Prop := (k.1 = 0 ∧ k = z0) ∨ (k.1 = 1 ∧ k.2.2 = 0 ∧ chkP k.2.1) ∨ (k.1 = 2 ∧ (1 ≤ k.2.2 ∧ k.2.2 ≤ 10) ∧ chkP k.2.1)
open Classical in
theorem right_eq (x : PTs.D ps_state_right) (k : Bool → Option R) : F_state_right R x k = k (decide (rightP x)) := by
  obtain ⟨(n : Int), ⟨(a : Int), (b : Int), (c : Int), (d : Int), (v : Int), (m : Int)⟩, (r : Int)⟩ := x
  simp only [F_state_right, N_state_right, Check_eq, br_ite, W.eq_t, W.pickf_t, W.ge_t, W.le_t]
  by_cases h0 : n = 0
  · subst h0
    simp only [if_true]
    congr 1
    refine dec_eq ?_
    simp [W.and2_t, W.eq_t, rightP, z0, and_assoc]
  · simp only [if_neg h0]
    by_cases h1 : n = 1
    · subst h1
      by_cases hr : r = 0 <;> simp [hr, rightP, W.pick_eq]
    · simp only [if_neg h1]
      by_cases h2 : n = 2
      · subst h2
        by_cases hr : 1 ≤ r ∧ r ≤ 10
        · simp [hr, rightP, W.pick_eq, ge_iff_le]
        · simp [hr, rightP, ge_iff_le]
      · simp [h0, h1, h2, rightP]
/-- A register's, a saved one's, a byte's. -/
noncomputable def kn (l : List Kn) (i : Nat) : Kn := l.getD i z0
noncomputable def bl (l : List Bool) (i : Nat) : Bool := l.getD i false
theorem kn_get (l : List Kn) (i : Nat) : W.get l i (0, (0, 0, 0, 0, 0, 0), 0) = kn l i := rfl
theorem bl_get (l : List Bool) (i : Nat) : W.get l i false = bl l i := rfl
theorem inb {t N : Nat} (h : t < N) : W.and2 (W.le 0 (t : Int)) (W.lt (t : Int) (W.ofNat N)) = true := by
  rw [W.and2_t, W.le_t, W.lt_t, W.ofNat_eq]; omega
open Classical in
theorem every1 (lo hi : Nat) (a : List Kn) (s : List Bool) (b : List Kn) (h : lo ≤ hi) (hl : hi ≤ a.length) (hs : hi < 100000000) (k : OT_state_every_1 → Option R) :
    E_state_every_1 R ((lo : Int), (hi : Int), a, s, b, ()) k = k (decide (∀ i, lo ≤ i → i < hi → rightP (kn a i)), a, s, b, ()) := by
  simp only [E_state_every_1, N_state_every_1]
  have := loop_all (P := fun n i => P_state_every_1_2_0 F_state_right W.big n R (hi : Int) i a s b k) (N := hi) (c := fun i => rightP (kn a i)) (kt := k (true, a, s, b, ())) (kf := k (false, a, s, b, ()))
    (fun n t ht => by
      rw [P_state_every_1_2_0_s, br_pos (W.lt_t.2 (by omega)), br_pos (inb (by rw [W.len_eq]; omega))]
      simp only [eta2, right_eq, W.toNat_nat, kn_get, W.succ64 (show t < 9223372036854775807 by omega), W.not_eq, br_nd])
    (fun n => by
      rw [P_state_every_1_2_0_s, br_neg (W.lt_irr _)]) (hi - lo) W.big lo (by omega) (big_lt (by omega))
  rw [this]; exact kp_ite
open Classical in
theorem every6 (lo hi : Nat) (a : List Kn) (s : List Bool) (b : List Kn) (y5 y6 y7 y8 y9 y10 y11 y12 : Int) (h : lo ≤ hi) (hl : hi ≤ s.length) (hs : hi < 100000000) (k : OT_state_every_6 → Option R) :
    E_state_every_6 R ((lo : Int), (hi : Int), a, s, b, y5, y6, y7, y8, y9, y10, y11, y12, ()) k = k (decide (∀ i, lo ≤ i → i < hi → bl s i = true), a, s, b, y5, y6, y7, y8, y9, y10, y11, y12, ()) := by
  simp only [E_state_every_6, N_state_every_6]
  have := loop_all (P := fun n i => P_state_every_6_2_0 W.big n R (hi : Int) i a s b y5 y6 y7 y8 y9 y10 y11 y12 k) (N := hi) (c := fun i => bl s i = true) (kt := k (true, a, s, b, y5, y6, y7, y8, y9, y10, y11, y12, ())) (kf := k (false, a, s, b, y5, y6, y7, y8, y9, y10, y11, y12, ()))
    (fun n t ht => by
      rw [P_state_every_6_2_0_s, br_pos (W.lt_t.2 (by omega)), br_pos (inb (by rw [W.len_eq]; omega))]
      simp only [W.toNat_nat, bl_get, W.succ64 (show t < 9223372036854775807 by omega), W.not_eq, br_n]
      rw [br_ite]; exact b_ite)
    (fun n => by
      rw [P_state_every_6_2_0_s, br_neg (W.lt_irr _)]) (hi - lo) W.big lo (by omega) (big_lt (by omega))
  rw [this]; exact kp_ite
open Classical in
theorem every2 (lo hi : Nat) (a : List Kn) (s : List Bool) (b : List Kn) (h : lo ≤ hi) (hl : hi ≤ s.length) (hs : hi < 100000000) (k : OT_state_every_2 → Option R) :
    E_state_every_2 R ((lo : Int), (hi : Int), a, s, b, ()) k = k (decide (∀ i, lo ≤ i → i < hi → bl s i = true), a, s, b, ()) := by
  simp only [E_state_every_2, N_state_every_2]
  have := loop_all (P := fun n i => P_state_every_2_2_0 W.big n R (hi : Int) i a s b k) (N := hi) (c := fun i => bl s i = true) (kt := k (true, a, s, b, ())) (kf := k (false, a, s, b, ()))
    (fun n t ht => by
      rw [P_state_every_2_2_0_s, br_pos (W.lt_t.2 (by omega)), br_pos (inb (by rw [W.len_eq]; omega))]
      simp only [W.toNat_nat, bl_get, W.succ64 (show t < 9223372036854775807 by omega), W.not_eq, br_n]
      rw [br_ite]; exact b_ite)
    (fun n => by
      rw [P_state_every_2_2_0_s, br_neg (W.lt_irr _)]) (hi - lo) W.big lo (by omega) (big_lt (by omega))
  rw [this]; exact kp_ite
noncomputable def savedP (s : List Bool) (b : List Kn) (i : Nat) : Prop := rightP (kn b i) ∧ ((kn b i).1 = 0 ∨ ∀ j, 8 * i ≤ j → j < 8 * i + 8 → bl s j = true)
open Classical in
theorem every4 (hi : Nat) (a : List Kn) (s : List Bool) (b : List Kn) (hl : hi ≤ b.length) (hs : hi < 1000000) (hs8 : 8 * hi ≤ s.length) (k : OT_state_every_4 → Option R) :
    E_state_every_4 R (0, (hi : Int), a, s, b, ()) k = k (decide (∀ i, i < hi → savedP s b i), a, s, b, ()) := by
  simp only [E_state_every_4, N_state_every_4]
  have := loop_all (P := fun n i => P_state_every_4_2_0 F_state_right E_state_every_6 W.big n R (hi : Int) i a s b k) (N := hi) (c := fun i => savedP s b i) (kt := k (true, a, s, b, ())) (kf := k (false, a, s, b, ()))
    (fun n t ht => by
      rw [P_state_every_4_2_0_s, br_pos (W.lt_t.2 (by omega)), br_pos (inb (by rw [W.len_eq]; omega))]
      have e8 : W.wrap .i64 (W.add ((8 * t : Nat) : Int) 8) = ((8 * t + 8 : Nat) : Int) := by rw [W.add_eq, W.wi64_id (by omega) (by omega)]; omega
      simp only [eta2, right_eq, W.toNat_nat, kn_get, W.succ64 (show t < 9223372036854775807 by omega), W.mul8 (show t < 100000000 by omega), e8, every6 (8 * t) (8 * t + 8) a s b _ _ _ _ _ _ _ _ (by omega) (by omega) (by omega), W.not_eq, W.pick_eq, W.and2, W.eq_d]
      by_cases hr : rightP (kn b t)
      · by_cases h0 : (kn b t).1 = 0
        · rw [if_pos (show savedP s b t from ⟨hr, .inl h0⟩)]
          simp only [hr, h0, decide_true, not_true, decide_false, Bool.and_false, Bool.true_and, Bool.not_true, br_f, br_t, and_false]
        · simp only [hr, h0, decide_true, not_true, decide_false, Bool.and_false, Bool.true_and, Bool.not_true, Bool.not_false, br_f, br_t, and_false, cond_true, cond_false, br_nd]
          by_cases h8 : ∀ j, 8 * t ≤ j → j < 8 * t + 8 → bl s j = true
          · rw [if_pos h8, if_pos (show savedP s b t from ⟨hr, .inr h8⟩)]
          · rw [if_neg h8, if_neg (fun h => by rcases h with ⟨_, h | h⟩; exact h0 h; exact h8 h)]
      · rw [if_neg (fun h => hr h.1)]
        simp only [hr, decide_false, Bool.false_and, br_f])
    (fun n => by
      rw [P_state_every_4_2_0_s, br_neg (W.lt_irr _)]) hi W.big 0 (by omega) (big_lt (by omega))
  rw [show ((0 : Nat) : Int) = 0 from rfl] at this
  rw [this]
  rw [kp_ite]
  exact congrArg (fun c => k (c, a, s, b, ())) (decide_eq_decide.2 ⟨fun h i hi => h i (by omega) hi, fun h i _ hi => h i hi⟩)
noncomputable def checkP (x : St) : Prop := x.1.length = 11 ∧ x.2.1.length = 512 ∧ x.2.2.length = 64 ∧ (∀ i, i < 11 → rightP (kn x.1 i)) ∧ ∀ i, i < 64 → savedP x.2.1 x.2.2 i
open Classical in
theorem check_eq (x : St) (k : Bool → Option R) : F_state_Check R x k = k (decide (checkP x)) := by
  obtain ⟨a, s, b⟩ := x
  simp only [F_state_Check, N_state_Check, W.pick_eq, W.ne_d, W.ofNat_eq, W.len_eq]
  by_cases h1 : a.length = 11 ∧ s.length = 512 ∧ b.length = 64
  · obtain ⟨h1, h2, h3⟩ := h1
    rw [br_neg (by simp [h1, h2, h3])]
    rw [show ((0 : Int)) = ((0 : Nat) : Int) from rfl, show (11 : Int) = ((11 : Nat) : Int) from rfl, every1 0 11 a s b (by omega) (by omega) (by omega)]
    rw [show ((0 : Nat) : Int) = 0 from rfl, show (64 : Int) = ((64 : Nat) : Int) from rfl]
    simp only [every4 64 a s b (by omega) (by omega) (by omega)]
    by_cases c1 : ∀ i, i < 11 → rightP (kn a i)
    · rw [br_pos (decide_eq_true fun i _ hi => c1 i hi)]
      congr 1
      exact dec_eq (by simp only [cond_true, cond_false, W.pick_eq, decide_eq_true_eq, checkP, h1, h2, h3]; exact ⟨fun h => ⟨trivial, trivial, trivial, c1, h⟩, fun h => h.2.2.2.2⟩)
    · rw [br_neg (decide_eq_false fun h => c1 fun i hi => h i (by omega) hi)]
      congr 1
      exact dec_eq (by simp only [checkP]; exact ⟨fun h => (by cases h), fun h => absurd h.2.2.2.1 c1⟩)
  · rw [br_pos (by simp; omega)]
    congr 1
    exact dec_eq (by simp [checkP]; intro q1 q2 q3; exact absurd ⟨q1, q2, q3⟩ h1)
end Go.Proofs.Ytokedpogofnenaa
