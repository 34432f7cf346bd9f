import Derived.Test.YtokedpogofnenaaLawA
set_option linter.unusedVariables false
set_option linter.unusedSimpArgs false
set_option maxHeartbeats 4000000
set_option maxRecDepth 100000
namespace Go.Proofs.Ytokedpogofnenaa
open Go Go.Eng
variable {R : Type}
noncomputable def oneP (a b : Kn) : Prop := a.1 = 0 ∨ (a.1 = b.1 ∧ a.2.2 = b.2.2 ∧ withinP a.2.1 b.2.1)
open Classical in
theorem one_eq (x : PTs.D ps_state_within) (k : Bool → Option R) : F_state_within R x k = k (decide (oneP x.1 x.2)) := by
  obtain ⟨⟨(n : Int), ⟨(a : Int), (b : Int), (c : Int), (d : Int), (v : Int), (m : Int)⟩, (r : Int)⟩, ⟨(n' : Int), ⟨(a' : Int), (b' : Int), (c' : Int), (d' : Int), (v' : Int), (m' : Int)⟩, (r' : Int)⟩⟩ := x
  simp only [F_state_within, N_state_within, BWithin_eq, W.pick_eq, W.not_eq, W.and2, W.eq_d]
  by_cases h0 : n = 0
  · simp [h0, oneP, br_ite]
  · by_cases h1 : n = n'
    · by_cases h2 : r = r'
      · subst h1 h2
        simp [h0, oneP, br_ite]
      · subst h1; simp [h0, h2, oneP, br_ite]
    · simp [h0, h1, oneP, br_ite]
theorem inb' {t N : Nat} (h : t < N) (b : Bool) : W.or2 b (W.and2 (W.le 0 (t : Int)) (W.lt (t : Int) (W.ofNat N))) = true := by
  rw [inb h]; simp [W.or2]
open Classical in
theorem every3 (a : List Kn) (s : List Bool) (b : List Kn) (a' : List Kn) (s' : List Bool) (b' : List Kn) (h : 11 ≤ a.length) (h' : 11 ≤ a'.length) (k : OT_state_every_3 → Option R) :
    E_state_every_3 R (0, 11, a, s, b, a', s', b', ()) k = k (decide (∀ i, i < 11 → oneP (kn a i) (kn a' i)), a, s, b, a', s', b', ()) := by
  simp only [E_state_every_3, N_state_every_3]
  have := loop_all (P := fun n i => P_state_every_3_2_0 F_state_within W.big n R 11 i a s b a' s' b' k) (N := 11) (c := fun i => oneP (kn a i) (kn a' i)) (kt := k (true, a, s, b, a', s', b', ())) (kf := k (false, a, s, b, a', s', b', ()))
    (fun n t ht => by
      rw [P_state_every_3_2_0_s, br_pos (W.lt_t.2 (by omega)), br_pos (inb (by rw [W.len_eq]; omega)), br_pos (inb (by rw [W.len_eq]; omega))]
      simp only [eta2, one_eq, W.toNat_nat, kn_get, W.succ64 (show t < 9223372036854775807 by omega), W.not_eq, br_nd])
    (fun n => by
      rw [P_state_every_3_2_0_s]; exact br_neg (W.lt_irr _) _ _) 11 W.big 0 (by omega) (big_lt (by omega))
  rw [show ((0 : Nat) : Int) = 0 from rfl] at this
  rw [this, kp_ite]
  exact congrArg (fun c => k (c, a, s, b, a', s', b', ())) (decide_eq_decide.2 ⟨fun h i hi => h i (by omega) hi, fun h i _ hi => h i hi⟩)
open Classical in
theorem every5 (a : List Kn) (s : List Bool) (b : List Kn) (a' : List Kn) (s' : List Bool) (b' : List Kn) (h : 512 ≤ s.length) (h' : 512 ≤ s'.length) (k : OT_state_every_5 → Option R) :
    E_state_every_5 R (0, 512, a, s, b, a', s', b', ()) k = k (decide (∀ i, i < 512 → bl s i = true → bl s' i = true), a, s, b, a', s', b', ()) := by
  simp only [E_state_every_5, N_state_every_5]
  have := loop_all (P := fun n i => P_state_every_5_2_0 W.big n R 512 i a s b a' s' b' k) (N := 512) (c := fun i => bl s i = true → bl s' i = true) (kt := k (true, a, s, b, a', s', b', ())) (kf := k (false, a, s, b, a', s', b', ()))
    (fun n t ht => by
      rw [P_state_every_5_2_0_s, br_pos (W.lt_t.2 (by omega)), br_pos (inb (by rw [W.len_eq]; omega)), br_pos (inb' (by rw [W.len_eq]; omega) _)]
      simp only [W.toNat_nat, bl_get, W.succ64 (show t < 9223372036854775807 by omega), W.not_eq, W.pick_eq]
      cases hb : bl s t <;> cases hb' : bl s' t <;> simp [br_ite])
    (fun n => by
      rw [P_state_every_5_2_0_s]; exact br_neg (W.lt_irr _) _ _) 512 W.big 0 (by omega) (big_lt (by omega))
  rw [show ((0 : Nat) : Int) = 0 from rfl] at this
  rw [this, kp_ite]
  exact congrArg (fun c => k (c, a, s, b, a', s', b', ())) (decide_eq_decide.2 ⟨fun h i hi => h i (by omega) hi, fun h i _ hi => h i hi⟩)
open Classical in
theorem every7 (a : List Kn) (s : List Bool) (b : List Kn) (a' : List Kn) (s' : List Bool) (b' : List Kn) (h : 64 ≤ b.length) (h' : 64 ≤ b'.length) (k : OT_state_every_7 → Option R) :
    E_state_every_7 R (0, 64, a, s, b, a', s', b', ()) k = k (decide (∀ i, i < 64 → oneP (kn b i) (kn b' i)), a, s, b, a', s', b', ()) := by
  simp only [E_state_every_7, N_state_every_7]
  have := loop_all (P := fun n i => P_state_every_7_2_0 F_state_within W.big n R 64 i a s b a' s' b' k) (N := 64) (c := fun i => oneP (kn b i) (kn b' i)) (kt := k (true, a, s, b, a', s', b', ())) (kf := k (false, a, s, b, a', s', b', ()))
    (fun n t ht => by
      rw [P_state_every_7_2_0_s, br_pos (W.lt_t.2 (by omega)), br_pos (inb (by rw [W.len_eq]; omega)), br_pos (inb (by rw [W.len_eq]; omega))]
      simp only [eta2, one_eq, W.toNat_nat, kn_get, W.succ64 (show t < 9223372036854775807 by omega), W.not_eq, br_nd])
    (fun n => by
      rw [P_state_every_7_2_0_s]; exact br_neg (W.lt_irr _) _ _) 64 W.big 0 (by omega) (big_lt (by omega))
  rw [show ((0 : Nat) : Int) = 0 from rfl] at this
  rw [this, kp_ite]
  exact congrArg (fun c => k (c, a, s, b, a', s', b', ())) (decide_eq_decide.2 ⟨fun h i hi => h i (by omega) hi, fun h i _ hi => h i hi⟩)
noncomputable def stWithinP (x y : St) : Prop := checkP x ∧ checkP y ∧ (∀ i, i < 11 → oneP (kn x.1 i) (kn y.1 i)) ∧ (∀ i, i < 512 → bl x.2.1 i = true → bl y.2.1 i = true) ∧ ∀ i, i < 64 → oneP (kn x.2.2 i) (kn y.2.2 i)
open Classical in
theorem stWithin_eq (x : PTs.D ps_state_Within) (k : Bool → Option R) : F_state_Within R x k = k (decide (stWithinP x.1 x.2)) := by
  obtain ⟨⟨a, s, b⟩, ⟨a', s', b'⟩⟩ := x
  simp only [F_state_Within, N_state_Within, check_eq]
  by_cases h1 : checkP (a, s, b)
  · by_cases h2 : checkP (a', s', b')
    · have h1' := h1
      have h2' := h2
      obtain ⟨l1, l2, l3, _⟩ := h1'
      obtain ⟨m1, m2, m3, _⟩ := h2'
      dsimp only at l1 l2 l3 m1 m2 m3
      rw [br_pos (decide_eq_true h1), br_pos (by simp [W.pick_eq, h2])]
      rw [every3 a s b a' s' b' (by omega) (by omega)]
      simp only [every5 a s b a' s' b' (by omega) (by omega), every7 a s b a' s' b' (by omega) (by omega), W.pick_eq, cond_true, br_d]
      by_cases c1 : ∀ i, i < 11 → oneP (kn a i) (kn a' i)
      · rw [if_pos c1]
        by_cases c2 : ∀ i, i < 512 → bl s i = true → bl s' i = true
        · rw [if_pos c2]
          exact congrArg k (decide_eq_decide.2 ⟨fun c3 => ⟨h1, h2, c1, c2, c3⟩, fun h => h.2.2.2.2⟩)
        · rw [if_neg c2, decide_eq_false (show ¬ stWithinP (a, s, b) (a', s', b') from fun h => c2 h.2.2.2.1)]
      · rw [if_neg c1, decide_eq_false (show ¬ stWithinP (a, s, b) (a', s', b') from fun h => c1 h.2.2.1)]
    · rw [br_pos (decide_eq_true h1), br_neg (by simp [W.pick_eq, h2]), decide_eq_false (show ¬ stWithinP (a, s, b) (a', s', b') from fun h => h2 h.2.1)]
  · rw [br_neg (decide_eq_false h1), decide_eq_false (show ¬ stWithinP (a, s, b) (a', s', b') from fun h => h1 h.1)]
noncomputable def holdsP (x : Kn) (y : Int) : Prop := (x.1 = 2 → inP x.2.1 ((y - x.2.2 % 18446744073709551616 * 4294967296) % 18446744073709551616)) ∧ (x.1 = 1 → inP x.2.1 y)
open Classical in
theorem holds_eq (x : PTs.D ps_state_Holds) (k : Bool → Option R) : F_state_Holds R x k = k (decide (holdsP x.1 x.2)) := by
  obtain ⟨⟨(n : Int), ⟨(a : Int), (b : Int), (c : Int), (d : Int), (v : Int), (m : Int)⟩, (r : Int)⟩, (y : Int)⟩ := x
  have hshl : W.shl .u64 (r % 18446744073709551616) 32 = r % 18446744073709551616 * 4294967296 := by
    unfold W.shl; simp [IntKind.bits]
  simp only [F_state_Holds, N_state_Holds, F_mem_Address, N_mem_Address, In_eq, W.pick_eq, W.not_eq, W.eq_d, W.ne_d, W.wu64, W.sub_eq, W.add_eq, hshl]
  by_cases h2 : n = 2
  · subst h2
    have e : (y - (r % 18446744073709551616 * 4294967296 % 18446744073709551616 + 0 % 18446744073709551616) % 18446744073709551616) % 18446744073709551616 = (y - r % 18446744073709551616 * 4294967296) % 18446744073709551616 := by omega
    simp [holdsP, br_ite, e]
  · by_cases h1 : n = 1
    · simp [holdsP, br_ite, h1]
    · simp [holdsP, br_ite, h1, h2]
end Go.Proofs.Ytokedpogofnenaa
