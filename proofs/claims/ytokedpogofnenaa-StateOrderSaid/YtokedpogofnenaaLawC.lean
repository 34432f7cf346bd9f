import Derived.Test.YtokedpogofnenaaLawB
set_option linter.unusedVariables false
set_option linter.unusedSimpArgs false
set_option maxHeartbeats 4000000
set_option maxRecDepth 100000
namespace Go.Proofs.Ytokedpogofnenaa
open Go Go.Eng
variable {R : Type}
/-! ### places, sizes -/
noncomputable def placesP (s : St) (l h n : Int) : Prop := checkP s ∧ 0 ≤ l ∧ l ≤ h ∧ 1 ≤ n ∧ h + n ≤ 512
open Classical in
theorem places_eq (x : PTs.D ps_state_places) (k : Bool → Option R) : F_state_places R x k = k (decide (placesP x.1 x.2.1 x.2.2.1 x.2.2.2)) := by
  obtain ⟨⟨a, t, b⟩, (l : Int), (h : Int), (n : Int)⟩ := x
  simp only [F_state_places, N_state_places, check_eq, W.pick_eq, W.ge_d, W.le_d, W.sub_eq]
  by_cases hp : 0 ≤ l ∧ l ≤ h ∧ 1 ≤ n ∧ h + n ≤ 512
  · obtain ⟨h1, h2, h3, h4⟩ := hp
    rw [W.wi64_id (by omega) (by omega), br_pos (by simp; omega)]
    exact congrArg k (dec_eq (by simp [placesP]; intro _; omega))
  · have : ¬ placesP (a, t, b) l h n := fun h => hp h.2
    rw [br_neg, decide_eq_false this]
    by_cases h3 : 1 ≤ n ∧ n ≤ 512
    · rw [W.wi64_id (by omega) (by omega)]
      simp; omega
    · have : (decide (1 ≤ n) && decide (n ≤ 512)) = false := by simp; omega
      cases h1 : decide (0 ≤ l) <;> cases h2 : decide (l ≤ h) <;> cases h4 : decide (1 ≤ n) <;> cases h5 : decide (n ≤ 512) <;> simp_all
def exP (l h n : Int) : Prop := l = h ∧ n = 8 ∧ l.tmod 8 = 0
open Classical in
theorem exact_eq (x : PTs.D ps_state_exact) (k : Bool → Option R) : F_state_exact R x k = k (decide (exP x.1 x.2.1 x.2.2)) := by
  obtain ⟨(l : Int), (h : Int), (n : Int)⟩ := x
  simp only [F_state_exact, N_state_exact]
  rw [br_pos (by simp [W.or2])]
  refine congrArg k (dec_eq ?_)
  rw [W.pickf_t, W.pickf_t, W.eq_t, W.eq_t, W.eq_t]
  simp only [exP, W.rem, and_assoc]
noncomputable def readyP (s : St) (l h : Int) : Prop := checkP s ∧ 0 ≤ l ∧ l ≤ h ∧ h ≤ 512 ∧ ∀ i : Nat, l ≤ i → (i : Int) < h → bl s.2.1 i = true
open Classical in
theorem ready_eq (x : PTs.D ps_state_Ready) (k : Bool → Option R) : F_state_Ready R x k = k (decide (readyP x.1 x.2.1 x.2.2)) := by
  obtain ⟨⟨a, t, b⟩, (l : Int), (h : Int)⟩ := x
  simp only [F_state_Ready, N_state_Ready, check_eq, W.pick_eq, W.ge_d, W.le_d]
  by_cases hp : 0 ≤ l ∧ l ≤ h ∧ h ≤ 512
  · rw [br_pos (by simp; omega)]
    by_cases hc : checkP (a, t, b)
    · rw [br_pos (by simp [hc])]
      have hlen : t.length = 512 := hc.2.1
      obtain ⟨x, hx⟩ : ∃ x : Nat, l = x := ⟨l.toNat, by omega⟩
      obtain ⟨y, hy⟩ : ∃ y : Nat, h = y := ⟨h.toNat, by omega⟩
      subst hx hy
      rw [every2 x y a t b (by omega) (by omega) (by omega)]
      refine congrArg k ?_
      simp only [cond_true]
      refine decide_eq_decide.2 ⟨fun hh => ⟨hc, hp.1, hp.2.1, hp.2.2, fun i h1 h2 => hh i (by omega) (by omega)⟩, fun hh i h1 h2 => hh.2.2.2.2 i (by omega) (by omega)⟩
    · rw [br_neg (by simp [hc]), decide_eq_false (show ¬ readyP (a, t, b) l h from fun h => hc h.1)]
  · rw [br_neg (by simp; omega), decide_eq_false (show ¬ readyP (a, t, b) l h from fun h => hp ⟨h.2.1, h.2.2.1, h.2.2.2.1⟩)]
/-- What is known of n bytes. -/
def szB (n : Int) : Bd := if n = 1 then (0, 255, 0, 255, 0, 255) else if n = 2 then (0, 65535, 0, 65535, 0, 65535) else if n = 4 then (0, 4294967295, 0, 4294967295, 0, 4294967295)
  else (0, 18446744073709551615, -9223372036854775808, 9223372036854775807, 0, 18446744073709551615)
theorem bAny_eq (k : PTs.D qs_bound_Any → Option R) : F_bound_Any R () k = k (0, 18446744073709551615, -9223372036854775808, 9223372036854775807, 0, 18446744073709551615) := by
  simp only [F_bound_Any, N_bound_Any, F_tnum_Any, N_tnum_Any]
theorem size_eq (n : PTs.D ps_bound_Size) (k : PTs.D qs_bound_Size → Option R) : F_bound_Size R n k = k (szB n) := by
  revert n
  intro (n : Int)
  simp only [F_bound_Size, N_bound_Size, bAny_eq, W.pick_eq, W.ne_d]
  by_cases h1 : n = 1
  · subst h1; kernel_rfl
  by_cases h2 : n = 2
  · subst h2; kernel_rfl
  by_cases h4 : n = 4
  · subst h4; kernel_rfl
  rw [br_pos (by simp [h1, h2, h4])]
  simp only [szB, if_neg h1, if_neg h2, if_neg h4]
noncomputable def slot (s : St) (l : Int) : Kn := kn s.2.2 (l / 8).toNat
open Classical in
noncomputable def loadS (s : St) (l h n : Int) : Kn × Bool :=
  if placesP s l h n ∧ readyP s l (h + n) then (if exP l h n ∧ (slot s l).1 ≠ 0 then (slot s l, true) else ((1, szB n, 0), true)) else (z0, false)
theorem quo8 {l : Int} (h : 0 ≤ l) (h' : l < 9223372036854775808) : W.wrap .i64 (W.quo l 8) = l / 8 := by
  unfold W.quo; rw [Int.tdiv_eq_ediv_of_nonneg h, W.wi64_id (by omega) (by omega)]
theorem inb0 {l : Int} {N : Nat} (h0 : 0 ≤ l) (h : l < N) : W.and2 (W.le 0 l) (W.lt l (W.ofNat N)) = true := by
  rw [W.and2_t, W.le_t, W.lt_t, W.ofNat_eq]; omega
open Classical in
theorem load_eq (x : PTs.D ps_state_Load) (k : PTs.D qs_state_Load → Option R) : F_state_Load R x k = k (loadS x.1 x.2.1 x.2.2.1 x.2.2.2) := by
  obtain ⟨⟨a, t, b⟩, (l : Int), (h : Int), (n : Int)⟩ := x
  simp only [F_state_Load, N_state_Load, places_eq, ready_eq, exact_eq, size_eq, W.not_eq, Bool.not_not, br_d, eta2, kn_get]
  by_cases hp : placesP (a, t, b) l h n
  · obtain ⟨hc, q1, q2, q3, q4⟩ := id hp
    have hlen : b.length = 64 := hc.2.2.1
    rw [if_pos hp, W.add_eq, W.wi64_id (by omega) (by omega)]
    by_cases hr : readyP (a, t, b) l (h + n)
    · rw [quo8 (by omega) (by omega)]
      simp only [hr, decide_true, Bool.not_true, W.pick_eq, cond_false, br_f]
      rw [br_pos (by simp [W.or2]), br_pos (by rw [inb0 (by omega) (by rw [W.len_eq]; omega)]; simp [W.or2]), inb0 (by omega) (by rw [W.len_eq]; omega), br_t]
      simp only [W.ne_d, loadS, if_pos (And.intro hp hr), slot, W.toNat]
      by_cases he : exP l h n
      · by_cases hz : (kn b (l / 8).toNat).1 = 0
        · simp [he, hz, br_ite]
        · simp [he, hz, br_ite]
      · simp [he, br_ite]
    · rw [br_pos (by simp [hr, W.pick_eq])]
      simp only [loadS, hr, and_false, if_false, z0]
  · rw [if_neg hp]
    simp only [loadS, hp, false_and, if_false, z0]
end Go.Proofs.Ytokedpogofnenaa
