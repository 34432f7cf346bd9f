import Derived.Test.YtbngpphpdabakaaLawD
set_option linter.unusedVariables false
set_option linter.unusedSimpArgs false
set_option maxHeartbeats 4000000
set_option maxRecDepth 100000
namespace Go.Proofs.Ytbngpphpdabakaa
open Go Go.Eng
variable {R : Type}
/-! ### holes, and where one may go on -/
def z6 : In := (0, 0, 0, 0, 0, 0)
def runW (l : List In) : Nat → Nat
  | 0 => 0
  | i + 1 => if (l.getD i z6).1 = 24 then runW l i + 1 else 0
def holeP (l : List In) (i : Int) : Prop := 1 ≤ i ∧ i < l.length ∧ runW l i.toNat % 2 = 1
theorem and1_i (t : Nat) (h : t < 1000000000000000) : W.wrap .i64 (W.and .i64 (t : Int) 1) = ((t % 2 : Nat) : Int) := by
  show W.wrap .i64 (W.and .u64 (t : Int) 1) = _
  rw [W.and_1, W.wi64_id (by omega) (by omega)]; omega
open Classical in
theorem hole_loop {l : List In} {k : Bool → Option R} {i fl : Nat} (hi : i < l.length) (hl : l.length < 1000000000000000) : ∀ (m t e : Nat), t + m = i → runW l i = t + runW l m →
    P_code_Hole_4_0 fl (e + m + 1) R l (i : Int) (t : Int) k = k (decide (runW l i % 2 = 1))
  | 0, t, e, h1, h2 => by
    have ht : t = i := by omega
    subst ht
    rw [P_code_Hole_4_0_s]
    simp only [W.lt_irr, W.not_eq, Bool.not_false, W.pick_eq, cond_false, br_f]
    show br true _ _ = _
    rw [br_t, and1_i _ (by omega), W.eq_d]
    congr 1; rw [decide_eq_decide]
    simp only [runW] at h2; omega
  | m + 1, t, e, h1, h2 => by
    rw [P_code_Hole_4_0_s]
    have e1 : W.wrap .i64 (W.sub (W.wrap .i64 (W.sub (i : Int) 1)) (t : Int)) = ((m : Nat) : Int) := by
      rw [W.sub_eq, W.sub_eq, W.wi64_id (show -9223372036854775808 ≤ (i : Int) - 1 by omega) (by omega), W.wi64_id (by omega) (by omega)]; omega
    rw [e1, W.ofNat_eq, W.len_eq, W.get_eq, W.toNat_nat, W.lt_d, decide_eq_true (show (t : Int) < (i : Int) by omega), W.le_d, W.lt_d, W.and2_d, decide_eq_true (show (0 : Int) ≤ (m : Int) ∧ (m : Int) < (l.length : Int) by omega)]
    show br (W.pick true (W.eq (l.getD m z6).1 24) false) _ _ = _
    rw [W.pick_eq, cond_true, W.eq_d, br_d]
    simp only [runW] at h2
    by_cases h : (l.getD m z6).1 = 24
    · rw [if_pos h, W.succ64 (by omega), show e + (m + 1) = (e + m + 1) from by omega]
      rw [if_pos h] at h2
      exact hole_loop hi hl m (t + 1) e (by omega) (by omega)
    · rw [if_neg h, and1_i _ (by omega), W.eq_d]
      rw [if_neg h] at h2
      congr 1; rw [decide_eq_decide]; omega
open Classical in
theorem hole_eq (x : PTs.D ps_code_Hole) (hl : (show List In from x.1).length < 1000000000000000) (k : Bool → Option R) : F_code_Hole R x k = k (decide (holeP x.1 x.2)) := by
  obtain ⟨(l : List In), (i : Int)⟩ := x
  have hl : l.length < 1000000000000000 := hl
  simp only [F_code_Hole, N_code_Hole, W.ofNat_eq, W.len_eq]
  have e0 : W.pick (W.lt i 1) true (W.ge i (l.length : Int)) = decide (i < 1 ∨ (l.length : Int) ≤ i) := by
    rw [Bool.eq_iff_iff, W.picko_t, W.lt_t]; simp [W.ge]
  rw [e0, br_d]
  by_cases h : i < 1 ∨ (l.length : Int) ≤ i
  · rw [if_pos h, decide_eq_false]; exact fun hh => by unfold holeP at hh; omega
  · rw [if_neg h]
    obtain ⟨n, rfl⟩ : ∃ n : Nat, i = (n : Int) := ⟨i.toNat, by omega⟩
    have hb : W.big = (W.big - (n + 1)) + n + 1 := by have : n < W.big := big_lt (by omega); omega
    rw [hb]
    have := hole_loop (R := R) (l := l) (k := k) (i := n) (fl := (W.big - (n + 1)) + n + 1) (by omega) hl n 0 (W.big - (n + 1)) (by omega) (by omega)
    refine this.trans ?_
    congr 1; rw [decide_eq_decide]; unfold holeP
    constructor
    · intro h2; exact ⟨by omega, by omega, by simpa using h2⟩
    · intro h2; simpa using h2.2.2
open Classical in
theorem rhole_loop {l : List In} {k : Bool → Option R} {i fl : Nat} (hi : i < l.length) (hl : l.length < 1000000000000000) : ∀ (m t e : Nat), t + m = i → runW l i = t + runW l m →
    P_clevisref03Hole_5_0 fl (e + m + 1) R l (t : Int) ((m : Int) - 1) k = k (decide (runW l i % 2 = 1))
  | 0, t, e, h1, h2 => by
    rw [P_clevisref03Hole_5_0_s]
    have e0 : W.ge (((0 : Nat) : Int) - 1) 0 = false := by decide
    rw [e0, W.pick_eq, cond_false, br_f]
    show br true _ _ = _
    rw [br_t, W.eq_d]
    congr 1; rw [decide_eq_decide]
    simp only [runW] at h2
    have : W.rem (t : Int) 2 = ((t % 2 : Nat) : Int) := by unfold W.rem; rw [Int.tmod_eq_emod_of_nonneg (by omega)]; omega
    rw [this]; omega
  | m + 1, t, e, h1, h2 => by
    rw [P_clevisref03Hole_5_0_s]
    have e1 : (((m + 1 : Nat) : Int) - 1) = (m : Int) := by omega
    rw [e1, W.ofNat_eq, W.len_eq, W.get_eq, W.toNat_nat, W.ge_d, decide_eq_true (show (0 : Int) ≤ (m : Int) by omega), W.le_d, W.lt_d, W.and2_d, decide_eq_true (show (0 : Int) ≤ (m : Int) ∧ (m : Int) < (l.length : Int) by omega)]
    show br (W.pick true (W.eq (l.getD m z6).1 24) false) _ _ = _
    rw [W.pick_eq, cond_true, W.eq_d, br_d]
    simp only [runW] at h2
    by_cases h : (l.getD m z6).1 = 24
    · rw [if_pos h, W.succ64 (by omega), show e + (m + 1) = (e + m + 1) from by omega, W.sub_eq, W.wi64_id (by omega) (by omega)]
      rw [if_pos h] at h2
      exact rhole_loop hi hl m (t + 1) e (by omega) (by omega)
    · rw [if_neg h, W.eq_d]
      rw [if_neg h] at h2
      have : W.rem (t : Int) 2 = ((t % 2 : Nat) : Int) := by unfold W.rem; rw [Int.tmod_eq_emod_of_nonneg (by omega)]; omega
      congr 1; rw [decide_eq_decide, this]; omega
open Classical in
theorem rhole_eq (x : PTs.D ps_clevisref03Hole) (hl : (show List In from x.1).length < 1000000000000000) (k : Bool → Option R) : F_clevisref03Hole R x k = k (decide (holeP x.1 x.2)) := by
  obtain ⟨(l : List In), (i : Int)⟩ := x
  have hl : l.length < 1000000000000000 := hl
  simp only [F_clevisref03Hole, N_clevisref03Hole, W.ofNat_eq, W.len_eq]
  have e0 : W.pick (W.lt i 1) true (W.ge i (l.length : Int)) = decide (i < 1 ∨ (l.length : Int) ≤ i) := by
    rw [Bool.eq_iff_iff, W.picko_t, W.lt_t]; simp [W.ge]
  rw [e0]
  by_cases h : i < 1 ∨ (l.length : Int) ≤ i
  · rw [decide_eq_true h]
    show k false = _
    rw [decide_eq_false]; exact fun hh => by unfold holeP at hh; omega
  · rw [decide_eq_false h]
    obtain ⟨n, rfl⟩ : ∃ n : Nat, i = ((n + 1 : Nat) : Int) := ⟨i.toNat - 1, by omega⟩
    have e1 : W.wrap .i64 (W.sub ((n + 1 : Nat) : Int) 1) = (n : Int) := by rw [W.sub_eq, W.wi64_id (by omega) (by omega)]; omega
    rw [e1, W.get_eq, W.toNat_nat, W.le_d, W.lt_d, W.and2_d, decide_eq_true (show (0 : Int) ≤ (n : Int) ∧ (n : Int) < (l.length : Int) by omega)]
    show br (W.pick false true (W.ne (l.getD n z6).1 24)) _ _ = _
    rw [W.pick_eq, cond_false, W.ne_d, br_d]
    by_cases hx : (l.getD n z6).1 ≠ 24
    · rw [if_pos hx, decide_eq_false]
      rintro ⟨_, _, h3⟩
      simp only [Int.toNat_natCast, runW, if_neg hx] at h3
      omega
    · rw [if_neg hx]
      have hb : W.big = (W.big - (n + 2)) + (n + 1) + 1 := by have : n + 1 < W.big := big_lt (by omega); omega
      rw [hb]
      have := rhole_loop (R := R) (l := l) (k := k) (i := n + 1) (fl := (W.big - (n + 2)) + (n + 1) + 1) (by omega) hl (n + 1) 0 (W.big - (n + 2)) (by omega) (by omega)
      rw [show (((n + 1 : Nat) : Int) - 1) = (n : Int) by omega] at this
      refine this.trans ?_
      congr 1; rw [decide_eq_decide]; unfold holeP
      constructor
      · intro h2; exact ⟨by omega, by omega, by simpa using h2⟩
      · intro h2; simpa using h2.2.2
open Classical in
noncomputable def sucP (l : List In) (i : Int) : List Int :=
  if i < 0 ∨ (l.length : Int) ≤ i ∨ holeP l i then [] else
  if (l.getD i.toNat z6).1 = 149 then [] else if (l.getD i.toNat z6).1 = 5 then [W.wrap .i64 (W.add (W.wrap .i64 (W.add i 1)) (l.getD i.toNat z6).2.2.2.1)]
  else if (jmpT (l.getD i.toNat z6).1).2.2 = true then [W.wrap .i64 (W.add i 1), W.wrap .i64 (W.add (W.wrap .i64 (W.add i 1)) (l.getD i.toNat z6).2.2.2.1)]
  else if (l.getD i.toNat z6).1 = 24 then [W.wrap .i64 (W.add i 2)] else [W.wrap .i64 (W.add i 1)]
open Classical in
theorem suc_tail (l : List In) (i : Int) (h0 : 0 ≤ i) (h1 : i < l.length) (k : List Int → Option R) (F : FT ps_legal_Jump qs_legal_Jump) (hF : ∀ (x : Int) (k : Int × Bool × Bool → Option R), F R x k = k (jmpT x)) :
    (br (W.pick false true (decide (holeP l i))) (k [])
            (br (W.and2 (W.le 0 i) (W.lt i (l.length : Int)))
              (F R (l.getD i.toNat z6).1 fun y =>
                br (W.eq (l.getD i.toNat z6).1 149) (k [])
                  (br (W.eq (l.getD i.toNat z6).1 5) (k [W.wrap IntKind.i64 (W.add (W.wrap IntKind.i64 (W.add i 1)) (l.getD i.toNat z6).2.2.2.1)])
                    (br y.2.2 (k [W.wrap IntKind.i64 (W.add i 1), W.wrap IntKind.i64 (W.add (W.wrap IntKind.i64 (W.add i 1)) (l.getD i.toNat z6).2.2.2.1)])
                      (br (W.eq (l.getD i.toNat z6).1 24) (k [W.wrap IntKind.i64 (W.add i 2)]) (k [W.wrap IntKind.i64 (W.add i 1)])))))
              none)) = k (sucP l i) := by
  rw [hF, W.le_d, W.lt_d, W.and2_d, decide_eq_true (⟨h0, h1⟩ : 0 ≤ i ∧ i < (l.length : Int)), br_t, W.pick_eq, cond_false, br_d]
  unfold sucP
  by_cases hh : holeP l i
  · rw [if_pos hh, if_pos (.inr (.inr hh))]
  · rw [if_neg hh, if_neg (by intro h; rcases h with h | h | h; omega; omega; exact hh h)]
    rw [W.eq_d, W.eq_d, W.eq_d, br_d, br_d, br_d, br_ite]
    split; · rfl
    split; · rfl
    split; · rfl
    split <;> rfl
theorem lsuc_eq (x : PTs.D ps_legal_Succ) (hl : (show List In from x.1).length < 1000000000000000) (k : List Int → Option R) : F_legal_Succ R x k = k (sucP x.1 x.2) := by
  obtain ⟨(l : List In), (i : Int)⟩ := x
  have hl : l.length < 1000000000000000 := hl
  simp only [F_legal_Succ, N_legal_Succ, W.ofNat_eq, W.len_eq, W.get_eq]
  have e0 : W.pick (W.lt i 0) true (W.ge i (l.length : Int)) = decide (i < 0 ∨ (l.length : Int) ≤ i) := by
    rw [Bool.eq_iff_iff, W.picko_t, W.lt_t]; simp [W.ge]
  rw [e0, W.not_eq, br_nd]
  by_cases h : i < 0 ∨ (l.length : Int) ≤ i
  · rw [if_pos h]; unfold sucP; rw [if_pos (h.elim .inl fun h => .inr (.inl h))]
  · rw [if_neg h, hole_eq (l, i) hl]
    exact suc_tail l i (by omega) (by omega) k _ (fun x k => ljmp_eq x k)
theorem rsuc_eq (x : PTs.D ps_clevisref04Succ) (hl : (show List In from x.1).length < 1000000000000000) (k : List Int → Option R) : F_clevisref04Succ R x k = k (sucP x.1 x.2) := by
  obtain ⟨(l : List In), (i : Int)⟩ := x
  have hl : l.length < 1000000000000000 := hl
  simp only [F_clevisref04Succ, N_clevisref04Succ, W.ofNat_eq, W.len_eq, W.get_eq]
  have e0 : W.pick (W.lt i 0) true (W.ge i (l.length : Int)) = decide (i < 0 ∨ (l.length : Int) ≤ i) := by
    rw [Bool.eq_iff_iff, W.picko_t, W.lt_t]; simp [W.ge]
  rw [e0, W.not_eq, br_nd]
  by_cases h : i < 0 ∨ (l.length : Int) ≤ i
  · rw [if_pos h]; unfold sucP; rw [if_pos (h.elim .inl fun h => .inr (.inl h))]
  · rw [if_neg h, rhole_eq (l, i) hl]
    exact suc_tail l i (by omega) (by omega) k _ (fun x k => rjmp4_eq x k)
open Classical in
theorem ints_eq (a b : List Int) (ha : a.length < 1000000000000000) (hb : b.length < 1000000000000000) (k : Bool → Option R) : F_clevisref04Ints R (a, b) k = k (decide (a = b)) := by
  simp only [F_clevisref04Ints, N_clevisref04Ints, W.ofNat_eq, W.len_eq]
  rw [W.ne_d, br_d]
  by_cases h : (a.length : Int) ≠ (b.length : Int)
  · rw [if_pos h, decide_eq_false]; rintro rfl; exact h rfl
  rw [if_neg h]
  have hlen : a.length = b.length := by omega
  have := loop_all (P := fun n (t : Int) => P_clevisref04Ints_4_0 W.big n R a b t k) (N := a.length) (c := fun i => a.getD i 0 = b.getD i 0) (kt := k true) (kf := k false)
    (by
      intro n t ht
      simp only [P_clevisref04Ints_4_0_s, W.ofNat_eq, W.len_eq, W.get_eq, W.toNat_nat]
      rw [W.lt_d, W.le_d, W.and2_d, decide_eq_true (show (t : Int) < (a.length : Int) by omega), br_t, decide_eq_true (show (0 : Int) ≤ (t : Int) ∧ (t : Int) < (a.length : Int) by omega), br_t,
        W.lt_d, W.and2_d, decide_eq_true (show (0 : Int) ≤ (t : Int) ∧ (t : Int) < (b.length : Int) by omega), br_t, W.ne_d, W.succ64 (by omega), br_d]
      by_cases h : a.getD t 0 = b.getD t 0
      · rw [if_pos h, if_neg (by simpa using h)]
      · rw [if_neg h, if_pos h])
    (by
      intro n
      simp only [P_clevisref04Ints_4_0_s, W.ofNat_eq, W.len_eq]
      rw [W.lt_irr, br_f]) a.length W.big 0 (by omega) (big_lt (by omega))
  refine this.trans ?_
  by_cases h : a = b
  · rw [decide_eq_true h, if_pos (fun i _ h2 => by rw [h])]
  · rw [decide_eq_false h, if_neg]
    intro h2; apply h
    apply List.ext_getElem hlen
    intro i h3 h4
    have := h2 i (by omega) h3
    simpa [List.getD_eq_getElem?_getD, List.getElem?_eq_getElem h3, List.getElem?_eq_getElem h4] using this
end Go.Proofs.Ytbngpphpdabakaa
