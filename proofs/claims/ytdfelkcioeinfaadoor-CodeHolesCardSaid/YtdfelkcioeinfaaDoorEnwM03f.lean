import Derived.Test.YtdfelkcioeinfaaDoorEnwM03e
set_option linter.unusedVariables false
set_option linter.unusedSimpArgs false
set_option maxHeartbeats 4000000
set_option maxRecDepth 100000
namespace Go.Proofs.YtdfelkcioeinfaaDoor
open Go Go.Eng
/-- A wide instruction never stands last, and its second half is empty. -/
def gapOk (l : List In6) : Prop := ∀ i, (l.getD i zi).1 = 24 → i + 1 < l.length ∧ l.getD (i + 1) zi = zi
theorem dec_gap : ∀ (m : Nat) (a : List Int) (r : List In6), decF m a = some r → gapOk r
  | 0, a, r, h => by
    simp only [decF, Option.some.injEq] at h; subst h
    intro i hi; exact absurd (show zi.1 = 24 from hi) (by decide)
  | 1, a, r, h => by
    simp only [decF] at h; split at h
    · cases h
    · rename_i hn
      obtain rfl := Option.some.inj h
      intro i hi
      cases i with
      | zero => exact absurd hi hn
      | succ i => exact absurd (show zi.1 = 24 from hi) (by decide)
  | m + 2, a, r, h => by
    simp only [decF] at h
    split at h
    · split at h
      · obtain ⟨r', h3, rfl⟩ := Option.map_eq_some_iff.1 h
        have g := dec_gap m _ _ h3
        intro i hi
        match i, hi with
        | 0, hi => exact ⟨by simp, rfl⟩
        | 1, hi => exact absurd (show zi.1 = 24 from hi) (by decide)
        | j + 2, hi =>
          obtain ⟨g1, g2⟩ := g j hi
          exact ⟨by simp only [List.length_cons]; omega, g2⟩
      · cases h
    · rename_i hn
      obtain ⟨r', h3, rfl⟩ := Option.map_eq_some_iff.1 h
      have g := dec_gap (m + 1) _ _ h3
      intro i hi
      match i, hi with
      | 0, hi => exact absurd hi hn
      | j + 1, hi =>
        obtain ⟨g1, g2⟩ := g j hi
        exact ⟨by simp only [List.length_cons]; omega, g2⟩
theorem gap_next {l : List In6} (g : gapOk l) {i : Nat} (h : (l.getD i zi).1 = 24) : (l.getD (i + 1) zi).1 ≠ 24 := by rw [(g i h).2]; decide
theorem run_gap {l : List In6} (g : gapOk l) (i : Nat) : runF l (i + 1) % 2 = 1 ↔ (l.getD i zi).1 = 24 := by
  by_cases h : (l.getD i zi).1 = 24
  · have e : runF l i = 0 := by
      cases i with
      | zero => rfl
      | succ j => exact if_neg fun c => gap_next g c h
    rw [show runF l (i + 1) = runF l i + 1 from if_pos h, e]
    exact ⟨fun _ => h, fun _ => rfl⟩
  · rw [show runF l (i + 1) = 0 from if_neg h]
    exact ⟨fun c => absurd c (by decide), fun c => absurd c h⟩
theorem hole_at {l : List In6} (g : gapOk l) (i : Nat) : holeP l ((i + 1 : Nat) : Int) = true ↔ i + 1 < l.length ∧ (l.getD i zi).1 = 24 := by
  unfold holeP
  rw [decide_eq_true_iff, Int.toNat_natCast, run_gap g i]
  constructor
  · rintro ⟨_, h2, h3⟩; exact ⟨by omega, h3⟩
  · rintro ⟨h2, h3⟩; exact ⟨by omega, by omega, h3⟩
theorem hole_0 (l : List In6) : holeP l ((0 : Nat) : Int) = false := by
  unfold holeP; exact decide_eq_false (by omega)
theorem isz6 (x : In6) : W.and2 (W.eq x.1 0) (W.and2 (W.eq x.2.1 0) (W.and2 (W.eq x.2.2.1 0) (W.and2 (W.eq x.2.2.2.1 0) (W.and2 (W.eq x.2.2.2.2.1 0) (W.and2 (W.eq x.2.2.2.2.2 0) true))))) = decide (x = zi) := same6 x zi
theorem holes_loop {fl : Nat} (l : List In6) (g : gapOk l) (hl : l.length ≤ 4096) : ∀ (m e i : Nat), i + m = l.length →
    P_clevislaw03CodeHoles_5_0 F_code_Decode F_code_Hole F_clevislaw03heads fl (e + m + 1) Unit l (i : Int) = some ()
  | 0, e, i, hi => by
    rw [P_clevislaw03CodeHoles_5_0_s, olI]
    refine brf (cF q5 (by omega)) ?_
    rw [heads_eq]; rfl
  | m + 1, e, i, hi => by
    have ih := holes_loop (fl := fl) l g hl m e (i + 1) (by omega)
    rw [P_clevislaw03CodeHoles_5_0_s]
    simp only [olI, getzi, next (i := i) (by omega)]
    have hlt : W.lt (i : Int) (l.length : Int) = true := cT q5 (by omega)
    have hin : W.and2 (W.le 0 (i : Int)) (W.lt (i : Int) (l.length : Int)) = true := cT q6 ⟨by omega, by omega⟩
    refine brt hlt ?_
    rw [hole_eq _ _ (by omega)]
    cases hy : holeP l (i : Int) with
    | true =>
      obtain ⟨j, rfl⟩ : ∃ j, i = j + 1 := by
        cases i with
        | zero => rw [hole_0] at hy; cases hy
        | succ j => exact ⟨j, rfl⟩
      obtain ⟨h1, h2⟩ := (hole_at g j).1 hy
      have hA : W.eq ((j + 1 : Nat) : Int) 0 = false := cF q1 (by omega)
      have hp : W.wrap .i64 (W.sub ((j + 1 : Nat) : Int) 1) = (j : Int) := by rw [W.sub_eq, W.wi64_id (by omega) (by omega)]; omega
      have hin2 : W.and2 (W.le 0 (j : Int)) (W.lt (j : Int) (l.length : Int)) = true := cT q6 ⟨by omega, by omega⟩
      have hz : l.getD (j + 1) zi = zi := (g j h2).2
      have hB := (isz6 (l.getD (j + 1) zi)).trans (decide_eq_true hz)
      have hC : W.ne (l.getD j zi).1 24 = false := cF q9 fun c => c h2
      have hq : holeP l (j : Int) = false := by
        cases hq : holeP l (j : Int) with
        | false => rfl
        | true =>
          cases j with
          | zero => rw [hole_0] at hq; cases hq
          | succ i => exact absurd h2 (gap_next g ((hole_at g i).1 hq).2)
      simp only [hA, hp, hin, hin2, getzi, hB, hC]
      simp only [W.not, W.and2, W.or2, W.pick, Bool.not_true, Bool.not_false, Bool.and_true, Bool.true_and, Bool.and_false, Bool.false_and, Bool.or_true, Bool.true_or, Bool.or_false, Bool.false_or, cond_true, cond_false, br_t, br_f]
      rw [hole_eq _ _ (by omega), hq]
      exact ih
    | false =>
      by_cases h : (l.getD i zi).1 = 24
      · have hn : holeP l ((i + 1 : Nat) : Int) = true := (hole_at g i).2 ⟨(g i h).1, h⟩
        have hD : W.eq (l.getD i zi).1 24 = true := cT q1 h
        have hE : W.ge ((i + 1 : Nat) : Int) (l.length : Int) = false := cF q4 (by have := (g i h).1; omega)
        simp only [hin, hD, hE]
        simp only [W.not, W.and2, W.or2, W.pick, Bool.not_true, Bool.not_false, Bool.and_true, Bool.true_and, Bool.and_false, Bool.false_and, Bool.or_true, Bool.true_or, Bool.or_false, Bool.false_or, cond_true, cond_false, br_t, br_f]
        rw [hole_eq _ _ (by omega), hn]
        exact ih
      · have hD : W.eq (l.getD i zi).1 24 = false := cF q1 h
        simp only [hin, hD]
        simp only [W.not, W.and2, W.or2, W.pick, Bool.not_true, Bool.not_false, Bool.and_true, Bool.true_and, Bool.and_false, Bool.false_and, Bool.or_true, Bool.true_or, Bool.or_false, Bool.false_or, cond_true, cond_false, br_t, br_f]
        exact ih
theorem CodeHoles_pure (x : PTs.D ps_clevislaw03CodeHoles) (hw : WfL ps_clevislaw03CodeHoles x) (hz : SzL ps_clevislaw03CodeHoles x) :
    L_clevislaw03CodeHoles F_code_Decode F_code_Hole F_clevislaw03heads W.big x = some () := by
  have hb := bytes_ok hw
  have hl := bytes_le hz
  unfold L_clevislaw03CodeHoles
  try dsimp only
  rw [dec_eq x hb hl]; (try dsimp only)
  by_cases h : (decC x).2 = 0
  · refine brf (cF q9 (fun c => c h)) ?_
    obtain ⟨_, _, h3⟩ := dec_yes h
    have := dec_small x
    obtain ⟨e, he⟩ := bigs (n := (decC x).1.length + 1) (by omega)
    have hh := holes_loop (fl := W.big) (decC x).1 (dec_gap _ _ _ h3) this (decC x).1.length e 0 (by omega)
    rw [show e + (decC x).1.length + 1 = W.big by omega] at hh
    exact hh
  · refine brt (cT q9 h) ?_
    rw [heads_eq]; rfl
theorem CodeHoles_law (x : PTs.D ps_clevislaw03CodeHoles) (hw : WfL ps_clevislaw03CodeHoles x) (hz : SzL ps_clevislaw03CodeHoles x) :
    ∃ (C : Cfg) (fl d : Nat), CfgOk C ∧ C.P = Tryd.prog ∧ call C fl d 5 (encL false ps_clevislaw03CodeHoles x) [] getL = some () :=
  E_clevislaw03CodeHoles ok_code_Decode ok_code_Hole ok_clevislaw03heads x W.big (CodeHoles_pure x hw hz)
end Go.Proofs.YtdfelkcioeinfaaDoor
