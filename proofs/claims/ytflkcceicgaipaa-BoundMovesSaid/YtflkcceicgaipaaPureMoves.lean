import Derived.Test.YtflkcceicgaipaaLawRef
set_option linter.unusedVariables false
set_option linter.unusedSimpArgs false
set_option maxRecDepth 100000
set_option maxHeartbeats 4000000
namespace Go.Proofs.Ytflkcceicgaipaa
open Go Go.Eng
theorem rBMeet_eq {R : Type} (x : PTs.D ps_clevisref08Meet) (k : PTs.D qs_clevisref08Meet → Option R) : F_clevisref08Meet R x k = k (opt (meetB x.1 x.2) ((0, 0, 0, 0, 0, 0), false) fun c => (c, true)) := by
  obtain ⟨⟨a, b, c, d, v, m⟩, ⟨a', b', c', d', v', m'⟩⟩ := x
  simp only [F_clevisref08Meet, N_clevisref08Meet, meetB]
  rw [rMeet7_eq]
  cases (meetT v m v' m').2
  · rfl
  · simp only [W.not, Bool.not_true, br_f, cond_true, rTidy_eq]
    rfl
theorem tidy_whole : tidyB wholeB = some wholeB := by kernel_rfl
theorem rsize4 {R : Type} (k : PTs.D qs_clevisref08Size → Option R) : F_clevisref08Size R (4 : Int) k = k wholeB := Eq.trans (by rfl) (Eq.refl _)
theorem rlow_tail {R : Type} (k : Bd → Option R) (b : Bd) (x : Bd × Bool) (hx : x = opt (tidyB (cutB' b)) ((0, 0, 0, 0, 0, 0), false) fun c => (c, true)) :
    br (W.not x.2) (k wholeB) (k x.1) = k (lowC (lowP b.2.2.2.2.1) (lowP b.2.2.2.2.2) (tidyB (cutB' b))) := by
  cases ho : tidyB (cutB' b) with
  | none =>
    rw [ho] at hx
    have hx : x = ((0, 0, 0, 0, 0, 0), false) := hx
    subst hx; rfl
  | some y =>
    rw [ho] at hx
    have hx : x = (y, true) := hx
    subst hx
    simp only [lowC, W.not, Bool.not_true, br_f]
    by_cases hz : lowP b.2.2.2.2.1 = 0 ∧ lowP b.2.2.2.2.2 = 4294967295
    · rw [if_pos hz]
      have hc : cutB' b = wholeB := by
        have e : cutB' b = (0, 4294967295, 0, 4294967295, lowP b.2.2.2.2.1, lowP b.2.2.2.2.2) := by simp only [cutB', lowP]
        rw [e, hz.1, hz.2]; simp only [wholeB]
      rw [hc, tidy_whole] at ho
      rw [← Option.some.inj ho]
    · rw [if_neg hz]
theorem upto_eq {R : Type} (k : PTs.D qs_clevisref08upto → Option R) : F_clevisref08upto R (4294967295 : Int) k = k wholeB := Eq.trans (by rfl) (Eq.refl _)
theorem rlow7 {R : Type} (v m : Int) (k : PTs.D qs_clevisref07Low → Option R) : F_clevisref07Low R (v, m) k = k (lowP v, lowP m) := by
  have e : B64 4294967295 = M32 := by decide
  simp only [F_clevisref07Low, N_clevisref07Low, W.wrap_u64, W.and_u64, B64_U, e, lowP]
theorem cut_eq' (a b c d v m : Int) : (wholeB.1, wholeB.2.1, wholeB.2.2.1, wholeB.2.2.2.1, lowP v, lowP m) = cutB' (a, b, c, d, v, m) := by simp only [wholeB, cutB', lowP]
theorem rLow_b {R : Type} (a b c d v m : Int) (k : Bd → Option R) (h : W.le b 4294967295 = false) : F_clevisref08Low R (a, b, c, d, v, m) k = k (lowC (lowP v) (lowP m) (tidyB (cutB' (a, b, c, d, v, m)))) := by
  simp only [F_clevisref08Low, N_clevisref08Low, h, br_f, upto_eq, rTidy_eq, rsize4, eta6']
  rw [rlow7]
  simp only [cut_eq' a b c d v m]
  generalize hx : (opt (tidyB (cutB' (a, b, c, d, v, m))) ((0, 0, 0, 0, 0, 0), false) fun c => (c, true)) = x
  exact rlow_tail k (a, b, c, d, v, m) x hx.symm
theorem rLow_eq {R : Type} (x : Bd) (k : Bd → Option R) : F_clevisref08Low R x k = k (lowB x) := by
  obtain ⟨a, b, c, d, v, m⟩ := x
  cases h : W.le b 4294967295 with
  | true =>
    rw [low_small (W.le_t.1 h)]
    simp only [F_clevisref08Low, N_clevisref08Low, h, br_t]
  | false => rw [rLow_b a b c d v m k h, low_big (fun e => by rw [W.le_t.2 e] at h; cases h)]
theorem moves_pure (a : PTs.D ps_clevislaw08BoundMoves) :
    L_clevislaw08BoundMoves F_bound_Tidy F_bound_Meet F_clevislaw08heads F_bound_Join F_bound_Low F_clevisref08Tidy F_clevisref08Meet F_clevisref08Join F_clevisref08Low a = some () := by
  obtain ⟨⟨(a : Int), (b : Int), (c : Int), (d : Int), (v : Int), (m : Int)⟩, ⟨(a' : Int), (b' : Int), (c' : Int), (d' : Int), (v' : Int), (m' : Int)⟩⟩ := a
  have hb : ∀ b : Bool, W.eqB b b = true := fun b => W.eqB_t.2 rfl
  have c1 := fun k => Low_eq (R := Unit) (a, b, c, d, v, m) k
  have c2 := fun k => rLow_eq (R := Unit) (a, b, c, d, v, m) k
  simp only [L_clevislaw08BoundMoves, Tidy_eq, rTidy_eq, BMeet_eq, rBMeet_eq, Join_eq, rJoin_eq, c1, c2, heads_eq, hb, weq_self]
  rfl
theorem boundMoves_law (x : PTs.D ps_clevislaw08BoundMoves) (hw : WfL ps_clevislaw08BoundMoves x) :
    ∃ (C : Cfg) (fl d : Nat), CfgOk C ∧ C.P = Try.prog ∧ call C fl d 9 (encL false ps_clevislaw08BoundMoves x) [] getL = some () :=
  E_clevislaw08BoundMoves ok_bound_Tidy ok_bound_Meet ok_clevislaw08heads ok_bound_Join ok_bound_Low ok_clevisref08Tidy ok_clevisref08Meet ok_clevisref08Join ok_clevisref08Low x (moves_pure x)
end Go.Proofs.Ytflkcceicgaipaa
