import Derived.Test.YtflkcceicgaipaaLawLow
import Derived.Test.YtflkcceicgaipaaPureAsks
set_option linter.unusedVariables false
set_option linter.unusedSimpArgs false
set_option maxRecDepth 100000
set_option maxHeartbeats 4000000
namespace Go.Proofs.Ytflkcceicgaipaa
open Go Go.Eng
theorem not_top : ~~~top = B64 9223372036854775807 := by decide
theorem rbits_eq {R : Type} (x : PTs.D ps_clevisref08bits) (k : PTs.D qs_clevisref08bits → Option R) : F_clevisref08bits R x k = k (bitsB x) := by
  obtain ⟨(a : Int), (b : Int), (c : Int), (d : Int), (v : Int), (m : Int)⟩ := x
  rw [bitsB_eq]
  simp only [F_clevisref08bits, N_clevisref08bits, W.wrap_u64, W.wrap_i64, W.or_u64, W.and_u64, B64_U, B64_top, not_top]
theorem rsigns_eq {R : Type} (x : PTs.D ps_clevisref08signs) (k : PTs.D qs_clevisref08signs → Option R) : F_clevisref08signs R x k = k (signsB x) := by
  refine Eq.trans ?_ (signsK_eq x k)
  obtain ⟨(a : Int), (b : Int), (c : Int), (d : Int), (v : Int), (m : Int)⟩ := x
  simp only [F_clevisref08signs, N_clevisref08signs, signsK]
theorem rMeet7_eq {R : Type} (v m v' m' : Int) (k : PTs.D qs_clevisref07Meet → Option R) : F_clevisref07Meet R ((v, m), (v', m')) k = k (meetT v m v' m') := by
  have e : ∀ p q r : BitVec 64, p &&& ~~~(q ||| r) = p &&& ~~~q &&& ~~~r := by
    intro p q r
    apply BitVec.eq_of_getLsbD_eq; intro i hi
    simp only [BitVec.getLsbD_and, BitVec.getLsbD_or, BitVec.getLsbD_not, decide_eq_true hi, Bool.true_and]
    cases p.getLsbD i <;> cases q.getLsbD i <;> cases r.getLsbD i <;> rfl
  simp only [F_clevisref07Meet, N_clevisref07Meet, F_clevisref07of, N_clevisref07of, W.wrap_u64, W.or_u64, W.and_u64, W.xor_u64, W.andNot_u64, B64_U, U_zero, e, meetT]
theorem rJoin_eq {R : Type} (x : PTs.D ps_clevisref08Join) (k : PTs.D qs_clevisref08Join → Option R) : F_clevisref08Join R x k = k (joinB x.1 x.2) := by
  obtain ⟨⟨(a : Int), (b : Int), (c : Int), (d : Int), (v : Int), (m : Int)⟩, ⟨(a' : Int), (b' : Int), (c' : Int), (d' : Int), (v' : Int), (m' : Int)⟩⟩ := x
  simp only [F_clevisref08Join, N_clevisref08Join, F_clevisref07Join, N_clevisref07Join, F_clevisref07of, N_clevisref07of, W.wrap_u64, W.or_u64, W.and_u64, W.xor_u64, W.andNot_u64, B64_U, joinB]
/-- The reference's mask: ones up to the highest place that is set. -/
theorem rrange_loop {R : Type} {fl : Nat} {a : Int} {x : Nat} (hx : x < 2 ^ 64) {y3 y4 : Int} {k : PTs.D qs_clevisref07Range → Option R} : ∀ (m e t : Nat), t + m = blen x →
    P_clevisref07Range_3_0 fl (e + m + 1) R a ((x / 2 ^ t : Nat) : Int) ((2 ^ t - 1 : Nat) : Int) y3 y4 k = k (W.wrap .u64 (W.andNot .u64 a ((2 ^ blen x - 1 : Nat) : Int)), ((2 ^ blen x - 1 : Nat) : Int))
  | 0, e, t, ht => by
    rw [P_clevisref07Range_3_0_s]
    have ht : t = blen x := by omega
    subst ht
    have h0 : x / 2 ^ blen x = 0 := Nat.div_eq_of_lt (blen_lt x)
    have h1 : W.ne ((x / 2 ^ blen x : Nat) : Int) 0 = false := by rw [h0]; rfl
    rw [h1, br_f]
  | m + 1, e, t, ht => by
    rw [P_clevisref07Range_3_0_s]
    have hb : blen x ≤ 64 := blen_le hx
    have h0 : ¬ x < 2 ^ t := fun h => by have := blen_le h; omega
    have h1 : 0 < x / 2 ^ t := Nat.div_pos (by omega) (Nat.two_pow_pos t)
    have h2 : W.ne ((x / 2 ^ t : Nat) : Int) 0 = true := by rw [W.ne_t]; omega
    have h3 : x / 2 ^ t ≤ x := Nat.div_le_self _ _
    have h4 : W.wrap .u64 (W.quo ((x / 2 ^ t : Nat) : Int) 2) = ((x / 2 ^ (t + 1) : Nat) : Int) := by
      have e1 : W.quo ((x / 2 ^ t : Nat) : Int) 2 = ((x / 2 ^ t / 2 : Nat) : Int) := by
        unfold W.quo; rw [Int.tdiv_eq_ediv_of_nonneg (by omega)]; omega
      rw [e1, W.wu64_id (by omega) (by omega), Nat.div_div_eq_div_mul, ← Nat.pow_succ]
    have hp : 2 ^ (t + 1) ≤ 2 ^ 64 := Nat.pow_le_pow_right (by omega) (by omega)
    have hp1 : 1 ≤ 2 ^ t := Nat.one_le_two_pow
    have hps : 2 ^ (t + 1) = 2 ^ t * 2 := Nat.pow_succ ..
    have h5 : W.wrap .u64 (W.add (W.wrap .u64 (W.mul ((2 ^ t - 1 : Nat) : Int) 2)) 1) = ((2 ^ (t + 1) - 1 : Nat) : Int) := by
      unfold W.mul W.add
      rw [W.wu64_id (z := ((2 ^ t - 1 : Nat) : Int) * 2) (by omega) (by omega), W.wu64_id (by omega) (by omega)]
      omega
    rw [h2, br_t, h4, h5]
    exact rrange_loop hx m e (t + 1) (by omega)
theorem low_U {n : Nat} (h : n ≤ 64) : U (low n) = ((2 ^ n - 1 : Nat) : Int) := by
  have hp : 2 ^ n ≤ 2 ^ 64 := Nat.pow_le_pow_right (by omega) h
  have hp1 : 1 ≤ 2 ^ n := Nat.one_le_two_pow
  unfold U low
  rw [BitVec.toNat_ofNat, Nat.mod_eq_of_lt (by omega)]
theorem rRange_eq {R : Type} (a b : Int) (k : PTs.D qs_clevisref07Range → Option R) : F_clevisref07Range R (a, b) k = k (rangeT a b) := by
  simp only [F_clevisref07Range, N_clevisref07Range, W.wrap_u64, W.xor_u64, B64_U]
  have hx := (B64 a ^^^ B64 b).isLt
  have hb : blen (B64 a ^^^ B64 b).toNat ≤ 64 := blen_le hx
  have h := rrange_loop (R := R) (fl := W.big) (a := a) hx (y3 := 0) (y4 := 0) (k := k) (blen (B64 a ^^^ B64 b).toNat) (W.big - (blen (B64 a ^^^ B64 b).toNat + 1)) 0 (by omega)
  rw [show W.big - (blen (B64 a ^^^ B64 b).toNat + 1) + blen (B64 a ^^^ B64 b).toNat + 1 = W.big by unfold W.big; omega] at h
  have e0 : (B64 a ^^^ B64 b).toNat / 2 ^ 0 = (B64 a ^^^ B64 b).toNat := by simp
  have e1 : ((2 ^ 0 - 1 : Nat) : Int) = 0 := rfl
  rw [e0, e1] at h
  refine Eq.trans (show _ = P_clevisref07Range_3_0 W.big W.big R a (((B64 a ^^^ B64 b).toNat : Nat) : Int) 0 0 0 k from rfl) (h.trans ?_)
  rw [← low_U hb, W.andNot_u64, W.wrap_u64, B64_U, B64_U]
  rfl
theorem opt_some' {α β : Type} (a : α) (k0 : β) (k : α → β) : opt (some a) k0 k = k a := Eq.trans (by rfl) (Eq.refl _)
theorem pick_empty (d : Bd) (t : Bool) : W.pick (W.pick (W.not t) true (W.gt d.1 d.2.1)) true (W.gt d.2.2.1 d.2.2.2.1) = !(t && !emptyB d) := by
  rw [Bool.eq_iff_iff]
  simp only [W.picko_t, W.not_t, W.gt_t, emptyB]
  cases t
  · simp
  · simp
theorem pick_empty2 (d : Bd) : W.pick (W.gt d.1 d.2.1) true (W.gt d.2.2.1 d.2.2.2.1) = emptyB d := by
  rw [Bool.eq_iff_iff]
  simp only [W.picko_t, W.gt_t, emptyB]
  simp
theorem eta6' (z : Bd) : (z.1, z.2.1, z.2.2.1, z.2.2.2.1, z.2.2.2.2.1, z.2.2.2.2.2) = z := Eq.trans (by rfl) (Eq.refl _)
/-- One round of the reference's. -/
theorem rround_eq {R : Type} (b : Bd) (k0 : Option R) (k : Bd → Option R) :
    (F_clevisref08bits R (b.1, b.2.1, b.2.2.1, b.2.2.2.1, b.2.2.2.2.1, b.2.2.2.2.2) fun y =>
      br (W.pick (W.gt y.1 y.2.1) true (W.gt y.2.2.1 y.2.2.2.1)) k0
        (F_clevisref08signs R (y.1, y.2.1, y.2.2.1, y.2.2.2.1, y.2.2.2.2.1, y.2.2.2.2.2) fun y =>
          F_clevisref07Range R (y.1, y.2.1) fun y_1 =>
            F_clevisref07Meet R ((y.2.2.2.2.1, y.2.2.2.2.2), y_1.1, y_1.2) fun y_2 =>
              br (W.pick (W.pick (W.not y_2.2) true (W.gt y.1 y.2.1)) true (W.gt y.2.2.1 y.2.2.2.1)) k0 (k (y.1, y.2.1, y.2.2.1, y.2.2.2.1, y_2.1.1, y_2.1.2)))) = opt (roundB b) k0 k := by
  rw [rbits_eq, eta6']
  rw [pick_empty2]
  unfold roundB
  cases he : emptyB (bitsB b) with
  | true => rw [br_t]; rfl
  | false =>
    rw [br_f, rsigns_eq, eta6', cond_false]
    generalize signsB (bitsB b) = d
    rw [rRange_eq, rMeet7_eq, pick_empty]
    simp only
    cases ht : ((meetT d.2.2.2.2.1 d.2.2.2.2.2 (rangeT d.1 d.2.1).1 (rangeT d.1 d.2.1).2).2 && !emptyB d) with
    | true => rw [cond_true, Bool.not_true, br_f]; rfl
    | false => rw [cond_false, Bool.not_false, br_t]; rfl
theorem rTidy_eq {R : Type} (b : PTs.D ps_clevisref08Tidy) (k : PTs.D qs_clevisref08Tidy → Option R) : F_clevisref08Tidy R b k = k (opt (tidyB b) ((0, 0, 0, 0, 0, 0), false) fun c => (c, true)) := by
  obtain ⟨(u : Int), (u' : Int), (c : Int), (d : Int), (v : Int), (m : Int)⟩ := b
  simp only [F_clevisref08Tidy, N_clevisref08Tidy]
  have hbig : W.big = (W.big - 3) + 1 + 1 + 1 := by unfold W.big; omega
  have e1 : W.wrap .i64 (W.add 0 1) = 1 := by decide +kernel
  have e2 : W.wrap .i64 (W.add 1 1) = 2 := by decide +kernel
  have l0 : W.lt 0 2 = true := by decide
  have l1 : W.lt 1 2 = true := by decide
  have l2 : W.lt 2 2 = false := by decide
  have step : ∀ (n : Nat) (y0 : Int) (b : Bd), W.lt y0 2 = true → P_clevisref08Tidy_2_0 F_clevisref08bits F_clevisref08signs F_clevisref07Meet F_clevisref07Range W.big (n + 1) R y0 b.1 b.2.1 b.2.2.1 b.2.2.2.1 b.2.2.2.2.1 b.2.2.2.2.2 0 0 0 0 0 0 k =
      opt (roundB b) (k ((0, 0, 0, 0, 0, 0), false)) fun c => P_clevisref08Tidy_2_0 F_clevisref08bits F_clevisref08signs F_clevisref07Meet F_clevisref07Range W.big n R (W.wrap .i64 (W.add y0 1)) c.1 c.2.1 c.2.2.1 c.2.2.2.1 c.2.2.2.2.1 c.2.2.2.2.2 0 0 0 0 0 0 k := by
    intro n y0 b h
    rw [P_clevisref08Tidy_2_0_s, h, br_t]
    exact rround_eq b _ (fun c => P_clevisref08Tidy_2_0 F_clevisref08bits F_clevisref08signs F_clevisref07Meet F_clevisref07Range W.big n R (W.wrap .i64 (W.add y0 1)) c.1 c.2.1 c.2.2.1 c.2.2.2.1 c.2.2.2.2.1 c.2.2.2.2.2 0 0 0 0 0 0 k)
  have last : ∀ (n : Nat) (b : Bd), P_clevisref08Tidy_2_0 F_clevisref08bits F_clevisref08signs F_clevisref07Meet F_clevisref07Range W.big (n + 1) R 2 b.1 b.2.1 b.2.2.1 b.2.2.2.1 b.2.2.2.2.1 b.2.2.2.2.2 0 0 0 0 0 0 k = k (b, true) := by
    intro n b
    rw [P_clevisref08Tidy_2_0_s, l2, br_f, eta6']
  have h1 := step (W.big - 3 + 1 + 1) 0 (u, u', c, d, v, m) l0
  rw [← hbig] at h1
  refine h1.trans ?_
  unfold tidyB
  cases hr : roundB (u, u', c, d, v, m) with
  | none => rfl
  | some b1 =>
    rw [opt_some', e1, step _ 1 b1 l1]
    show _ = k (opt (roundB b1) _ _)
    cases hr2 : roundB b1 with
    | none => rfl
    | some b2 => rw [opt_some', opt_some', e2, last]
end Go.Proofs.Ytflkcceicgaipaa
