import Derived.Test.YtomdfcjnmogcbaaLawK
set_option linter.unusedVariables false
set_option linter.unusedSimpArgs false
set_option maxHeartbeats 4000000
set_option maxRecDepth 100000
namespace Go.Proofs.Ytomdfcjnmogcbaa
open Go Go.Eng
variable {R : Type}
/-! ### the operations are right about the numbers held (wide) -/
theorem inT_of {a : Bd} {x : Int} (h : inP a x) : inT (B64 a.2.2.2.2.1) (B64 a.2.2.2.2.2) (B64 x) := by
  unfold inT; rw [← B64_U (B64 x &&& ~~~(B64 a.2.2.2.2.2)), h.2.2]
theorem in_zip {p q r s : Int} {t : Int × Int} {v m X : BitVec 64} (h1 : p ≤ U X ∧ U X ≤ q) (h2 : r ≤ I X ∧ I X ≤ s) (h : inT v m X) (e : t = (U v, U m)) : inP (p, q, r, s, t) (U X) := by
  subst e
  refine ⟨h1, ?_, ?_⟩
  · rw [B64_U]; exact h2
  · show U (B64 (U X) &&& ~~~(B64 (U m))) = U v
    rw [B64_U, B64_U]; exact congrArg U h
theorem I_rng (X : BitVec 64) : -9223372036854775808 ≤ I X ∧ I X ≤ 9223372036854775807 := by
  have := i64_lo (wf_I X); omega
theorem U_rng (X : BitVec 64) : 0 ≤ U X ∧ U X ≤ 18446744073709551615 := by have := U_lo X; omega
theorem I_add (X Y : BitVec 64) : I (X + Y) = W.wrap .i64 (I X + I Y) := by
  rw [W.wrap_i64]; show I (X + Y) = I (B64 (W.add (I X) (I Y))); rw [W.B64_add, B64_I, B64_I]
theorem I_sub (X Y : BitVec 64) : I (X - Y) = W.wrap .i64 (I X - I Y) := by
  rw [W.wrap_i64]; show I (X - Y) = I (B64 (W.sub (I X) (I Y))); rw [W.B64_sub, B64_I, B64_I]
theorem U_add (X Y : BitVec 64) : U (X + Y) = (U X + U Y) % 18446744073709551616 := by
  rw [← W.wu64, W.wrap_u64]; show U (X + Y) = U (B64 (W.add (U X) (U Y))); rw [W.B64_add, B64_U, B64_U]
theorem U_sub (X Y : BitVec 64) : U (X - Y) = (U X - U Y) % 18446744073709551616 := by
  rw [← W.wu64, W.wrap_u64]; show U (X - Y) = U (B64 (W.sub (U X) (U Y))); rw [W.B64_sub, B64_U, B64_U]
theorem U_mul (X Y : BitVec 64) : U (X * Y) = (U X * U Y) % 18446744073709551616 := by
  rw [← W.wu64, W.wrap_u64]; show U (X * Y) = U (B64 (W.mul (U X) (U Y))); rw [W.B64_mul, B64_U, B64_U]
open Classical in
theorem in_add {a b : Bd} (wa : wfB a) (wb : wfB b) (ca : chkP a) (cb : chkP b) {X Y : BitVec 64} (ix : inP a (U X)) (iy : inP b (U Y)) : inP (addB a b) (U (X + Y)) := by
  have tx := inT_of ix
  have ty := inT_of iy
  obtain ⟨⟨x1, x2⟩, ⟨x3, x4⟩, _⟩ := ix
  obtain ⟨⟨y1, y2⟩, ⟨y3, y4⟩, _⟩ := iy
  rw [B64_U] at x3 x4 y3 y4 tx ty
  have a1 := u64_lo wa.1
  have b1 := u64_lo wb.1
  have rx := U_rng X
  have ry := U_rng Y
  have r := U_rng (X + Y)
  have q := I_rng (X + Y)
  have qx := I_rng X
  have qy := I_rng Y
  unfold addB
  refine in_zip ?_ ?_ (add_in (bit_ok ca) (bit_ok cb) tx ty) rfl
  · by_cases h : a.2.1 + b.2.1 ≤ 18446744073709551615
    · rw [if_pos h, if_pos h, W.wu64, W.wu64, U_add]; unfold W.add; omega
    · rw [if_neg h, if_neg h]; exact r
  · by_cases h : fitP (a.2.2.1 + b.2.2.1) ∧ fitP (a.2.2.2.1 + b.2.2.2.1)
    · rw [if_pos h, if_pos h, I_add]
      unfold fitP at h
      unfold W.add
      rw [W.wi64_id (by omega) (by omega), W.wi64_id (by omega) (by omega), W.wi64_id (by omega) (by omega)]; omega
    · rw [if_neg h, if_neg h]; exact q
open Classical in
theorem in_sub {a b : Bd} (wa : wfB a) (wb : wfB b) (ca : chkP a) (cb : chkP b) {X Y : BitVec 64} (ix : inP a (U X)) (iy : inP b (U Y)) : inP (diffB a b) (U (X - Y)) := by
  have tx := inT_of ix
  have ty := inT_of iy
  obtain ⟨⟨x1, x2⟩, ⟨x3, x4⟩, _⟩ := ix
  obtain ⟨⟨y1, y2⟩, ⟨y3, y4⟩, _⟩ := iy
  rw [B64_U] at x3 x4 y3 y4 tx ty
  have a1 := u64_lo wa.1
  have b1 := u64_lo wb.1
  have a2 := u64_lo wa.2.1
  have b2 := u64_lo wb.2.1
  have rx := U_rng X
  have ry := U_rng Y
  have r := U_rng (X - Y)
  have q := I_rng (X - Y)
  have qx := I_rng X
  have qy := I_rng Y
  unfold diffB
  refine in_zip ?_ ?_ (sub_in (bit_ok ca) (bit_ok cb) tx ty) rfl
  · by_cases h : b.2.1 ≤ a.1
    · rw [if_pos h, if_pos h, W.wu64, W.wu64, U_sub]; unfold W.sub; omega
    · rw [if_neg h, if_neg h]; exact r
  · by_cases h : fitP (a.2.2.1 - b.2.2.2.1) ∧ fitP (a.2.2.2.1 - b.2.2.1)
    · rw [if_pos h, if_pos h, I_sub]
      unfold fitP at h
      unfold W.sub
      rw [W.wi64_id (by omega) (by omega), W.wi64_id (by omega) (by omega), W.wi64_id (by omega) (by omega)]; omega
    · rw [if_neg h, if_neg h]; exact q
theorem mul_mono {a b c d : Int} (h0 : 0 ≤ a) (h1 : a ≤ c) (h2 : 0 ≤ b) (h3 : b ≤ d) : a * b ≤ c * d := by
  exact Int.le_trans (Int.mul_le_mul_of_nonneg_left h3 h0) (Int.mul_le_mul_of_nonneg_right h1 (by omega))
theorem in_mul {a b : Bd} (wa : wfB a) (wb : wfB b) (ca : chkP a) (cb : chkP b) {X Y : BitVec 64} (ix : inP a (U X)) (iy : inP b (U Y)) : inP (mulB a b) (U (X * Y)) := by
  have tx := inT_of ix
  have ty := inT_of iy
  obtain ⟨⟨x1, x2⟩, _, _⟩ := ix
  obtain ⟨⟨y1, y2⟩, _, _⟩ := iy
  rw [B64_U] at tx ty
  have a1 := u64_lo wa.1
  have b1 := u64_lo wb.1
  have rx := U_rng X
  have ry := U_rng Y
  unfold mulB
  refine in_zip ?_ (I_rng _) (mulV_in (bit_ok ca) (bit_ok cb) tx ty) rfl
  by_cases h : a.2.1 ≤ 4294967295 ∧ b.2.1 ≤ 4294967295
  · rw [if_pos h, if_pos h, W.wu64, W.wu64, U_mul]; unfold W.mul
    have m1 := mul_mono a1.1 x1 b1.1 y1
    have m2 := mul_mono rx.1 x2 ry.1 y2
    have m3 := mul_mono (show (0 : Int) ≤ a.2.1 by omega) h.1 (show (0 : Int) ≤ b.2.1 by omega) h.2
    have m4 := Int.mul_nonneg a1.1 b1.1
    generalize a.1 * b.1 = z1 at *
    generalize a.2.1 * b.2.1 = z2 at *
    generalize U X * U Y = z3 at *
    omega
  · rw [if_neg h, if_neg h]; exact U_rng _
theorem in_upto {x : Int} {X : BitVec 64} (h : U X ≤ x) : inP (uptoB x) (U X) :=
  in_zip (t := (0, 18446744073709551615)) (v := 0#64) (m := BitVec.allOnes 64) ⟨(U_rng X).1, h⟩ (I_rng X) (by unfold inT; simp) (by decide)
theorem in_any {X : BitVec 64} : inP anyB (U X) := in_upto (U_rng X).2
theorem in_and {a b : Bd} {X Y : BitVec 64} (ix : inP a (U X)) (iy : inP b (U Y)) : inP (andB a b) (U (X &&& Y)) := by
  have tx := inT_of ix
  have ty := inT_of iy
  rw [B64_U] at tx ty
  unfold andB
  refine in_zip ⟨(U_rng _).1, ?_⟩ (I_rng _) (v := B64 a.2.2.2.2.1 &&& B64 b.2.2.2.2.1) (m := ((B64 a.2.2.2.2.1 ||| B64 a.2.2.2.2.2) &&& (B64 b.2.2.2.2.1 ||| B64 b.2.2.2.2.2)) &&& ~~~(B64 a.2.2.2.2.1 &&& B64 b.2.2.2.2.1)) ?_ rfl
  · have h1 : (X &&& Y).toNat ≤ X.toNat := by rw [BitVec.toNat_and]; exact Nat.and_le_left
    have h2 : (X &&& Y).toNat ≤ Y.toNat := by rw [BitVec.toNat_and]; exact Nat.and_le_right
    have := ix.1.2
    have := iy.1.2
    unfold W.min U at *
    split <;> omega
  · unfold inT at *; rw [bb] at *; intro i hi
    have h1 := tx i hi
    have h2 := ty i hi
    simp only [BitVec.getLsbD_and, BitVec.getLsbD_or, BitVec.getLsbD_not, decide_eq_true hi, Bool.true_and] at h1 h2 ⊢
    rw [← h1, ← h2]
    cases X.getLsbD i <;> cases Y.getLsbD i <;> cases (B64 a.2.2.2.2.2).getLsbD i <;> cases (B64 b.2.2.2.2.2).getLsbD i <;> rfl
theorem in_or {a b : Bd} {X Y : BitVec 64} (ix : inP a (U X)) (iy : inP b (U Y)) : inP (orB a b) (U (X ||| Y)) := by
  have tx := inT_of ix
  have ty := inT_of iy
  rw [B64_U] at tx ty
  unfold orB
  refine in_zip ⟨?_, (U_rng _).2⟩ (I_rng _) (v := B64 a.2.2.2.2.1 ||| B64 b.2.2.2.2.1) (m := (B64 a.2.2.2.2.2 ||| B64 b.2.2.2.2.2) &&& ~~~(B64 a.2.2.2.2.1 ||| B64 b.2.2.2.2.1)) ?_ rfl
  · have h1 : X.toNat ≤ (X ||| Y).toNat := by rw [BitVec.toNat_or]; exact Nat.left_le_or
    have h2 : Y.toNat ≤ (X ||| Y).toNat := by rw [BitVec.toNat_or]; exact Nat.right_le_or
    have := ix.1.1
    have := iy.1.1
    unfold W.max U at *
    split <;> omega
  · unfold inT at *; rw [bb] at *; intro i hi
    have h1 := tx i hi
    have h2 := ty i hi
    simp only [BitVec.getLsbD_and, BitVec.getLsbD_or, BitVec.getLsbD_not, decide_eq_true hi, Bool.true_and] at h1 h2 ⊢
    rw [← h1, ← h2]
    cases X.getLsbD i <;> cases Y.getLsbD i <;> cases (B64 a.2.2.2.2.2).getLsbD i <;> cases (B64 b.2.2.2.2.2).getLsbD i <;> rfl
theorem in_xor {a b : Bd} {X Y : BitVec 64} (ix : inP a (U X)) (iy : inP b (U Y)) : inP (xorB a b) (U (X ^^^ Y)) := by
  have tx := inT_of ix
  have ty := inT_of iy
  rw [B64_U] at tx ty
  unfold xorB ofB
  refine in_zip (U_rng _) (I_rng _) (v := (B64 a.2.2.2.2.1 ^^^ B64 b.2.2.2.2.1) &&& ~~~(B64 a.2.2.2.2.2 ||| B64 b.2.2.2.2.2)) (m := B64 a.2.2.2.2.2 ||| B64 b.2.2.2.2.2) ?_ rfl
  unfold inT at *; rw [bb] at *; intro i hi
  have h1 := tx i hi
  have h2 := ty i hi
  simp only [BitVec.getLsbD_and, BitVec.getLsbD_or, BitVec.getLsbD_xor, BitVec.getLsbD_not, decide_eq_true hi, Bool.true_and] at h1 h2 ⊢
  rw [← h1, ← h2]
  cases X.getLsbD i <;> cases Y.getLsbD i <;> cases (B64 a.2.2.2.2.2).getLsbD i <;> cases (B64 b.2.2.2.2.2).getLsbD i <;> rfl
end Go.Proofs.Ytomdfcjnmogcbaa

namespace Go.Proofs.Ytomdfcjnmogcbaa
open Go Go.Eng
variable {R : Type}
theorem quo_d {a b : Int} (ha : 0 ≤ a) (hb : 0 ≤ b) : W.quo a b = a / b := by unfold W.quo; rw [Int.tdiv_eq_ediv_of_nonneg ha]
theorem rem_d {a b : Int} (ha : 0 ≤ a) : W.rem a b = a % b := by unfold W.rem; rw [Int.tmod_eq_emod_of_nonneg ha]
theorem in_free {p q z : Int} (hz : p64 z) (h : p ≤ z ∧ z ≤ q) : inP (p, q, -9223372036854775808, 9223372036854775807, 0, 18446744073709551615) z := by
  have e := U_B64 (wfI_q hz)
  rw [← e] at h ⊢
  exact in_zip (t := (0, 18446744073709551615)) (v := 0#64) (m := BitVec.allOnes 64) h (I_rng _) (by unfold inT; simp) (by decide)
theorem in_div {a b : Bd} (wa : wfB a) (wb : wfB b) {x y : Int} (hx : p64 x) (hy : p64 y) (ix : inP a x) (iy : inP b y) : inP (divB a b) (if y = 0 then 0 else W.wrap .u64 (W.quo x y)) := by
  have a1 := u64_lo wa.1
  have a2 := u64_lo wa.2.1
  have b1 := u64_lo wb.1
  have i1 := ix.1
  have i2 := iy.1
  unfold p64 at hx hy
  have hq : 0 ≤ x / y ∧ x / y ≤ x := ⟨Int.ediv_nonneg hx.1 hy.1, Int.ediv_le_self y hx.1⟩
  unfold divB
  split
  · rename_i h
    have e : y = b.1 := by omega
    rw [if_neg (by omega), quo_d hx.1 hy.1, quo_d a1.1 b1.1, quo_d a2.1 b1.1, e]
    rw [e] at hq
    have m1 : a.1 / b.1 ≤ x / b.1 := Int.ediv_le_ediv h.2 i1.1
    have m2 : x / b.1 ≤ a.2.1 / b.1 := Int.ediv_le_ediv h.2 i1.2
    have m3 : 0 ≤ a.1 / b.1 := Int.ediv_nonneg a1.1 b1.1
    have m4 : a.2.1 / b.1 ≤ a.2.1 := Int.ediv_le_self b.1 a2.1
    rw [W.wu64_id (by omega) (by omega), W.wu64_id (by omega) (by omega), W.wu64_id (by omega) (by omega)]
    exact in_free ⟨by omega, by omega⟩ ⟨m1, m2⟩
  · unfold uptoB
    split
    · exact in_free ⟨by omega, by omega⟩ ⟨by omega, by omega⟩
    · rw [quo_d hx.1 hy.1, W.wu64_id (by omega) (by omega)]
      exact in_free ⟨by omega, by omega⟩ ⟨by omega, by omega⟩
theorem in_mod {a b : Bd} (wa : wfB a) (wb : wfB b) {x y : Int} (hx : p64 x) (hy : p64 y) (ix : inP a x) (iy : inP b y) : inP (modB a b) (if y = 0 then x else W.rem x y) := by
  have a2 := u64_lo wa.2.1
  have b1 := u64_lo wb.1
  have b2 := u64_lo wb.2.1
  have i1 := ix.1
  have i2 := iy.1
  unfold p64 at hx hy
  unfold modB uptoB
  rw [rem_d hx.1]
  have h2 : x % y ≤ x := by
    by_cases h : y = 0
    · rw [h, Int.emod_zero]; exact Int.le_refl _
    · by_cases h3 : x < y
      · rw [Int.emod_eq_of_lt hx.1 h3]; exact Int.le_refl _
      · have := Int.emod_lt_of_pos x (show 0 < y by omega); omega
  have h4 : y ≠ 0 → 0 ≤ x % y ∧ x % y < y := fun h => ⟨Int.emod_nonneg x h, Int.emod_lt_of_pos x (by omega)⟩
  split
  · have h := h4 (by omega)
    rw [if_neg (by omega)]
    unfold W.sub
    rw [W.wu64_id (by omega) (by omega)]
    refine in_free ⟨by omega, by omega⟩ ⟨by omega, ?_⟩
    unfold W.min; split <;> omega
  · split
    · exact in_free ⟨by omega, by omega⟩ ⟨by omega, by omega⟩
    · rename_i h; have h := h4 h
      exact in_free ⟨by omega, by omega⟩ ⟨by omega, by omega⟩
theorem inT_shl {v m X : BitVec 64} (t : Nat) (h : inT v m X) : inT (v <<< t) (m <<< t) (X <<< t) := by
  unfold inT at *; rw [bb] at *; intro i hi
  simp only [BitVec.getLsbD_and, BitVec.getLsbD_not, BitVec.getLsbD_shiftLeft, decide_eq_true hi, Bool.true_and]
  by_cases h2 : i < t
  · simp [h2]
  · have := h (i - t) (by omega)
    simp only [BitVec.getLsbD_and, BitVec.getLsbD_not, decide_eq_true (show i - t < 64 by omega), Bool.true_and] at this
    rw [← this]; simp [h2]
theorem inT_shr {v m X : BitVec 64} (t : Nat) (h : inT v m X) : inT (v >>> t) (m >>> t) (X >>> t) := by
  unfold inT at *; rw [bb] at *; intro i hi
  simp only [BitVec.getLsbD_and, BitVec.getLsbD_not, BitVec.getLsbD_ushiftRight, decide_eq_true hi, Bool.true_and]
  by_cases h2 : t + i < 64
  · have := h (t + i) h2
    simp only [BitVec.getLsbD_and, BitVec.getLsbD_not, decide_eq_true h2, Bool.true_and] at this
    exact this
  · rw [BitVec.getLsbD_of_ge v _ (by omega), BitVec.getLsbD_of_ge X _ (by omega)]; rfl
theorem inT_sar {v m X : BitVec 64} (t : Nat) (h : inT v m X) : inT (v.sshiftRight t) (m.sshiftRight t) (X.sshiftRight t) := by
  unfold inT at *; rw [bb] at *; intro i hi
  have hi' : ¬ 64 ≤ i := by omega
  simp only [BitVec.getLsbD_and, BitVec.getLsbD_not, BitVec.getLsbD_sshiftRight, decide_eq_true hi, Bool.true_and]
  by_cases h2 : t + i < 64
  · have := h (t + i) h2
    simp only [BitVec.getLsbD_and, BitVec.getLsbD_not, decide_eq_true h2, Bool.true_and] at this
    simp only [h2, hi', if_true, decide_false, Bool.not_false, Bool.true_and]
    exact this
  · have := h 63 (by omega)
    simp only [BitVec.getLsbD_and, BitVec.getLsbD_not, decide_true, Bool.true_and] at this
    simp only [h2, hi', decide_false, if_false, Bool.not_false, Bool.true_and, BitVec.msb_eq_getLsbD_last]
    exact this
end Go.Proofs.Ytomdfcjnmogcbaa

namespace Go.Proofs.Ytomdfcjnmogcbaa
open Go Go.Eng
variable {R : Type}
theorem shf_mod (op x y : Int) : shf op x y true = shf op x (y % 64) true := by
  have : y % 64 % 64 = y % 64 := by omega
  simp only [shf, sar, cnt, if_true, this]
theorem U_shl (X : BitVec 64) (t : Nat) : U (X <<< t) = (U X * 2 ^ t) % 18446744073709551616 := by
  unfold U
  rw [BitVec.toNat_shiftLeft, Nat.shiftLeft_eq, Int.natCast_emod, Int.natCast_mul]
  simp
theorem U_shr (X : BitVec 64) (t : Nat) : U (X >>> t) = U X / 2 ^ t := by
  unfold U
  rw [BitVec.toNat_ushiftRight, Nat.shiftRight_eq_div_pow, Int.natCast_ediv]
  simp
theorem I_sar (X : BitVec 64) (t : Nat) : I (X.sshiftRight t) = I X / 2 ^ t := by
  unfold I
  rw [BitVec.toInt_sshiftRight, Int.shiftRight_eq_div_pow]
  simp
theorem pow_pos' (n : Nat) : (0 : Int) < 2 ^ n := Int.pow_pos (by omega)
theorem in_lsh {a b : Bd} (wa : wfB a) {X : BitVec 64} {y : Int} (ix : inP a (U X)) (iy : inP b y) : inP (lshB a b) (shf 96 (U X) y true) := by
  have tx := inT_of ix
  have i1 := ix.1
  have i2 := iy.1
  have rx := U_rng X
  have a1 := u64_lo wa.1
  have a2 := u64_lo wa.2.1
  rw [B64_U] at tx
  unfold lshB; split
  · rename_i h
    have e : y = b.1 := by omega
    obtain ⟨n, hn, h64⟩ := sh_nat b.1
    rw [e, shf_mod 96 (U X) b.1, hn, sh96 (v := U X) h64, B64_U]
    refine in_zip ?_ (I_rng _) (inT_shl n tx) (by unfold shI; rw [sh96 h64, sh96 h64])
    have hn2 : ((n : Int)).toNat = n := by omega
    rw [hn2]
    by_cases h3 : a.2.1 * 2 ^ n ≤ 18446744073709551615
    · rw [if_pos h3, if_pos h3, sh96 h64, sh96 h64, U_shl, U_shl, U_shl, U_B64 wa.1, U_B64 wa.2.1]
      have hp := pow_pos' n
      have m1 : a.1 * 2 ^ n ≤ U X * 2 ^ n := Int.mul_le_mul_of_nonneg_right i1.1 (by omega)
      have m2 : U X * 2 ^ n ≤ a.2.1 * 2 ^ n := Int.mul_le_mul_of_nonneg_right i1.2 (by omega)
      have m3 : 0 ≤ a.1 * 2 ^ n := Int.mul_nonneg a1.1 (by omega)
      generalize a.1 * 2 ^ n = z1 at *
      generalize U X * 2 ^ n = z2 at *
      generalize a.2.1 * 2 ^ n = z3 at *
      omega
    · rw [if_neg h3, if_neg h3]; exact U_rng _
  · rw [← U_B64 (wfI_q (shf_p (op := 96) (b := y) (w := true) (show p64 (U X) from U_lo X)))]; exact in_any
theorem in_rsh {a b : Bd} (wa : wfB a) {X : BitVec 64} {y : Int} (ix : inP a (U X)) (iy : inP b y) : inP (rshB a b) (shf 112 (U X) y true) := by
  have tx := inT_of ix
  have i1 := ix.1
  have i2 := iy.1
  have rx := U_rng X
  have a1 := u64_lo wa.1
  have a2 := u64_lo wa.2.1
  rw [B64_U] at tx
  have hX : p64 (U X) := U_lo X
  obtain ⟨m, hm, hm64⟩ := sh_nat y
  rw [shf_mod 112 (U X) y, hm, sh112 hX hm64, B64_U]
  unfold rshB; split
  · rename_i h
    have e : y = b.1 := by omega
    rw [e] at hm
    rw [hm, sh112 (u64_lo wa.1) hm64, sh112 (u64_lo wa.2.1) hm64]
    refine in_zip ?_ (I_rng _) (inT_shr m tx) (by unfold shI; rw [sh112 (u64_lo wa.2.2.2.2.1) hm64, sh112 (u64_lo wa.2.2.2.2.2) hm64])
    rw [U_shr, U_shr, U_shr, U_B64 wa.1, U_B64 wa.2.1]
    exact ⟨Int.ediv_le_ediv (pow_pos' m) i1.1, Int.ediv_le_ediv (pow_pos' m) i1.2⟩
  · refine in_upto ?_
    rw [U_shr]
    have := Int.ediv_le_self (2 ^ m) hX.1
    omega
theorem in_arsh {a b : Bd} {X : BitVec 64} {y : Int} (ix : inP a (U X)) (iy : inP b y) : inP (arshB a b) (shf 192 (U X) y true) := by
  have tx := inT_of ix
  have i1 := ix.2.1
  have i2 := iy.1
  rw [B64_U] at tx i1
  obtain ⟨m, hm, hm64⟩ := sh_nat y
  rw [shf_mod 192 (U X) y, hm, sh192 hm64, B64_U]
  unfold arshB; split
  · rename_i h
    have e : y = b.1 := by omega
    rw [e] at hm
    rw [hm]
    refine in_zip (U_rng _) ?_ (inT_sar m tx) (by unfold shI; rw [sh192 hm64, sh192 hm64])
    have q : ∀ z : Int, W.shr .i64 z (m : Int) = z / 2 ^ m := by
      intro z
      unfold W.shr
      have : min ((m : Int)).toNat IntKind.i64.bits = m := by simp [IntKind.bits]; omega
      rw [this, Int.fdiv_eq_ediv_of_nonneg _ (Int.pow_nonneg (by omega))]
    rw [q, q, I_sar]
    exact ⟨Int.ediv_le_ediv (pow_pos' m) i1.1, Int.ediv_le_ediv (pow_pos' m) i1.2⟩
  · exact in_any
theorem low_t (x : Int) : Eng.low x true = x := rfl
theorem alu_0 (x y : Int) : (alu 0 x y true).1 = U (B64 x + B64 y) := by
  unfold alu
  rw [if_neg (by decide), if_neg (by decide), if_neg (by decide), if_pos rfl]
  show W.wrap .u64 (W.add x y) = _
  rw [W.wrap_u64, W.B64_add]
theorem alu_16 (x y : Int) : (alu 16 x y true).1 = U (B64 x - B64 y) := by
  unfold alu
  rw [if_neg (by decide), if_neg (by decide), if_neg (by decide), if_neg (by decide), if_pos rfl]
  show W.wrap .u64 (W.sub x y) = _
  rw [W.wrap_u64, W.B64_sub]
theorem alu_128 (x y : Int) : (alu 128 x y true).1 = U (B64 0 - B64 x) := by
  unfold alu
  rw [if_neg (by decide), if_neg (by decide), if_neg (by decide), if_neg (by decide), if_neg (by decide), if_neg (by decide), if_neg (by decide), if_neg (by decide), if_neg (by decide), if_pos rfl]
  show W.wrap .u64 (W.sub 0 x) = _
  rw [W.wrap_u64, W.B64_sub]
theorem alu_176 (x y : Int) : (alu 176 x y true).1 = y := by
  unfold alu
  rw [if_neg (by decide), if_neg (by decide), if_neg (by decide), if_neg (by decide), if_neg (by decide), if_neg (by decide), if_neg (by decide), if_neg (by decide), if_neg (by decide), if_neg (by decide), if_pos rfl]
  rfl

theorem alu_32 (x y : Int) : (alu 32 x y true).1 = U (B64 x * B64 y) := by
  unfold alu
  rw [if_neg (by decide), if_neg (by decide), if_neg (by decide), if_neg (by decide), if_neg (by decide), if_pos rfl]
  show W.wrap .u64 (W.mul x y) = _
  rw [W.wrap_u64, W.B64_mul]
theorem alu_48 (x y : Int) : (alu 48 x y true).1 = if y = 0 then 0 else W.wrap .u64 (W.quo x y) := by
  unfold alu
  rw [if_pos rfl]
  show @ite _ (y = 0) _ 0 (W.wrap .u64 (W.quo x y)) = _
  by_cases h : y = 0
  · rw [if_pos h]
  · rw [if_neg h]
theorem alu_144 (x y : Int) : (alu 144 x y true).1 = if y = 0 then x else W.rem x y := by
  unfold alu
  rw [if_neg (by decide), if_pos rfl]
  show @ite _ (y = 0) _ x (W.rem x y) = _
  by_cases h : y = 0
  · rw [if_pos h]
  · rw [if_neg h]
theorem alu_80 (x y : Int) : (alu 80 x y true).1 = U (B64 x &&& B64 y) := by
  unfold alu
  rw [if_neg (by decide), if_neg (by decide), if_neg (by decide), if_neg (by decide), if_neg (by decide), if_neg (by decide), if_neg (by decide), if_pos rfl]
  show W.wrap .u64 (W.and .u64 x y) = _
  rw [W.and_u64, W.wrap_u64, B64_U]
theorem alu_64 (x y : Int) : (alu 64 x y true).1 = U (B64 x ||| B64 y) := by
  unfold alu
  rw [if_neg (by decide), if_neg (by decide), if_neg (by decide), if_neg (by decide), if_neg (by decide), if_neg (by decide), if_pos rfl]
  show W.wrap .u64 (W.or .u64 x y) = _
  rw [W.or_u64, W.wrap_u64, B64_U]
theorem alu_160 (x y : Int) : (alu 160 x y true).1 = U (B64 x ^^^ B64 y) := by
  unfold alu
  rw [if_neg (by decide), if_neg (by decide), if_neg (by decide), if_neg (by decide), if_neg (by decide), if_neg (by decide), if_neg (by decide), if_neg (by decide), if_pos rfl]
  show W.wrap .u64 (W.xor .u64 x y) = _
  rw [W.xor_u64, W.wrap_u64, B64_U]
end Go.Proofs.Ytomdfcjnmogcbaa

namespace Go.Proofs.Ytomdfcjnmogcbaa
open Go Go.Eng
variable {R : Type}
/-- The wide operation on numbers held gives a number held. -/
theorem op_in {op : Int} {a b : Bd} (ho : isA op) (wa : wfB a) (wb : wfB b) (ca : chkP a) (cb : chkP b) {x y : Int} (hx : p64 x) (hy : p64 y) (ix : inP a x) (iy : inP b y) : inP (opB op a b) (alu op x y true).1 := by
  have ex := U_B64 (wfI_q hx)
  have ey := U_B64 (wfI_q hy)
  have ix' : inP a (U (B64 x)) := by rw [ex]; exact ix
  have iy' : inP b (U (B64 y)) := by rw [ey]; exact iy
  rcases ho with h | h | h | h | h | h | h | h | h | h | h | h | h <;> subst h
  · rw [opB_add]
    rw [alu_0]; exact in_add wa wb ca cb ix' iy'
  · rw [opB_sub]
    rw [alu_16]; exact in_sub wa wb ca cb ix' iy'
  · rw [opB_neg]
    have h0 : p64 0 := ⟨by omega, by omega⟩
    have i0 : inP (constB 0) (U (B64 0)) := by rw [U_B64 (wfI_q h0)]; exact (in_const (wfI_q h0) (wfI_q h0)).2 rfl
    rw [alu_128]; exact in_sub (wf_const h0) wa (const_chk (wfI_q h0)) ca i0 ix'
  · rw [opB_mov]
    rw [alu_176]; exact iy
  · rw [opB_mul]
    rw [alu_32]; exact in_mul wa wb ca cb ix' iy'
  · rw [opB_div]
    rw [alu_48]; exact in_div wa wb hx hy ix iy
  · rw [opB_mod]
    rw [alu_144]; exact in_mod wa wb hx hy ix iy
  · rw [opB_and]
    rw [alu_80]; exact in_and ix' iy'
  · rw [opB_or]
    rw [alu_64]; exact in_or ix' iy'
  · rw [opB_xor]
    rw [alu_160]; exact in_xor ix' iy'
  · rw [opB_lsh, alu_sh (.inl rfl), ← ex]; exact in_lsh wa ix' iy
  · rw [opB_rsh, alu_sh (.inr (.inl rfl)), ← ex]; exact in_rsh wa ix' iy
  · rw [opB_arsh, alu_sh (.inr (.inr rfl)), ← ex]; exact in_arsh ix' iy
end Go.Proofs.Ytomdfcjnmogcbaa

namespace Go.Proofs.Ytomdfcjnmogcbaa
open Go Go.Eng
variable {R : Type}
theorem tidy9_in {b : Bd} (h : okB b) {x : Int} (hx : p64 x) (ix : inP b x) : inP (tidy9 b) x := by
  unfold tidy9
  cases e : tidyB b with
  | none => exact absurd ix (tidy_none h.1 h.2 e (wfI_q hx))
  | some c => exact ((tidy_some h.1 h.2 e).2.2 (wfI_q hx)).2 ix
/-- The wide answer holds what the operation gives. -/
theorem wide_in {op : Int} {a b : Bd} (ho : isA op) (wa : wfB a) (wb : wfB b) (ca : chkP a) (cb : chkP b) {x y : Int} (hx : p64 x) (hy : p64 y) (ix : inP a x) (iy : inP b y) (hz : p64 (alu op x y true).1) : inP (tidy9 (opB op a b)) (alu op x y true).1 :=
  tidy9_in (op_ok ho wa wb ca cb) hz (op_in ho wa wb ca cb hx hy ix iy)
end Go.Proofs.Ytomdfcjnmogcbaa

namespace Go.Proofs.Ytomdfcjnmogcbaa
open Go Go.Eng
variable {R : Type}
theorem wu32' (z : Int) : W.wrap .u32 z = z % 4294967296 := by simp [W.wrap, IntKind.wrap, IntKind.bits, IntKind.signed]
theorem low_in' {b : Bd} (hw : wfB b) (hc : chkP b) {x : Int} (hx : p64 x) (h : inP b x) : inP (lowB b) (x % 4294967296) := by
  have := (low_in hw hc (wfI_q hx) h).1
  rw [← u32_bits, wu32'] at this
  exact this
theorem aluw_0 (x y : Int) (w : Bool) : (alu 0 x y w).1 = Eng.low (W.wrap .u64 (W.add (Eng.low x w) (Eng.low y w))) w := by
  unfold alu; rw [if_neg (by decide), if_neg (by decide), if_neg (by decide), if_pos rfl]
theorem aluw_16 (x y : Int) (w : Bool) : (alu 16 x y w).1 = Eng.low (W.wrap .u64 (W.sub (Eng.low x w) (Eng.low y w))) w := by
  unfold alu; rw [if_neg (by decide), if_neg (by decide), if_neg (by decide), if_neg (by decide), if_pos rfl]
theorem aluw_32 (x y : Int) (w : Bool) : (alu 32 x y w).1 = Eng.low (W.wrap .u64 (W.mul (Eng.low x w) (Eng.low y w))) w := by
  unfold alu; rw [if_neg (by decide), if_neg (by decide), if_neg (by decide), if_neg (by decide), if_neg (by decide), if_pos rfl]
theorem aluw_64 (x y : Int) (w : Bool) : (alu 64 x y w).1 = Eng.low (W.wrap .u64 (W.or .u64 (Eng.low x w) (Eng.low y w))) w := by
  unfold alu; rw [if_neg (by decide), if_neg (by decide), if_neg (by decide), if_neg (by decide), if_neg (by decide), if_neg (by decide), if_pos rfl]
theorem aluw_80 (x y : Int) (w : Bool) : (alu 80 x y w).1 = Eng.low (W.wrap .u64 (W.and .u64 (Eng.low x w) (Eng.low y w))) w := by
  unfold alu; rw [if_neg (by decide), if_neg (by decide), if_neg (by decide), if_neg (by decide), if_neg (by decide), if_neg (by decide), if_neg (by decide), if_pos rfl]
theorem aluw_160 (x y : Int) (w : Bool) : (alu 160 x y w).1 = Eng.low (W.wrap .u64 (W.xor .u64 (Eng.low x w) (Eng.low y w))) w := by
  unfold alu; rw [if_neg (by decide), if_neg (by decide), if_neg (by decide), if_neg (by decide), if_neg (by decide), if_neg (by decide), if_neg (by decide), if_neg (by decide), if_pos rfl]
theorem aluw_128 (x y : Int) (w : Bool) : (alu 128 x y w).1 = Eng.low (W.wrap .u64 (W.sub 0 (Eng.low x w))) w := by
  unfold alu; rw [if_neg (by decide), if_neg (by decide), if_neg (by decide), if_neg (by decide), if_neg (by decide), if_neg (by decide), if_neg (by decide), if_neg (by decide), if_neg (by decide), if_pos rfl]
theorem aluw_176 (x y : Int) (w : Bool) : (alu 176 x y w).1 = Eng.low (Eng.low y w) w := by
  unfold alu; rw [if_neg (by decide), if_neg (by decide), if_neg (by decide), if_neg (by decide), if_neg (by decide), if_neg (by decide), if_neg (by decide), if_neg (by decide), if_neg (by decide), if_neg (by decide), if_pos rfl]
theorem low_f (x : Int) : Eng.low x false = x % 4294967296 := by unfold Eng.low; rfl
theorem low_tt (x : Int) : Eng.low x true = x := rfl
end Go.Proofs.Ytomdfcjnmogcbaa

namespace Go.Proofs.Ytomdfcjnmogcbaa
open Go Go.Eng
variable {R : Type}
theorem aluw_48 (x y : Int) (w : Bool) : (alu 48 x y w).1 = if Eng.low y w = 0 then 0 else W.wrap .u64 (W.quo (Eng.low x w) (Eng.low y w)) := by
  unfold alu; rw [if_pos rfl]
theorem aluw_144 (x y : Int) (w : Bool) : (alu 144 x y w).1 = if Eng.low y w = 0 then Eng.low x w else W.rem (Eng.low x w) (Eng.low y w) := by
  unfold alu; rw [if_neg (by decide), if_pos rfl]
/-- A narrow operation, but a shift, is the wide one of the low halves, cut. -/
theorem nar_alu {op : Int} (ho : isA op) (hs : ¬ shrun op) (x y : Int) : (alu op x y false).1 = (alu op (x % 4294967296) (y % 4294967296) true).1 % 4294967296 := by
  have hx : 0 ≤ x % 4294967296 ∧ x % 4294967296 < 4294967296 := by omega
  have hy : 0 ≤ y % 4294967296 ∧ y % 4294967296 < 4294967296 := by omega
  unfold shrun at hs
  rcases ho with h | h | h | h | h | h | h | h | h | h | h | h | h <;> subst h
  · rw [aluw_0, aluw_0]; simp only [low_f, low_tt]
  · rw [aluw_16, aluw_16]; simp only [low_f, low_tt]
  · rw [aluw_128, aluw_128]; simp only [low_f, low_tt]
  · rw [aluw_176, aluw_176]; simp only [low_f, low_tt]
  · rw [aluw_32, aluw_32]; simp only [low_f, low_tt]
  · rw [aluw_48, alu_48]; simp only [low_f]
    generalize x % 4294967296 = p at *
    generalize y % 4294967296 = q at *
    by_cases h : q = 0
    · rw [if_pos h]; rfl
    · have := quo_le hx.1 hy.1
      rw [if_neg h, W.wu64_id (by omega) (by omega)]; omega
  · rw [aluw_144, alu_144]; simp only [low_f]
    generalize x % 4294967296 = p at *
    generalize y % 4294967296 = q at *
    by_cases h : q = 0
    · rw [if_pos h]; omega
    · rw [if_neg h, rem_d hx.1]
      have h1 := Int.emod_nonneg p h
      have h2 := Int.emod_lt_of_pos p (show 0 < q by omega)
      omega
  · rw [aluw_80, aluw_80]; simp only [low_f, low_tt]
  · rw [aluw_64, aluw_64]; simp only [low_f, low_tt]
  · rw [aluw_160, aluw_160]; simp only [low_f, low_tt]
  · exact absurd (.inl rfl) hs
  · exact absurd (.inr (.inl rfl)) hs
  · exact absurd (.inr (.inr rfl)) hs
theorem alu_p' {op : Int} (x y : Int) (hx : p64 x) (hy : p64 y) (w : Bool) : p64 (alu op x y w).1 := alu_p hx hy
end Go.Proofs.Ytomdfcjnmogcbaa

namespace Go.Proofs.Ytomdfcjnmogcbaa
open Go Go.Eng
variable {R : Type}
theorem in_whole {z : Int} (h : 0 ≤ z ∧ z < 4294967296) : inP wholeB z := by
  have hz : p64 z := ⟨by omega, by omega⟩
  have e := U_B64 (wfI_q hz)
  have hI : I (B64 z) = z := by
    have : W.wrap .i64 z = z := W.wi64_id (by omega) (by omega)
    rw [W.wrap_i64] at this; exact this
  refine ⟨⟨h.1, by unfold wholeB; simp only; omega⟩, ⟨?_, ?_⟩, ?_⟩
  · rw [hI]; exact h.1
  · rw [hI]; unfold wholeB; simp only; omega
  · show U (B64 z &&& ~~~(B64 4294967295)) = 0
    have h2 : B64 z &&& M32 = B64 z := by
      rw [← U_inj, ← u32_bits, wu32', e]; omega
    have e2 : B64 4294967295 = M32 := by decide
    rw [e2, ← h2]
    have : B64 z &&& M32 &&& ~~~M32 = 0#64 := by
      rw [bb]; intro i hi
      simp only [BitVec.getLsbD_and, BitVec.getLsbD_not, BitVec.getLsbD_zero, decide_eq_true hi, Bool.true_and]
      cases M32.getLsbD i <;> simp
    rw [this]; rfl
theorem mod32 {z : Int} (h : 0 ≤ z ∧ z < 4294967296) : z % 4294967296 = z := by omega
/-- What a narrow shift gives. -/
theorem alu_shf (op x y : Int) (ho : op = 96 ∨ op = 112 ∨ op = 192) : (alu op x y false).1 = shf op (x % 4294967296) (y % 4294967296) false % 4294967296 := by
  unfold alu
  rw [if_neg (by omega), if_neg (by omega), if_pos ho]; simp only [low_f]
theorem shf_32 (op x y : Int) (ho : op = 96 ∨ op = 112) : shf op x y false = shf op x (y % 32) true := by
  have h : y % 32 % 64 = y % 32 := by omega
  rcases ho with e | e <;> subst e <;> simp only [shf, cnt, if_true, h] <;> rfl
theorem shf_192 {x y : Int} (h0 : 0 ≤ x) (h1 : x ≤ 2147483647) : shf 192 x y false = shf 112 x (y % 32) true := by
  obtain ⟨n, hn, h32⟩ : ∃ n : Nat, y % 32 = (n : Int) ∧ n < 32 := ⟨(y % 32).toNat, by omega, by omega⟩
  have h : y % 32 % 64 = y % 32 := by omega
  simp only [shf, sar, cnt, if_true, h, if_neg (show ¬ (192 : Int) = 96 by decide), if_neg (show ¬ (192 : Int) = 112 by decide), if_neg (show ¬ (112 : Int) = 96 by decide), Bool.false_eq_true, if_false, hn]
  have hn6 : (n : Int) % 64 = n := by omega
  rw [hn6, shr_u (by omega), wu32' x, mod32 ⟨h0, by omega⟩]
  have e1 : W.wrap .i32 x = x := by simp [W.wrap, IntKind.wrap, IntKind.bits, IntKind.signed]; omega
  have e2 : W.shr .i32 x (n : Int) = x / 2 ^ n := by
    unfold W.shr
    have : min ((n : Int)).toNat IntKind.i32.bits = n := by simp [IntKind.bits]; omega
    rw [this, Int.fdiv_eq_ediv_of_nonneg _ (Int.pow_nonneg (by omega))]
  have h2 := Int.ediv_le_self (2 ^ n) h0
  have h3 : 0 ≤ x / 2 ^ n := Int.ediv_nonneg h0 (Int.pow_nonneg (by omega))
  rw [e1, e2, wu32', mod32 ⟨h3, by omega⟩, W.wu64_id (by omega) (by omega)]
open Classical in
/-- The narrow answer holds what the narrow operation gives. -/
theorem nar_in {op : Int} {a b : Bd} (ho : isA op) (wa : wfB a) (wb : wfB b) (ca : chkP a) (cb : chkP b) {x y : Int} (hx : p64 x) (hy : p64 y) (ix : inP a x) (iy : inP b y) : inP (nar9 op a b) (alu op x y false).1 := by
  have la := low_wf wa ca
  have lb := low_wf wb cb
  have jx := low_in' wa ca hx ix
  have jy := low_in' wb cb hy iy
  have px : p64 (x % 4294967296) := ⟨by omega, by omega⟩
  have py : p64 (y % 4294967296) := ⟨by omega, by omega⟩
  unfold nar9
  generalize lowB a = A at *
  generalize lowB b = B at *
  by_cases hs : shrun op
  rotate_left
  · rw [if_neg hs, nar_alu ho hs]
    have k := op_ok ho la.1 lb.1 la.2 lb.2
    have t := tidy9_ok k
    have pz : p64 (alu op (x % 4294967296) (y % 4294967296) true).1 := alu_p px py
    exact low_in' t.1 t.2 pz (tidy9_in k pz (op_in ho la.1 lb.1 la.2 lb.2 px py jx jy))
  rw [if_pos hs]
  have hs' : op = 96 ∨ op = 112 ∨ op = 192 := hs
  rw [alu_shf op x y hs']
  generalize hX : x % 4294967296 = X at *
  generalize hY : y % 4294967296 = Y at *
  have hX2 : 0 ≤ X ∧ X < 4294967296 := by omega
  by_cases hw : (op ≠ 112 ∧ ¬ B.1 = B.2.1) ∨ (op = 192 ∧ 2147483647 < A.2.1)
  · rw [if_pos hw]; exact in_whole ⟨by omega, by omega⟩
  rw [if_neg hw]
  have i1 := jx.1
  have i2 := jy.1
  have ho2 : isA (if op = 192 then 112 else op) := by split; exact isA_112; exact ho
  have ho3 : (if op = 192 then 112 else op) = 96 ∨ (if op = 192 then 112 else op) = 112 ∨ (if op = 192 then 112 else op) = 192 := by split <;> omega
  have wc : wfB (cntB B) ∧ chkP (cntB B) := by
    refine ⟨wf_cnt lb.1, ?_⟩
    unfold cntB; split
    · have := u64_lo lb.1.1
      exact const_chk (wfI_q ⟨by omega, by omega⟩)
    · exact lb.2
  have k := op_ok ho2 la.1 wc.1 la.2 wc.2
  have t := tidy9_ok k
  have pY : p64 (Y % 32) := ⟨by omega, by omega⟩
  have ev : shf op X Y false = shf (if op = 192 then 112 else op) X (Y % 32) true := by
    by_cases h : op = 192
    · rw [if_pos h, h]; exact shf_192 hX2.1 (by omega)
    · rw [if_neg h]; exact shf_32 op X Y (by omega)
  rw [ev]
  have pz : p64 (shf (if op = 192 then 112 else op) X (Y % 32) true) := shf_p px
  refine low_in' t.1 t.2 pz (tidy9_in k pz ?_)
  by_cases hc : B.1 = B.2.1
  · have e : Y = B.1 := by omega
    have ic : inP (cntB B) (Y % 32) := by
      unfold cntB; rw [if_pos hc, ← e]; exact (in_const (wfI_q pY) (wfI_q pY)).2 rfl
    have := op_in ho2 la.1 wc.1 la.2 wc.2 px pY jx ic
    rw [alu_sh ho3] at this
    exact this
  · have e : op = 112 := by omega
    have en : ¬ op = 192 := by omega
    rw [if_neg en, e, opB_rsh]
    have ec : cntB B = B := by unfold cntB; rw [if_neg hc]
    rw [ec]
    unfold rshB; rw [if_neg hc]
    obtain ⟨n, hn, h64⟩ : ∃ n : Nat, Y % 32 = (n : Int) ∧ n < 64 := ⟨(Y % 32).toNat, by omega, by omega⟩
    rw [hn, sh112 px h64]
    refine in_upto ?_
    rw [U_shr, U_B64 (wfI_q px)]
    have := Int.ediv_le_self (2 ^ n) px.1
    omega
end Go.Proofs.Ytomdfcjnmogcbaa

namespace Go.Proofs.Ytomdfcjnmogcbaa
open Go Go.Eng
variable {R : Type}
/-! ### what holds one number alone is tidied to it -/
theorem signs_one_in {b : Bd} {x : Int} (hw : wfB b) (hx : p64 x) (e1 : b.1 = x) (e2 : b.2.1 = x) (h : inP (signsB b) x) : (signsB b).1 = x ∧ (signsB b).2.1 = x ∧ (signsB b).2.2.1 = I (B64 x) ∧ (signsB b).2.2.2.1 = I (B64 x) := by
  obtain ⟨a, c, s, t, v, m⟩ := b
  simp only at e1 e2
  subst e1; subst e2
  have wx := wfI_q hx
  obtain ⟨h1, h2, h3, h4, h5, h6⟩ := hw
  unfold signsB at h ⊢
  simp only at h ⊢
  have hI := I_rng (B64 c)
  have hU : U (B64 (I (B64 c))) = c := U_I c wx
  by_cases k1 : s ≥ 0 ∨ t < 0
  · simp only [if_pos k1] at h ⊢
    have i1 := h.1; simp only at i1
    have a1 : W.max c (U (B64 s)) = c := by unfold W.max at i1 ⊢; split at i1 <;> omega
    have a2 : W.min c (U (B64 t)) = c := by
      have := i1.2
      unfold W.min at this ⊢; split at this <;> omega
    rw [a1, a2]; simp
  simp only [if_neg k1] at h ⊢
  by_cases k2 : I (B64 c) ≥ 0
  · simp only [if_pos k2] at h ⊢
    have i1 := h.2.1; simp only at i1
    have a2 : W.min t (I (B64 c)) = I (B64 c) := by
      have := i1.2
      unfold W.min at this ⊢; split at this <;> omega
    rw [a2, hU]; simp
  simp only [if_neg k2] at h ⊢
  have k3 : I (B64 c) < 0 := by omega
  simp only [if_pos k3] at h ⊢
  have i1 := h.2.1; simp only at i1
  have a2 : W.max s (I (B64 c)) = I (B64 c) := by
    have := i1.1
    unfold W.max at this ⊢; split at this <;> omega
  rw [a2, hU]; simp
theorem round_known {b : Bd} {x : Int} (hw : wfB b) (hc : chkT b) (hx : p64 x) (ix : inP b x) (h : (b.1 = x ∧ b.2.1 = x) ∨ b.2.2.2.2.2 = 0) : roundB b = some (constB x) := by
  have wx := wfI_q hx
  have j1 := (bits_in hw wx).2 ix
  have e1 : (bitsB b).1 = x ∧ (bitsB b).2.1 = x := by
    obtain ⟨a, c, s, t, v, m⟩ := b
    have i1 := j1.1
    have i3 := ix.2.2
    rw [bitsB_eq] at i1 ⊢
    simp only at i1 h i3 ⊢
    rcases h with ⟨h1, h2⟩ | h
    · subst h1; subst h2
      constructor
      · have := i1.1; unfold W.max at this ⊢; split at this <;> omega
      · have := i1.2; unfold W.min at this ⊢; split at this <;> omega
    · subst h
      have e : v = x := by
        rw [B64_0, and_n0, U_B64 wx] at i3; exact i3.symm
      have e2 : U (B64 v ||| B64 0) = x := by
        rw [B64_0, e]
        have : B64 x ||| 0#64 = B64 x := by simp
        rw [this, U_B64 wx]
      rw [e2] at i1 ⊢
      rw [e] at i1 ⊢
      constructor
      · have := i1.1; unfold W.max at this ⊢; split at this <;> omega
      · have := i1.2; unfold W.min at this ⊢; split at this <;> omega
  have he : emptyB (bitsB b) = false := empty_f.2 ⟨by omega, by have := j1.2.1; omega⟩
  have j2 := (signs_in (wf_bits hw) wx (empty_f.1 he)).2 j1
  obtain ⟨d1, d2, d3, d4⟩ := signs_one_in (wf_bits hw) hx e1.1 e1.2 j2
  have hb : (signsB (bitsB b)).2.2.2.2 = b.2.2.2.2 := by rw [signs_bits]; rfl
  have hs := wf_signs (wf_bits hw)
  refine round_of (b := b) (d := signsB (bitsB b)) wx he rfl d1 d2 ?_ (empty_f.2 ⟨by omega, by have := j2.2.1; omega⟩) d3 d4
  have i5 := j2.2.2
  have hcz : B64 (signsB (bitsB b)).2.2.2.2.1 &&& B64 (signsB (bitsB b)).2.2.2.2.2 = 0#64 := by rw [hb]; exact chk_zero hc
  generalize (signsB (bitsB b)).2.2.2.2.1 = v at i5 hcz
  generalize (signsB (bitsB b)).2.2.2.2.2 = m at i5 hcz
  have i6 : B64 x &&& ~~~(B64 m) = B64 v := by rw [← i5, B64_U]
  unfold meetT
  rw [B64_0, ← i6]
  have q1 : (B64 x &&& ~~~(B64 m) ||| B64 x) &&& ~~~(B64 m &&& 0#64) = B64 x := by
    rw [bb]; intro i hi
    simp only [BitVec.getLsbD_and, BitVec.getLsbD_or, BitVec.getLsbD_not, BitVec.getLsbD_zero, decide_eq_true hi, Bool.true_and]
    cases (B64 x).getLsbD i <;> cases (B64 m).getLsbD i <;> rfl
  have q2 : B64 m &&& 0#64 = 0#64 := by simp
  have q3 : (B64 x &&& ~~~(B64 m) ^^^ B64 x) &&& ~~~(B64 m) &&& ~~~(0#64) = 0#64 := by
    rw [bb]; intro i hi
    simp only [BitVec.getLsbD_and, BitVec.getLsbD_xor, BitVec.getLsbD_not, BitVec.getLsbD_zero, decide_eq_true hi, Bool.true_and]
    cases (B64 x).getLsbD i <;> cases (B64 m).getLsbD i <;> rfl
  rw [q1, q2, q3, U_B64 wx]
  exact congrArg (Prod.mk (x, 0)) (decide_eq_true rfl)
theorem tidy_known {b : Bd} {x : Int} (hb : okB b) (hx : p64 x) (ix : inP b x) (h : (b.1 = x ∧ b.2.1 = x) ∨ b.2.2.2.2.2 = 0) : tidyB b = some (constB x) := by
  unfold tidyB
  rw [round_known hb.1 hb.2 hx ix h, Option.bind_some, round_const (wfI_q hx)]
theorem tidy9_known {b : Bd} {x : Int} (hb : okB b) (hx : p64 x) (ix : inP b x) (h : (b.1 = x ∧ b.2.1 = x) ∨ b.2.2.2.2.2 = 0) : tidy9 b = constB x := by
  unfold tidy9; rw [tidy_known hb hx ix h]; rfl
theorem zero_of {s u : BitVec 64} (h : u = 0#64) : U u = 0 := by rw [h]; rfl
theorem addV_k (v v' : BitVec 64) : (addV v 0#64 v' 0#64).2 = 0#64 := by
  unfold addV; simp
theorem subV_k (v v' : BitVec 64) : (subV v 0#64 v' 0#64).2 = 0#64 := by
  unfold subV; simp
theorem mulQ_k (a b : BitVec 64) : ∀ n, mulQ a 0#64 b 0#64 n = (0#64, 0#64) := by
  intro n
  induction n with
  | zero => rfl
  | succ n ih =>
    have e : addV 0#64 0#64 0#64 0#64 = (0#64, 0#64) := by decide
    show mulStep a 0#64 b 0#64 n (mulQ a 0#64 b 0#64 n) = _
    rw [ih]
    unfold mulStep
    have e1 : (0#64 : BitVec 64) <<< n = 0#64 := by simp
    simp [e, e1]
theorem mulV_k (a b : BitVec 64) : (mulV a 0#64 b 0#64).2 = 0#64 := by
  unfold mulV; rw [mulQ_k]; exact addV_k _ _
theorem low_const {x : Int} (hx : p64 x) : lowB (constB x) = constB (x % 4294967296) := by
  have wx := wfI_q hx
  by_cases h : x ≤ 4294967295
  · have e : x % 4294967296 = x := by have := hx.1; omega
    rw [low_small (show (constB x).2.1 ≤ 4294967295 from h), e]
  · rw [low_big (show ¬ (constB x).2.1 ≤ 4294967295 from h)]
    have hz : p64 (x % 4294967296) := ⟨by omega, by omega⟩
    have e : U (B64 x &&& M32) = x % 4294967296 := by rw [← u32_bits, wu32']
    have e0 : U (B64 0 &&& M32) = 0 := by decide
    have eb : cutB' (constB x) = (0, 4294967295, 0, 4294967295, x % 4294967296, 0) := by
      unfold cutB' constB; simp only; rw [e, e0]
    have wb : okB (cutB' (constB x)) := by
      rw [eb]
      refine ⟨⟨rfl, rfl, rfl, rfl, wfI_q hz, rfl⟩, ?_⟩
      show x % 4294967296 = U (B64 (x % 4294967296) &&& ~~~(B64 0))
      rw [B64_0, and_n0, U_B64 (wfI_q hz)]
    have hi : inP (cutB' (constB x)) (x % 4294967296) := by
      rw [eb]
      refine ⟨⟨hz.1, ?_⟩, ⟨?_, ?_⟩, ?_⟩
      · simp only; omega
      · rw [I_of_u (wfI_q hz)]; simp only; split <;> omega
      · rw [I_of_u (wfI_q hz)]; simp only; split <;> omega
      · simp only; rw [B64_0, and_n0, U_B64 (wfI_q hz)]
    have t := tidy_known wb hz hi (.inr (by rw [eb]))
    rw [t]
    unfold lowC
    simp only
    rw [if_neg]
    intro h2
    have : lowP (constB x).2.2.2.2.2 = 0 := by unfold lowP constB; simp only; exact e0
    rw [this] at h2
    exact absurd h2.2 (by decide)
theorem I_in (x : Int) : (constB x).2.2.2.2.2 = 0 := rfl
/-- Of known numbers the wide answer is known. -/
theorem op_known {op : Int} {x y : Int} (ho : isA op) (hm : op ≠ 144) (hd : op = 48 → y ≠ 0) (hx : p64 x) (hy : p64 y) : tidy9 (opB op (constB x) (constB y)) = constB (alu op x y true).1 := by
  have wx := wfI_q hx
  have wy := wfI_q hy
  have ix : inP (constB x) x := (in_const wx wx).2 rfl
  have iy : inP (constB y) y := (in_const wy wy).2 rfl
  have wa : wfB (constB x) := wf_const hx
  have wb : wfB (constB y) := wf_const hy
  have k := op_ok ho wa wb (const_chk wx) (const_chk wy)
  have ii := op_in ho wa wb (const_chk wx) (const_chk wy) hx hy ix iy
  have hz : p64 (alu op x y true).1 := alu_p hx hy
  refine tidy9_known k hz ii ?_
  have n0 : ∀ (k : Int), shf 96 0 k true = 0 ∧ shf 112 0 k true = 0 ∧ shf 192 0 k true = 0 := by
    intro k
    obtain ⟨n, hn, h64⟩ := sh_nat k
    rw [shf_mod 96, shf_mod 112, shf_mod 192, hn, sh96 h64, sh112 ⟨by omega, by omega⟩ h64, sh192 h64, B64_0]
    refine ⟨by simp [U], by simp [U], ?_⟩
    have : (0#64 : BitVec 64).sshiftRight n = 0#64 := by
      rw [bb]; intro i hi
      simp [BitVec.getLsbD_sshiftRight]
    rw [this]; rfl
  rcases ho with h | h | h | h | h | h | h | h | h | h | h | h | h <;> subst h
  · right; rw [opB_add]; show U (addV _ (B64 0) _ (B64 0)).2 = 0; rw [B64_0, addV_k]; rfl
  · right; rw [opB_sub]; show U (subV _ (B64 0) _ (B64 0)).2 = 0; rw [B64_0, subV_k]; rfl
  · right; rw [opB_neg]; show U (subV _ (B64 0) _ (B64 0)).2 = 0; rw [B64_0, subV_k]; rfl
  · right; rw [opB_mov]; rfl
  · right; rw [opB_mul]; show U (mulV _ (B64 0) _ (B64 0)).2 = 0; rw [B64_0, mulV_k]; rfl
  · left
    rw [opB_div, alu_48, if_neg (hd rfl)]
    unfold divB
    rw [if_pos ⟨rfl, by have := hd rfl; have := hy.1; show 0 < y; omega⟩]
    exact ⟨rfl, rfl⟩
  · exact absurd rfl hm
  · right; rw [opB_and]; show U (((B64 x ||| B64 0) &&& (B64 y ||| B64 0)) &&& ~~~(B64 x &&& B64 y)) = 0
    rw [B64_0]
    refine zero_of (s := 0#64) ?_
    rw [bb]; intro i hi
    simp only [BitVec.getLsbD_and, BitVec.getLsbD_or, BitVec.getLsbD_not, BitVec.getLsbD_zero, decide_eq_true hi, Bool.true_and]
    cases (B64 x).getLsbD i <;> cases (B64 y).getLsbD i <;> rfl
  · right; rw [opB_or]; show U ((B64 0 ||| B64 0) &&& ~~~(B64 x ||| B64 y)) = 0
    rw [B64_0]
    exact zero_of (s := 0#64) (by simp)
  · right; rw [opB_xor]; show U (B64 0 ||| B64 0) = 0
    rw [B64_0]; rfl
  · right; rw [opB_lsh]; unfold lshB; rw [if_pos (show (constB y).1 = (constB y).2.1 from rfl)]; exact (n0 ((constB y).1 % 64)).1
  · right; rw [opB_rsh]; unfold rshB; rw [if_pos (show (constB y).1 = (constB y).2.1 from rfl)]; exact (n0 ((constB y).1 % 64)).2.1
  · right; rw [opB_arsh]; unfold arshB; rw [if_pos (show (constB y).1 = (constB y).2.1 from rfl)]; exact (n0 ((constB y).1 % 64)).2.2
end Go.Proofs.Ytomdfcjnmogcbaa

namespace Go.Proofs.Ytomdfcjnmogcbaa
open Go Go.Eng
variable {R : Type}
/-! ### what is tidied below 2^63 is tidied again without fail -/
def preB (l h v m : BitVec 64) : Prop := ∀ i, i < 64 → (rangeV l h).getLsbD i = false → m.getLsbD i = false ∧ v.getLsbD i = l.getLsbD i
theorem range_same {l h x : BitVec 64} (h1 : l.toNat ≤ x.toNat) (h2 : x.toNat ≤ h.toNat) {i : Nat} (hi : i < 64) (hr : (rangeV l h).getLsbD i = false) : x.getLsbD i = l.getLsbD i := by
  have := congrArg (fun z => z.getLsbD i) (range_keeps h1 h2)
  simpa only [BitVec.getLsbD_and, BitVec.getLsbD_not, decide_eq_true hi, hr, Bool.not_false, Bool.and_true, Bool.true_and] using this
theorem le_or_l (v m : BitVec 64) : v.toNat ≤ (v ||| m).toNat := by rw [BitVec.toNat_or]; exact Nat.left_le_or
theorem bitsEq {p q : BitVec 64} (h : ∀ i, i < 64 → p.getLsbD i = q.getLsbD i) : p = q := BitVec.eq_of_getLsbD_eq fun i hi => h i hi
noncomputable def loV (l v : BitVec 64) : BitVec 64 := if l.toNat < v.toNat then v else l
noncomputable def hiV (h w : BitVec 64) : BitVec 64 := if w.toNat < h.toNat then w else h
/-- Round on a bound in which nothing is negative. -/
theorem step_ok {l h v m : BitVec 64} (hd : v &&& m = 0#64) (hp : preB l h v m) (a1 : l.toNat ≤ (v ||| m).toNat) (a2 : v.toNat ≤ h.toNat) (lh : l.toNat ≤ h.toNat) :
    (loV l v).toNat ≤ (hiV h (v ||| m)).toNat ∧ ∀ i, i < 64 → (rangeV (loV l v) (hiV h (v ||| m))).getLsbD i = false → m.getLsbD i = false → v.getLsbD i = (loV l v).getLsbD i := by
  have hv := le_or_l v m
  have hle : (loV l v).toNat ≤ (hiV h (v ||| m)).toNat := by
    unfold loV hiV; split <;> split <;> omega
  refine ⟨hle, ?_⟩
  intro i hi hr hm
  by_cases c1 : l.toNat < v.toNat
  · unfold loV; rw [if_pos c1]
  by_cases c2 : (v ||| m).toNat < h.toNat
  · have := range_same hle (Nat.le_refl _) hi hr
    rw [← this]; unfold hiV; rw [if_pos c2, BitVec.getLsbD_or, hm, Bool.or_false]
  · have e1 : loV l v = l := by unfold loV; rw [if_neg c1]
    have e2 : hiV h (v ||| m) = h := by unfold hiV; rw [if_neg c2]
    rw [e1, e2] at hr; rw [e1]
    exact (hp i hi hr).2
/-- What such a round makes. -/
theorem step_out {l h v m L H V M : BitVec 64} (hd : v &&& m = 0#64) (hp : preB l h v m) (eL : L = loV l v) (eH : H = hiV h (v ||| m)) (lh : L.toNat ≤ H.toNat)
    (hc : ∀ i, i < 64 → (rangeV L H).getLsbD i = false → m.getLsbD i = false → v.getLsbD i = L.getLsbD i)
    (eV : V = (v ||| (L &&& ~~~(rangeV L H))) &&& ~~~(m &&& rangeV L H)) (eM : M = m &&& rangeV L H) :
    V &&& M = 0#64 ∧ preB L H V M ∧ L.toNat ≤ (V ||| M).toNat ∧ V.toNat ≤ H.toNat := by
  have dj : ∀ i, i < 64 → m.getLsbD i = true → v.getLsbD i = false := by
    intro i hi hm
    have := congrArg (fun z => z.getLsbD i) hd
    simp only [BitVec.getLsbD_and, BitVec.getLsbD_zero, hm, Bool.and_true] at this
    exact this
  have bV0 : ∀ i, i < 64 → (rangeV L H).getLsbD i = false → V.getLsbD i = L.getLsbD i := by
    intro i hi hr
    rw [eV]
    simp only [BitVec.getLsbD_and, BitVec.getLsbD_or, BitVec.getLsbD_not, decide_eq_true hi, hr, Bool.true_and, Bool.not_false, Bool.and_true, Bool.and_false]
    cases hm : m.getLsbD i with
    | false => rw [hc i hi hr hm]; simp
    | true => rw [dj i hi hm]; simp
  have bV1 : ∀ i, i < 64 → (rangeV L H).getLsbD i = true → V.getLsbD i = v.getLsbD i := by
    intro i hi hr
    rw [eV]
    simp only [BitVec.getLsbD_and, BitVec.getLsbD_or, BitVec.getLsbD_not, decide_eq_true hi, hr, Bool.true_and, Bool.not_true, Bool.and_true, Bool.and_false, Bool.or_false]
    cases hm : m.getLsbD i with
    | false => simp
    | true => rw [dj i hi hm]; simp
  have bM0 : ∀ i, i < 64 → (rangeV L H).getLsbD i = false → M.getLsbD i = false := by
    intro i hi hr; rw [eM, BitVec.getLsbD_and, hr, Bool.and_false]
  have bM1 : ∀ i, i < 64 → (rangeV L H).getLsbD i = true → M.getLsbD i = m.getLsbD i := by
    intro i hi hr; rw [eM, BitVec.getLsbD_and, hr, Bool.and_true]
  have hVM := le_or_l V M
  refine ⟨?_, ?_, ?_⟩
  · apply bitsEq; intro i hi
    rw [BitVec.getLsbD_and, BitVec.getLsbD_zero]
    cases hr : (rangeV L H).getLsbD i with
    | false => rw [bM0 i hi hr, Bool.and_false]
    | true =>
      rw [bM1 i hi hr, bV1 i hi hr]
      cases hm : m.getLsbD i with
      | false => simp
      | true => rw [dj i hi hm]; simp
  · intro i hi hr; exact ⟨bM0 i hi hr, bV0 i hi hr⟩
  by_cases c1 : l.toNat < v.toNat
  · have e1 : L = v := by rw [eL]; unfold loV; rw [if_pos c1]
    have e2 : V = L := by
      apply bitsEq; intro i hi
      cases hr : (rangeV L H).getLsbD i with
      | false => exact bV0 i hi hr
      | true => rw [bV1 i hi hr, e1]
    rw [e2] at hVM ⊢
    exact ⟨hVM, lh⟩
  have e1 : L = l := by rw [eL]; unfold loV; rw [if_neg c1]
  by_cases c2 : (v ||| m).toNat < h.toNat
  · have e3 : H = v ||| m := by rw [eH]; unfold hiV; rw [if_pos c2]
    have e2 : V ||| M = H := by
      apply bitsEq; intro i hi
      rw [BitVec.getLsbD_or]
      cases hr : (rangeV L H).getLsbD i with
      | false => rw [bV0 i hi hr, bM0 i hi hr, Bool.or_false, range_same lh (Nat.le_refl _) hi hr]
      | true => rw [bV1 i hi hr, bM1 i hi hr, e3, BitVec.getLsbD_or]
    rw [e2] at hVM ⊢
    exact ⟨lh, hVM⟩
  · have e3 : H = h := by rw [eH]; unfold hiV; rw [if_neg c2]
    have e4 : V = v := by
      apply bitsEq; intro i hi
      cases hr : (rangeV L H).getLsbD i with
      | false =>
        rw [bV0 i hi hr]
        have hr2 := hr
        rw [e1, e3] at hr2
        rw [e1]; exact (hp i hi hr2).2.symm
      | true => exact bV1 i hi hr
    have e5 : M = m := by
      apply bitsEq; intro i hi
      cases hr : (rangeV L H).getLsbD i with
      | false =>
        rw [bM0 i hi hr]
        have hr2 := hr
        rw [e1, e3] at hr2
        exact (hp i hi hr2).1.symm
      | true => exact bM1 i hi hr
    rw [e4, e5, e1, e3]
    rw [e1, e3] at lh
    exact ⟨by omega, by omega⟩
theorem range_63 {l h : BitVec 64} (h1 : l.toNat < 2 ^ 63) (h2 : h.toNat < 2 ^ 63) : (rangeV l h).getLsbD 63 = false := by
  unfold rangeV
  rw [low_get (by omega)]
  have : (l ^^^ h).toNat < 2 ^ 63 := by rw [BitVec.toNat_xor]; exact Nat.xor_lt_two_pow h1 h2
  have := blen_le this
  exact decide_eq_false (by omega)
theorem bit_63 {v : BitVec 64} (h : v.getLsbD 63 = false) : v.toNat < 2 ^ 63 := by
  have h1 : v.msb = false := by rw [BitVec.msb_eq_getLsbD_last]; exact h
  rw [BitVec.msb_eq_decide] at h1
  simpa using h1
theorem bit_63' {v : BitVec 64} (h : v.toNat < 2 ^ 63) : v.getLsbD 63 = false := by
  have h1 : v.msb = false := by rw [BitVec.msb_eq_decide]; simpa using h
  rw [BitVec.msb_eq_getLsbD_last] at h1; exact h1
theorem I_U {v : BitVec 64} (h : v.toNat < 2 ^ 63) : I v = U v := by
  unfold I U; rw [BitVec.toInt_eq_toNat_cond]; rw [if_pos (by omega)]
structure Pre (l h v m : BitVec 64) : Prop where
  le : l.toNat ≤ h.toNat
  lt : h.toNat < 2 ^ 63
  dj : v &&& m = 0#64
  pre : preB l h v m
noncomputable def mkB (l h v m : BitVec 64) : Bd := (U l, U h, U l, U h, U v, U m)
theorem pre_63 {l h v m : BitVec 64} (p : Pre l h v m) : m.getLsbD 63 = false ∧ v.getLsbD 63 = false := by
  have := p.pre 63 (by omega) (range_63 (by have := p.le; have := p.lt; omega) p.lt)
  refine ⟨this.1, ?_⟩
  rw [this.2]; exact bit_63' (by have := p.le; have := p.lt; omega)
theorem top_get (i : Nat) (hi : i < 64) : top.getLsbD i = decide (i = 63) := by
  have : ∀ i : Fin 64, top.getLsbD i.val = decide (i.val = 63) := by decide
  exact this ⟨i, hi⟩
theorem max_U (l v : BitVec 64) : W.max (U l) (U v) = U (loV l v) := by
  unfold W.max loV U; split <;> split <;> omega
theorem min_U (h w : BitVec 64) : W.min (U h) (U w) = U (hiV h w) := by
  unfold W.min hiV U; split <;> split <;> omega
theorem bits_mk {l h v m : BitVec 64} (p : Pre l h v m) : bitsB (mkB l h v m) = mkB (loV l v) (hiV h (v ||| m)) v m := by
  have ⟨m63, v63⟩ := pre_63 p
  have e1 : m &&& top = 0#64 := by
    apply bitsEq; intro i hi
    rw [BitVec.getLsbD_and, top_get i hi, BitVec.getLsbD_zero]
    by_cases h : i = 63
    · subst h; rw [m63]; rfl
    · rw [decide_eq_false h, Bool.and_false]
  have e2 : m &&& ~~~top = m := by
    apply bitsEq; intro i hi
    rw [BitVec.getLsbD_and, BitVec.getLsbD_not, top_get i hi, decide_eq_true hi]
    by_cases h : i = 63
    · subst h; rw [m63]; rfl
    · rw [decide_eq_false h]; simp
  have o63 : (v ||| m).getLsbD 63 = false := by rw [BitVec.getLsbD_or, m63, v63]; rfl
  unfold mkB
  rw [bitsB_eq, B64_U, B64_U, e1, e2, BitVec.or_zero, I_U (bit_63 v63), I_U (bit_63 o63), max_U, min_U]
theorem lo_lt {l v : BitVec 64} {n : Nat} (h1 : l.toNat < n) (h2 : v.toNat < n) : (loV l v).toNat < n := by unfold loV; split <;> omega
theorem hi_lt {h w : BitVec 64} {n : Nat} (h1 : h.toNat < n) : (hiV h w).toNat < n := by unfold hiV; split <;> omega
theorem signs_mk {L H v m : BitVec 64} (h1 : L.toNat < 2 ^ 63) (h2 : H.toNat < 2 ^ 63) : signsB (mkB L H v m) = mkB L H v m := by
  unfold signsB mkB
  simp only
  have := U_lo L
  rw [if_pos (.inl this.1), B64_U, B64_U, wmax_self, wmin_self, B64_U, B64_U, I_U h1, I_U h2]
/-- A round succeeds. -/
theorem round_pre {l h v m : BitVec 64} (p : Pre l h v m) (a1 : l.toNat ≤ (v ||| m).toNat) (a2 : v.toNat ≤ h.toNat) :
    ∃ L H V M, roundB (mkB l h v m) = some (mkB L H V M) ∧ Pre L H V M ∧ L.toNat ≤ (V ||| M).toNat ∧ V.toNat ≤ H.toNat ∧ H.toNat ≤ h.toNat := by
  have ⟨m63, v63⟩ := pre_63 p
  obtain ⟨s1, s2⟩ := step_ok p.dj p.pre a1 a2 p.le
  have hH : (hiV h (v ||| m)).toNat < 2 ^ 63 := hi_lt p.lt
  have hL : (loV l v).toNat < 2 ^ 63 := by omega
  obtain ⟨o1, o2, o3, o4⟩ := step_out p.dj p.pre rfl rfl s1 s2 rfl rfl
  refine ⟨loV l v, hiV h (v ||| m), _, _, ?_, ⟨s1, hH, o1, o2⟩, o3, o4, ?_⟩
  · unfold roundB
    rw [bits_mk p]
    have he : emptyB (mkB (loV l v) (hiV h (v ||| m)) v m) = false := empty_f.2 ⟨by show U _ ≤ U _; unfold U; omega, by show U _ ≤ U _; unfold U; omega⟩
    rw [he, cond_false]
    simp only
    rw [signs_mk hL hH, he]
    have hm : (v ^^^ (loV l v &&& ~~~(rangeV (loV l v) (hiV h (v ||| m))))) &&& ~~~m &&& ~~~(rangeV (loV l v) (hiV h (v ||| m))) = 0#64 := by
      apply bitsEq; intro i hi
      have q := s2 i hi
      revert q
      generalize rangeV (loV l v) (hiV h (v ||| m)) = r
      generalize loV l v = L
      simp only [BitVec.getLsbD_and, BitVec.getLsbD_xor, BitVec.getLsbD_not, BitVec.getLsbD_zero, decide_eq_true hi, Bool.true_and]
      cases r.getLsbD i <;> cases m.getLsbD i <;> cases v.getLsbD i <;> cases L.getLsbD i <;> simp
    unfold mkB meetT rangeT
    simp only [B64_U]
    rw [decide_eq_true hm]
    rfl
  · unfold hiV; split <;> omega
/-- What a round leaves, if it is below 2^63. -/
theorem round_form {b c : Bd} (hw : wfB b) (hc : chkT b) (h : roundB b = some c) (hl : c.2.1 < 9223372036854775808) : ∃ l h v m, c = mkB l h v m ∧ Pre l h v m := by
  unfold roundB at h
  cases he : emptyB (bitsB b) with
  | true => rw [he] at h; cases h
  | false =>
    rw [he] at h
    simp only [cond_false] at h
    have hbw := wf_bits hw
    have hs := wf_signs hbw
    have hb : (signsB (bitsB b)).2.2.2.2 = b.2.2.2.2 := by rw [signs_bits]; rfl
    have hne := empty_f.1 he
    generalize hde : signsB (bitsB b) = d at h hs hb
    generalize bitsB b = e at hbw hne hde
    cases he2 : emptyB d with
    | true => rw [he2] at h; simp at h
    | false =>
      rw [he2] at h
      obtain ⟨w1, w2, w3, w4, w5, w6⟩ := hs
      have hcz : B64 d.2.2.2.2.1 &&& B64 d.2.2.2.2.2 = 0#64 := by rw [hb]; exact chk_zero hc
      simp only [meetT, Bool.not_false, Bool.and_true] at h
      cases hd : decide ((B64 d.2.2.2.2.1 ^^^ B64 (rangeT d.1 d.2.1).1) &&& ~~~(B64 d.2.2.2.2.2) &&& ~~~(B64 (rangeT d.1 d.2.1).2) = 0#64) with
      | false => rw [hd] at h; cases h
      | true =>
        rw [hd] at h
        simp only [cond_true, Option.some.injEq] at h
        subst h
        simp only at hl
        have he3 := empty_f.1 he2
        have r1 := u64_lo w1; have r2 := u64_lo w2
        have es : d.2.2.1 = d.1 ∧ d.2.2.2.1 = d.2.1 := by
          obtain ⟨a, c, s, t, v, m⟩ := e
          obtain ⟨h1, h2, h3, h4, h5, h6⟩ := hbw
          simp only at h1 h2 h3 h4 hne
          subst hde
          have q1 := u64_lo h1; have q2 := u64_lo h2; have q3 := i64_lo h3; have q4 := i64_lo h4
          unfold signsB at w1 w2 w3 w4 hl r1 r2 he3 ⊢
          by_cases k1 : s ≥ 0 ∨ t < 0
          · simp only [if_pos k1] at w1 w2 w3 w4 hl r1 r2 he3 ⊢
            rw [I_of_u w1, I_of_u w2, if_pos (by omega), if_pos hl]; exact ⟨rfl, rfl⟩
          simp only [if_neg k1] at w1 w2 w3 w4 hl r1 r2 he3 ⊢
          by_cases k2 : I (B64 c) ≥ 0
          · simp only [if_pos k2] at w1 w2 w3 w4 hl r1 r2 he3 ⊢
            rw [U_of_i w4, I_of_u h1]
            have : ¬ W.min t (I (B64 c)) < 0 := by unfold W.min; split <;> omega
            rw [U_of_i w4, if_neg this] at he3 hl
            rw [if_neg this, if_pos (by omega)]; exact ⟨rfl, rfl⟩
          simp only [if_neg k2] at w1 w2 w3 w4 hl r1 r2 he3 ⊢
          rw [I_of_u h2] at k2
          by_cases k3 : I (B64 a) < 0
          · simp only [if_pos k3] at hl
            rw [if_pos hl] at k2; omega
          · simp only [if_neg k3] at hl
            rw [if_pos hl] at k2; omega
        have n1 : ((B64 d.1).toNat : Int) = d.1 := U_B64 w1
        have n2 : ((B64 d.2.1).toNat : Int) = d.2.1 := U_B64 w2
        refine ⟨B64 d.1, B64 d.2.1, (B64 d.2.2.2.2.1 ||| B64 (rangeT d.1 d.2.1).1) &&& ~~~(B64 d.2.2.2.2.2 &&& B64 (rangeT d.1 d.2.1).2), B64 d.2.2.2.2.2 &&& B64 (rangeT d.1 d.2.1).2, ?_, ⟨by omega, by omega, ?_, ?_⟩⟩
        · unfold mkB; rw [es.1, es.2, U_B64 w1, U_B64 w2]
        · generalize (B64 d.2.2.2.2.2 &&& B64 (rangeT d.1 d.2.1).2) = z
          rw [BitVec.and_assoc]
          have : ~~~z &&& z = 0#64 := by apply bitsEq; intro i hi; simp
          rw [this]; simp
        · intro i hi hr
          have e1 : B64 (rangeT d.1 d.2.1).2 = rangeV (B64 d.1) (B64 d.2.1) := by unfold rangeT; rw [B64_U]
          have e2 : B64 (rangeT d.1 d.2.1).1 = B64 d.1 &&& ~~~(rangeV (B64 d.1) (B64 d.2.1)) := by unfold rangeT; rw [B64_U]
          have hq := of_decide_eq_true hd
          rw [e1, e2] at hq ⊢
          have g := congrArg (fun z => z.getLsbD i) hq
          have g2 := congrArg (fun z => z.getLsbD i) hcz
          simp only [BitVec.getLsbD_and, BitVec.getLsbD_or, BitVec.getLsbD_xor, BitVec.getLsbD_not, BitVec.getLsbD_zero, decide_eq_true hi, hr, Bool.true_and, Bool.not_false, Bool.and_true, Bool.and_false] at g g2 ⊢
          refine ⟨trivial, ?_⟩
          revert g g2
          cases (B64 d.2.2.2.2.1).getLsbD i <;> cases (B64 d.2.2.2.2.2).getLsbD i <;> cases (B64 d.1).getLsbD i <;> simp
/-- A round that leaves both halves open changes nothing more. -/
theorem range_all {l h : BitVec 64} (h1 : l.toNat < 2 ^ 63) (h2 : ¬ h.toNat < 2 ^ 63) : rangeV l h = BitVec.allOnes 64 := by
  unfold rangeV
  have : (l ^^^ h).getLsbD 63 = true := by
    rw [BitVec.getLsbD_xor, bit_63' h1]
    cases e : h.getLsbD 63 with
    | true => rfl
    | false => exact absurd (bit_63 e) h2
  have h3 : ¬ blen (l ^^^ h).toNat ≤ 63 := by
    intro h4
    have h5 := blen_lt (l ^^^ h).toNat
    have h6 : (2 : Nat) ^ blen (l ^^^ h).toNat ≤ 2 ^ 63 := Nat.pow_le_pow_right (by omega) h4
    have h8 := bit_63' (v := l ^^^ h) (by omega)
    rw [h8] at this; exact absurd this (by simp)
  have h7 := blen_le (n := (l ^^^ h).toNat) (k := 64) (l ^^^ h).isLt
  rw [show blen (l ^^^ h).toNat = 64 by omega]
  exact low_all
theorem wmax_r (a v : Int) : W.max (W.max a v) v = W.max a v := by unfold W.max; by_cases h : v > a <;> simp [h]
theorem wmin_r (a v : Int) : W.min (W.min a v) v = W.min a v := by unfold W.min; by_cases h : v < a <;> simp [h]
theorem bits_again (b : Bd) : bitsB (bitsB b) = bitsB b := by
  obtain ⟨a, c, s, t, v, m⟩ := b
  rw [bitsB_eq, bitsB_eq, wmax_r, wmax_r, wmin_r, wmin_r]
theorem two_low {b b1 c : Bd} (hw : wfB b) (hc : chkT b) (h1 : roundB b = some b1) (h2 : roundB b1 = some c) (hl : c.2.1 < 9223372036854775808) : b1.2.1 < 9223372036854775808 := by
  refine Classical.byContradiction fun hn => ?_
  have k1 := round_some hw hc h1
  have k2 := round_some k1.1 k1.2.1.2.2 h2
  -- both ends of b1 in the upper half: the next round stays there
  have hup : ¬ (9223372036854775808 ≤ b1.1 ∧ b1.2.2.2.1 < 0) := by
    rintro ⟨u1, u2⟩
    obtain ⟨l, h, v, m, e, p⟩ := round_form k1.1 k1.2.1.2.2 h2 hl
    unfold roundB at h2
    cases he : emptyB (bitsB b1) with
    | true => rw [he] at h2; cases h2
    | false =>
      rw [he] at h2
      simp only [cond_false] at h2
      have e1 : (signsB (bitsB b1)).2.1 < 9223372036854775808 ∧ (signsB (bitsB b1)).1 ≤ (signsB (bitsB b1)).2.1 := by
        generalize signsB (bitsB b1) = d at h2
        cases he2 : emptyB d with
        | true => rw [he2] at h2; simp at h2
        | false =>
          have := empty_f.1 he2
          rw [he2] at h2
          generalize (meetT d.2.2.2.2.1 d.2.2.2.2.2 (rangeT d.1 d.2.1).1 (rangeT d.1 d.2.1).2) = t at h2
          cases ht : t.2 with
          | false => rw [ht] at h2; simp at h2
          | true =>
            rw [ht] at h2
            simp only [Bool.not_false, Bool.and_true, cond_true, Option.some.injEq] at h2
            rw [← h2] at hl
            exact ⟨hl, this.1⟩
      have e2 : 9223372036854775808 ≤ (bitsB b1).1 ∧ (bitsB b1).2.2.2.1 < 0 := by
        obtain ⟨a, c, s, t, v, m⟩ := b1
        rw [bitsB_eq]
        simp only at u1 u2 ⊢
        constructor
        · unfold W.max; split <;> omega
        · unfold W.min; split <;> omega
      generalize bitsB b1 = d at e1 e2
      unfold signsB at e1
      rw [if_pos (.inr e2.2)] at e1
      simp only at e1
      have : d.1 ≤ W.max d.1 (U (B64 d.2.2.1)) := by unfold W.max; split <;> omega
      omega
  have h1' := h1
  unfold roundB at h1
  cases he : emptyB (bitsB b) with
  | true => rw [he] at h1; cases h1
  | false =>
    rw [he] at h1
    simp only [cond_false] at h1
    have hbw := wf_bits hw
    have hs := wf_signs hbw
    have hb : (signsB (bitsB b)).2.2.2.2 = b.2.2.2.2 := by rw [signs_bits]; rfl
    have hne := empty_f.1 he
    have hcz : B64 (bitsB b).2.2.2.2.1 &&& B64 (bitsB b).2.2.2.2.2 = 0#64 := chk_zero hc
    have hcv : chkT (bitsB b) := hc
    by_cases cs : signsB (bitsB b) = bitsB b ∧ (bitsB b).1 < 9223372036854775808 ∧ ¬ (bitsB b).2.1 < 9223372036854775808
    · obtain ⟨c1, c2, c3⟩ := cs
      rw [c1] at h1
      have n1 : ((B64 (bitsB b).1).toNat : Int) = (bitsB b).1 := U_B64 hbw.1
      have n2 : ((B64 (bitsB b).2.1).toNat : Int) = (bitsB b).2.1 := U_B64 hbw.2.1
      have ra := range_all (l := B64 (bitsB b).1) (h := B64 (bitsB b).2.1) (by omega) (by omega)
      have rt : rangeT (bitsB b).1 (bitsB b).2.1 = (0, 18446744073709551615) := by
        unfold rangeT; rw [ra]
        have : ~~~(BitVec.allOnes 64) = 0#64 := by decide
        rw [this, BitVec.and_zero]; rfl
      rw [rt] at h1
      have w5 := hbw.2.2.2.2.1; have w6 := hbw.2.2.2.2.2
      have mt : meetT (bitsB b).2.2.2.2.1 (bitsB b).2.2.2.2.2 0 18446744073709551615 = (((bitsB b).2.2.2.2.1, (bitsB b).2.2.2.2.2), true) := by
        unfold meetT
        rw [B64_0, all_1, BitVec.or_zero, BitVec.and_allOnes, U_B64 w6]
        have e0 : (bitsB b).2.2.2.2.1 = U (B64 (bitsB b).2.2.2.2.1 &&& ~~~(B64 (bitsB b).2.2.2.2.2)) := hcv
        rw [← e0]
        have : ~~~(BitVec.allOnes 64) = 0#64 := by decide
        rw [this, BitVec.and_zero]; rfl
      rw [mt, he] at h1
      simp only [Bool.not_false, Bool.and_true, cond_true, Option.some.injEq] at h1
      have eb : b1 = bitsB b := by rw [← h1]
      have er : roundB b1 = roundB b := by
        rw [eb]; unfold roundB; rw [bits_again]
      rw [er, h1'] at h2
      have : b1 = c := Option.some.inj h2
      rw [this] at hn; exact hn hl
    · apply hup
      generalize bitsB b = e at *
      have q : (signsB e).1 = b1.1 ∧ (signsB e).2.1 = b1.2.1 ∧ (signsB e).2.2.2.1 = b1.2.2.2.1 := by
        generalize signsB e = d at h1
        generalize (meetT d.2.2.2.2.1 d.2.2.2.2.2 (rangeT d.1 d.2.1).1 (rangeT d.1 d.2.1).2) = t at h1
        cases hk : (t.2 && !emptyB d) with
        | false => rw [hk] at h1; cases h1
        | true => rw [hk] at h1; simp only [cond_true, Option.some.injEq] at h1; subst h1; exact ⟨rfl, rfl, rfl⟩
      rw [← q.1, ← q.2.2]
      rw [← q.2.1] at hn
      clear hup h1 h1' h2 k1 k2 q
      obtain ⟨a, c, s, t, v, m⟩ := e
      obtain ⟨g1, g2, g3, g4, g5, g6⟩ := hbw
      obtain ⟨f1, f2, f3, f4, f5, f6⟩ := hs
      simp only at g1 g2 g3 g4 hne
      have q1 := u64_lo g1; have q2 := u64_lo g2; have q3 := i64_lo g3; have q4 := i64_lo g4
      unfold signsB at hn f1 f2 f3 f4 cs ⊢
      by_cases k1 : s ≥ 0 ∨ t < 0
      · simp only [if_pos k1] at hn f1 f2 f3 f4 ⊢
        rw [I_of_u f2, if_neg hn]
        rw [U_of_i g4] at hn f2 ⊢
        rw [U_of_i g3]
        have r2 := u64_lo f2
        have tn : t < 0 := by
          refine Classical.byContradiction fun h => ?_
          rw [if_neg h] at hn
          apply hn; unfold W.min; split <;> omega
        rw [if_pos (by omega)]
        refine ⟨by unfold W.max; split <;> omega, by omega⟩
      simp only [if_neg k1] at hn f1 f2 f3 f4 cs ⊢
      by_cases k2 : I (B64 c) ≥ 0
      · exfalso
        simp only [if_pos k2] at hn f1 f2 f3 f4
        rw [U_of_i f4] at hn
        have := i64_lo f4
        have h0 : ¬ W.min t (I (B64 c)) < 0 := by unfold W.min; split <;> omega
        rw [if_neg h0] at hn; omega
      simp only [if_neg k2] at hn f1 f2 f3 f4 cs ⊢
      by_cases k3 : I (B64 a) < 0
      · simp only [if_pos k3] at hn f1 f2 f3 f4 ⊢
        rw [U_of_i f3]
        have := i64_lo f3
        have h0 : W.max s (I (B64 a)) < 0 := by unfold W.max; split <;> omega
        rw [if_pos h0]
        exact ⟨by omega, by omega⟩
      · simp only [if_neg k3] at hn cs
        rw [I_of_u g1] at k3
        exfalso; apply cs
        refine ⟨trivial, ?_, hn⟩
        split at k3 <;> omega
/-- What is tidied below 2^63 is tidied again. -/
theorem tidy_again {b c : Bd} (hw : wfB b) (hc : chkT b) (h : tidyB b = some c) (hl : c.2.1 < 9223372036854775808) : ∃ d, tidyB c = some d ∧ 0 ≤ d.2.2.1 ∧ d.2.1 ≤ c.2.1 := by
  unfold tidyB at h
  cases h1 : roundB b with
  | none => rw [h1] at h; cases h
  | some b1 =>
    rw [h1] at h
    have h2 : roundB b1 = some c := h
    have k1 := round_some hw hc h1
    have hl1 := two_low hw hc h1 h2 hl
    obtain ⟨l1, g1, v1, m1, e1, p1⟩ := round_form hw hc h1 hl1
    obtain ⟨l, g, v, m, e, p⟩ := round_form k1.1 k1.2.1.2.2 h2 hl
    subst e1; subst e
    have a : l.toNat ≤ (v ||| m).toNat ∧ v.toNat ≤ g.toNat := by
      unfold roundB at h2
      rw [bits_mk p1] at h2
      cases he : emptyB (mkB (loV l1 v1) (hiV g1 (v1 ||| m1)) v1 m1) with
      | true => rw [he] at h2; cases h2
      | false =>
        rw [he] at h2
        have hne := (empty_f.1 he).1
        have hne : (loV l1 v1).toNat ≤ (hiV g1 (v1 ||| m1)).toNat := by
          have : U (loV l1 v1) ≤ U (hiV g1 (v1 ||| m1)) := hne
          unfold U at this; omega
        have hH : (hiV g1 (v1 ||| m1)).toNat < 2 ^ 63 := hi_lt p1.lt
        simp only [cond_false] at h2
        rw [signs_mk (by omega) hH, he] at h2
        unfold mkB meetT rangeT at h2
        simp only [B64_U] at h2
        cases hd : decide ((v1 ^^^ (loV l1 v1 &&& ~~~(rangeV (loV l1 v1) (hiV g1 (v1 ||| m1))))) &&& ~~~m1 &&& ~~~(rangeV (loV l1 v1) (hiV g1 (v1 ||| m1))) = 0#64) with
        | false => rw [hd] at h2; cases h2
        | true =>
          rw [hd] at h2
          simp only [Bool.not_false, Bool.and_true, cond_true, Option.some.injEq, Prod.mk.injEq, U_inj] at h2
          obtain ⟨x1, x2, _, _, x3, x4⟩ := h2
          have hq := of_decide_eq_true hd
          have o := step_out (L := l) (H := g) (V := v) (M := m) p1.dj p1.pre x1.symm x2.symm p.le (by
            intro i hi hr hm
            rw [x1, x2] at hq
            have gq := congrArg (fun z => z.getLsbD i) hq
            simp only [BitVec.getLsbD_and, BitVec.getLsbD_xor, BitVec.getLsbD_not, BitVec.getLsbD_zero, decide_eq_true hi, hr, hm, Bool.true_and, Bool.not_false, Bool.and_true] at gq
            revert gq
            cases v1.getLsbD i <;> cases l.getLsbD i <;> simp) (by rw [x1, x2] at x3; exact x3.symm) (by rw [x1, x2] at x4; exact x4.symm)
          exact ⟨o.2.2.1, o.2.2.2⟩
    obtain ⟨L, H, V, M, r1, pp, a1, a2, hh⟩ := round_pre p a.1 a.2
    obtain ⟨L2, H2, V2, M2, r2, pp2, b1, b2, hh2⟩ := round_pre pp a1 a2
    refine ⟨mkB L2 H2 V2 M2, ?_, (U_lo L2).1, ?_⟩
    · unfold tidyB; rw [r1]; exact r2
    · show U H2 ≤ U g; unfold U; omega
end Go.Proofs.Ytomdfcjnmogcbaa

namespace Go.Proofs.Ytomdfcjnmogcbaa
open Go Go.Eng
variable {R : Type}
open Classical in
theorem alu_is' (op x y : Int) (w : Bool) : (alu op x y w).2 = decide (isA op) := by
  rw [← alu_is]
  unfold alu
  simp only [apply_ite Prod.snd]
open Classical in
theorem alu9_w {op : Int} {a b : Bd} (ho : isA op) (ca : chkP a) (cb : chkP b) (w : Bool) : alu9 op a b w = (tidy9 (if w = true then opB op a b else nar9 op a b), true) := by
  unfold alu9
  rw [if_neg (fun h => h ho), if_neg (fun h => h ⟨ca, cb⟩)]
theorem alu9_t {op : Int} {a b : Bd} (ho : isA op) (ca : chkP a) (cb : chkP b) : (alu9 op a b true).1 = tidy9 (opB op a b) := by
  have := congrArg Prod.fst (alu9_w ho ca cb true)
  rw [if_pos (Eq.refl true)] at this
  exact this
theorem alu9_f {op : Int} {a b : Bd} (ho : isA op) (ca : chkP a) (cb : chkP b) : (alu9 op a b false).1 = tidy9 (nar9 op a b) := by
  have := congrArg Prod.fst (alu9_w ho ca cb false)
  rw [if_neg (by decide)] at this
  exact this
/-- The answer holds what the operation gives. -/
theorem alu9_in {op : Int} {a b : Bd} (ho : isA op) (wa : wfB a) (wb : wfB b) (ca : chkP a) (cb : chkP b) {x y : Int} (hx : p64 x) (hy : p64 y) (ix : inP a x) (iy : inP b y) (w : Bool) : inP (alu9 op a b w).1 (alu op x y w).1 := by
  have hz : p64 (alu op x y w).1 := alu_p hx hy
  cases w with
  | true => rw [alu9_t ho ca cb]; exact wide_in ho wa wb ca cb hx hy ix iy hz
  | false => rw [alu9_f ho ca cb]; exact tidy9_in (ok_of (nar_ok ho wa wb ca cb)) hz (nar_in ho wa wb ca cb hx hy ix iy)
theorem tidy9_const {x : Int} (hx : p64 x) : tidy9 (constB x) = constB x := by
  unfold tidy9; rw [tidy_const (wfI_q hx)]; rfl
theorem m32_p (x : Int) : p64 (x % 4294967296) := ⟨by omega, by omega⟩
open Classical in
theorem nar_known {op : Int} {x y : Int} (ho : isA op) (hm : op ≠ 144) (hr : op ≠ 192) (hd : op = 48 → y % 4294967296 ≠ 0) (hx : p64 x) (hy : p64 y) : nar9 op (constB x) (constB y) = constB (alu op x y false).1 := by
  unfold nar9
  rw [low_const hx, low_const hy]
  by_cases hs : shrun op
  rotate_left
  · rw [if_neg hs, op_known ho hm hd (m32_p x) (m32_p y), low_const (alu_p (m32_p x) (m32_p y)), ← nar_alu ho hs]
  · rw [if_pos hs]
    have h2 : op = 96 ∨ op = 112 := by
      rcases hs with h | h | h
      · exact .inl h
      · exact .inr h
      · exact absurd h hr
    have h3 : op = 96 ∨ op = 112 ∨ op = 192 := hs
    rw [if_neg (show ¬ ((op ≠ 112 ∧ ¬ (constB (y % 4294967296)).1 = (constB (y % 4294967296)).2.1) ∨ (op = 192 ∧ 2147483647 < (constB (x % 4294967296)).2.1)) from fun h => h.elim (fun h => h.2 rfl) (fun h => hr h.1)), if_neg hr]
    have ec : cntB (constB (y % 4294967296)) = constB (y % 4294967296 % 32) := by unfold cntB; rw [if_pos (show (constB (y % 4294967296)).1 = (constB (y % 4294967296)).2.1 from rfl)]; rfl
    have pq : p64 (y % 4294967296 % 32) := ⟨by omega, by omega⟩
    rw [ec, op_known ho hm (fun h => by omega) (m32_p x) pq, low_const (alu_p (m32_p x) pq), alu_shf op x y h3, shf_32 op _ _ h2, alu_sh h3]
theorem once_known {op : Int} {x y : Int} {w : Bool} (ho : isA op) (hx : p64 x) (hy : p64 y) (h : ¬ ((op = 48 ∧ y % 4294967296 = 0) ∨ op = 144 ∨ (op = 48 ∧ y = 0) ∨ (op = 192 ∧ w = false))) : (alu9 op (constB x) (constB y) w).1 = constB (alu op x y w).1 := by
  cases w with
  | true =>
    rw [alu9_t ho (const_chk (wfI_q hx)) (const_chk (wfI_q hy))]
    exact op_known ho (fun e => h (.inr (.inl e))) (fun e e2 => h (.inr (.inr (.inl ⟨e, e2⟩)))) hx hy
  | false =>
    rw [alu9_f ho (const_chk (wfI_q hx)) (const_chk (wfI_q hy)), nar_known ho (fun e => h (.inr (.inl e))) (fun e => h (.inr (.inr (.inr ⟨e, rfl⟩)))) (fun e e2 => h (.inl ⟨e, e2⟩)) hx hy]
    exact tidy9_const (alu_p hx hy)
/-! ### what is not wide is below 2^32 -/
def lowOk (n : Bd) : Prop := ∃ d, tidyB n = some d ∧ d.2.1 ≤ 4294967295 ∧ 0 ≤ d.2.2.1
theorem whole_low : lowOk wholeB := ⟨wholeB, tidy_whole, by unfold wholeB; decide, by unfold wholeB; decide⟩
theorem lowB_low {b : Bd} (hb : okB b) : lowOk (lowB (tidy9 b)) := by
  have t := tidy9_ok hb
  by_cases h1 : (tidy9 b).2.1 ≤ 4294967295
  · rw [low_small h1]
    unfold tidy9 at h1 ⊢
    cases e : tidyB b with
    | none => rw [e] at h1; exact absurd h1 (by show ¬ (18446744073709551615 : Int) ≤ 4294967295; decide)
    | some c =>
      rw [e] at h1
      have h2 : c.2.1 ≤ 4294967295 := h1
      obtain ⟨d, d1, d2, d3⟩ := tidy_again hb.1 hb.2 e (by omega)
      exact ⟨d, d1, by omega, d2⟩
  · rw [low_big h1]
    generalize tidy9 b = c at t h1 ⊢
    have w1 : wfB (cutB' c) := ⟨by rfl, by rfl, by rfl, by rfl, wf_U _, wf_U _⟩
    have c1 : chkT (cutB' c) := by
      unfold cutB'
      have := chk_zero t.2.2.2
      refine chkT_of (t := (U (B64 c.2.2.2.2.1 &&& M32), U (B64 c.2.2.2.2.2 &&& M32))) (v := B64 c.2.2.2.2.1 &&& M32) (m := B64 c.2.2.2.2.2 &&& M32) ?_ rfl rfl
      rw [bb]; intro i hi
      have h2 := congrArg (fun z => z.getLsbD i) this
      simp only [BitVec.getLsbD_and, BitVec.getLsbD_zero] at h2 ⊢
      revert h2
      cases (B64 c.2.2.2.2.1).getLsbD i <;> cases (B64 c.2.2.2.2.2).getLsbD i <;> cases M32.getLsbD i <;> simp
    rcases lowC_cases (lowP c.2.2.2.2.1) (lowP c.2.2.2.2.2) (tidyB (cutB' c)) with e | ⟨x, e1, e2⟩
    · rw [e]; exact whole_low
    · rw [e2]
      have hu : x.2.1 ≤ 4294967295 := tidy_umax w1 c1 e1
      obtain ⟨d, d1, d2, d3⟩ := tidy_again w1 c1 e1 (by omega)
      exact ⟨d, d1, by omega, d2⟩
theorem nar_low {op : Int} {a b : Bd} (ho : isA op) (wa : wfB a) (wb : wfB b) (ca : chkP a) (cb : chkP b) : lowOk (nar9 op a b) := by
  have la := low_wf wa ca
  have lb := low_wf wb cb
  unfold nar9
  split
  · split
    · exact whole_low
    · have hc : wfB (cntB (lowB b)) ∧ chkP (cntB (lowB b)) := by
        refine ⟨wf_cnt lb.1, ?_⟩
        unfold cntB; split
        · have := u64_lo lb.1.1
          exact const_chk (wfI_q ⟨by omega, by omega⟩)
        · exact lb.2
      have ho2 : isA (if op = 192 then 112 else op) := by split; exact isA_112; exact ho
      exact lowB_low (op_ok ho2 la.1 hc.1 la.2 hc.2)
  · exact lowB_low (op_ok ho la.1 lb.1 la.2 lb.2)
theorem alu9_low {op : Int} {a b : Bd} (ho : isA op) (wa : wfB a) (wb : wfB b) (ca : chkP a) (cb : chkP b) : (alu9 op a b false).1.2.1 ≤ 4294967295 ∧ 0 ≤ (alu9 op a b false).1.2.2.1 := by
  rw [alu9_f ho ca cb]
  obtain ⟨d, d1, d2, d3⟩ := nar_low ho wa wb ca cb
  have e : tidy9 (nar9 op a b) = d := by unfold tidy9; rw [d1]; rfl
  rw [e]; exact ⟨d2, d3⟩
end Go.Proofs.Ytomdfcjnmogcbaa

