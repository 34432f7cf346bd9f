import Derived.Test.YtflkcceicgaipaaLawC
set_option linter.unusedVariables false
set_option linter.unusedSimpArgs false
set_option maxRecDepth 100000
namespace Go.Proofs.Ytflkcceicgaipaa
open Go Go.Eng

theorem low_sub {n : Nat} (h : n < 64) : B64 (W.shl .u64 1 (n : Int)) - 1#64 = low n := by
  have h1 : W.shl .u64 1 (n : Int) = ((2 ^ n : Nat) : Int) := by
    simp only [W.shl, IntKind.bits, Int.toNat_natCast]
    rw [Nat.min_eq_left (by omega), Int.one_mul]; norm_cast
  have h2 : B64 ((2 ^ n : Nat) : Int) = BitVec.ofNat 64 (2 ^ n) := BitVec.ofInt_natCast ..
  rw [h1, h2]
  have h3 : 2 ^ n < 2 ^ 64 := Nat.pow_lt_pow_right (by omega) h
  have h4 : 0 < 2 ^ n := Nat.two_pow_pos n
  apply BitVec.eq_of_toNat_eq
  simp only [low, BitVec.toNat_sub, BitVec.toNat_ofNat]
  omega
theorem low_all : low 64 = BitVec.allOnes 64 := by decide
theorem Range_eq {R : Type} (x : PTs.D ps_tnum_Range) (k : PTs.D qs_tnum_Range → Option R) :
    F_tnum_Range R (x.1, x.2) k = k (if blen (B64 x.1 ^^^ B64 x.2).toNat = 64 then (0, 18446744073709551615) else (U (B64 x.1 &&& ~~~(rangeV (B64 x.1) (B64 x.2))), U (rangeV (B64 x.1) (B64 x.2)))) := by
  obtain ⟨a, b⟩ := x
  have hl := blen_le (B64 a ^^^ B64 b).isLt
  simp only [F_tnum_Range, N_tnum_Range, W.wrap_u64, W.xor_u64, B64_U]
  rw [show U (B64 a ^^^ B64 b) = (((B64 a ^^^ B64 b).toNat : Nat) : Int) from rfl, Len64_eq (B64 a ^^^ B64 b).isLt]
  by_cases h : blen (B64 a ^^^ B64 b).toNat = 64
  · rw [if_pos h, h]
    simp only [F_tnum_Any, N_tnum_Any, W.eq, br]
    rfl
  · rw [if_neg h]
    have h1 : W.eq ((blen (B64 a ^^^ B64 b).toNat : Nat) : Int) 64 = false := by simp only [W.eq, beq_eq_false_iff_ne, ne_eq]; omega
    have h2 : W.lt ((blen (B64 a ^^^ B64 b).toNat : Nat) : Int) 0 = false := by simp only [W.lt, decide_eq_false_iff_not]; omega
    simp only [h1, h2, br, cond_false, W.B64_sub, B64_U, show B64 1 = 1#64 from rfl, low_sub (show blen (B64 a ^^^ B64 b).toNat < 64 by omega), F_tnum_tidy, N_tnum_tidy, W.wrap_u64, W.andNot_u64]
    rfl
noncomputable def rangeT (a b : Int) : Int × Int := (U (B64 a &&& ~~~(rangeV (B64 a) (B64 b))), U (rangeV (B64 a) (B64 b)))
theorem Range_eq' {R : Type} (a b : Int) (k : PTs.D qs_tnum_Range → Option R) : F_tnum_Range R (a, b) k = k (rangeT a b) := by
  rw [Range_eq (a, b)]
  by_cases h : blen (B64 a ^^^ B64 b).toNat = 64
  · have : rangeV (B64 a) (B64 b) = BitVec.allOnes 64 := by unfold rangeV; rw [h]; exact low_all
    rw [if_pos h, rangeT, this]; simp [U]
  · rw [if_neg h]; rfl
noncomputable def meetT (v m v' m' : Int) : (Int × Int) × Bool :=
  ((U ((B64 v ||| B64 v') &&& ~~~(B64 m &&& B64 m')), U (B64 m &&& B64 m')), decide ((B64 v ^^^ B64 v') &&& ~~~(B64 m) &&& ~~~(B64 m') = 0#64))
theorem U_zero {z : BitVec 64} : W.eq (U z) 0 = decide (z = 0#64) := by
  have : U z = 0 ↔ z = 0#64 := ⟨fun h => by rw [← B64_U z, h]; rfl, fun h => by rw [h]; rfl⟩
  simp only [W.eq]
  rw [Bool.eq_iff_iff]; simp [this]
theorem Meet_eq {R : Type} (v m v' m' : Int) (k : PTs.D qs_tnum_Meet → Option R) : F_tnum_Meet R ((v, m), (v', m')) k = k (meetT v m v' m') := by
  simp only [F_tnum_Meet, N_tnum_Meet, F_tnum_tidy, N_tnum_tidy, W.wrap_u64, W.or_u64, W.and_u64, W.xor_u64, W.andNot_u64, B64_U, U_zero, meetT]
noncomputable def emptyB (b : Bd) : Bool := decide (¬(b.1 ≤ b.2.1 ∧ b.2.2.1 ≤ b.2.2.2.1))
theorem empty_eq {R : Type} (b : Bd) (k : Bool → Option R) : F_bound_empty R b k = k (emptyB b) := by
  obtain ⟨a, b, c, d, v, m⟩ := b
  simp only [F_bound_empty, N_bound_empty]
  exact congrArg k (dec_eq (by simp only [pick_o, W.gt]; simp; omega))
noncomputable def roundB (b : Bd) : Option Bd :=
  bif emptyB (bitsB b) then none else
  let d := signsB (bitsB b)
  let r := rangeT d.1 d.2.1
  let t := meetT d.2.2.2.2.1 d.2.2.2.2.2 r.1 r.2
  bif t.2 && !emptyB d then some (d.1, d.2.1, d.2.2.1, d.2.2.2.1, t.1.1, t.1.2) else none
noncomputable def opt {α β : Type} (o : Option α) (k0 : β) (k : α → β) : β := match o with
  | none => k0
  | some a => k a
theorem roundK_eq {R : Type} (b : Bd) (k0 : Option R) (k : Bd → Option R) : roundK F_bound_empty F_tnum_Meet F_tnum_Range b k0 k = opt (roundB b) k0 k := by
  unfold roundK roundB
  rw [empty_eq]
  cases h : emptyB (bitsB b)
  · simp only [br, cond_false, signsK_eq]
    rw [Range_eq', Meet_eq]
    cases h1 : (meetT (signsB (bitsB b)).2.2.2.2.1 (signsB (bitsB b)).2.2.2.2.2 (rangeT (signsB (bitsB b)).1 (signsB (bitsB b)).2.1).1 (rangeT (signsB (bitsB b)).1 (signsB (bitsB b)).2.1).2).2
    · rfl
    · simp only [W.not, Bool.not_true, Bool.not_false, cond_true, Bool.true_and]
      rw [empty_eq]
      cases emptyB (signsB (bitsB b)) <;> rfl
  · rfl
noncomputable def tidyB (b : Bd) : Option Bd := (roundB b).bind roundB
theorem Tidy_eq {R : Type} (b : PTs.D ps_bound_Tidy) (k : PTs.D qs_bound_Tidy → Option R) : F_bound_Tidy R b k = k (opt (tidyB b) ((0, 0, 0, 0, 0, 0), false) fun c => (c, true)) := by
  unfold F_bound_Tidy N_bound_Tidy tidyB
  rw [roundK_eq]
  cases h : roundB b with
  | none => rfl
  | some c =>
    simp only [opt, Option.bind_some]
    rw [roundK_eq]
    cases roundB c <;> rfl
end Go.Proofs.Ytflkcceicgaipaa
