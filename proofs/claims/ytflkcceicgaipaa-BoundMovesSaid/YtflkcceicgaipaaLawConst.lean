import Derived.Test.YtflkcceicgaipaaLawF
import Derived.Test.YtflkcceicgaipaaEnwWords
set_option linter.unusedVariables false
set_option linter.unusedSimpArgs false
set_option maxRecDepth 100000
namespace Go.Proofs.Ytflkcceicgaipaa
open Go Go.Eng

noncomputable def constB (x : Int) : Bd := (x, x, I (B64 x), I (B64 x), x, 0)
noncomputable def anyB : Bd := (0, 18446744073709551615, -9223372036854775808, 9223372036854775807, 0, 18446744073709551615)
theorem Const_eq {R : Type} (x : PTs.D ps_bound_Const) (k : PTs.D qs_bound_Const → Option R) : F_bound_Const R x k = k (constB x) := by
  simp only [F_bound_Const, N_bound_Const, F_tnum_Const, N_tnum_Const, W.wrap_i64, constB]
theorem Any_eq {R : Type} (x : PTs.D ps_bound_Any) (k : PTs.D qs_bound_Any → Option R) : F_bound_Any R x k = k anyB := by
  simp only [F_bound_Any, N_bound_Any, F_tnum_Any, N_tnum_Any, anyB]
theorem Value_eq {R : Type} (x : PTs.D ps_bound_Value) (k : PTs.D qs_bound_Value → Option R) : F_bound_Value R x k = k (if x.1 = x.2.1 then (x.1, true) else (0, false)) := by
  obtain ⟨(a : Int), (b : Int), (c : Int), (d : Int), (v : Int), (m : Int)⟩ := x
  simp only [F_bound_Value, N_bound_Value, br_ite, W.eq_t, apply_ite k]
theorem not0 : ~~~(0#64) = BitVec.allOnes 64 := by decide
theorem and_n0 (v : BitVec 64) : v &&& ~~~(0#64) = v := by rw [not0, BitVec.and_allOnes]
theorem range_one {x : Int} (hx : wfI .u64 x) : rangeT x x = (x, 0) := by
  have h : rangeV (B64 x) (B64 x) = 0#64 := by
    unfold rangeV; rw [BitVec.xor_self]; rfl
  unfold rangeT
  rw [h]
  rw [and_n0, U_B64 hx]; rfl
theorem B64_0 : B64 0 = 0#64 := by decide
theorem I_lo' (x : Int) : -9223372036854775808 ≤ I (B64 x) ∧ I (B64 x) < 9223372036854775808 := I_lo _
theorem wmax_self (a : Int) : W.max a a = a := by unfold W.max; split <;> rfl
theorem wmin_self (a : Int) : W.min a a = a := by unfold W.min; split <;> rfl
theorem bits_const {x : Int} (hx : wfI .u64 x) : bitsB (constB x) = constB x := by
  simp only [constB]
  rw [bitsB_eq, B64_0]
  have h1 : B64 x ||| 0#64 = B64 x := by simp
  have h2 : (0#64 : BitVec 64) &&& top = 0#64 := by simp
  have h3 : (0#64 : BitVec 64) &&& ~~~top = 0#64 := by simp
  rw [h2, h3, h1, U_B64 hx, wmax_self, wmin_self, wmax_self, wmin_self]
theorem U_I (x : Int) (hx : wfI .u64 x) : U (B64 (I (B64 x))) = x := by rw [B64_I, U_B64 hx]
theorem signs_const {x : Int} (hx : wfI .u64 x) : signsB (constB x) = constB x := by
  simp only [signsB, constB, U_I x hx, wmax_self, wmin_self]
  repeat' split
  all_goals rfl
theorem empty_const (x : Int) : emptyB (constB x) = false := by simp [emptyB, constB]
theorem meet_one {x v m : Int} (h : meetT v m x 0 = ((x, 0), true)) : True := trivial
theorem round_of {b d : Bd} {x : Int} (hx : wfI .u64 x) (h1 : emptyB (bitsB b) = false) (h2 : signsB (bitsB b) = d) (h3 : d.1 = x) (h4 : d.2.1 = x) (h5 : meetT d.2.2.2.2.1 d.2.2.2.2.2 x 0 = ((x, 0), true)) (h6 : emptyB d = false) (h7 : d.2.2.1 = I (B64 x)) (h8 : d.2.2.2.1 = I (B64 x)) : roundB b = some (constB x) := by
  unfold roundB
  rw [h1, h2]
  simp only [cond_false, h3, h4, range_one hx, h5, h6, h7, h8, Bool.not_false, Bool.and_self, cond_true, constB]
theorem round_const {x : Int} (hx : wfI .u64 x) : roundB (constB x) = some (constB x) := by
  refine round_of hx (by rw [bits_const hx]; exact empty_const x) (by rw [bits_const hx]; exact signs_const hx) rfl rfl ?_ (empty_const x) rfl rfl
  simp only [constB, meetT, B64_0, BitVec.or_self, BitVec.and_self, BitVec.xor_self, and_n0, U_B64 hx, decide_true]
  rfl
theorem tidy_const {x : Int} (hx : wfI .u64 x) : tidyB (constB x) = some (constB x) := by
  unfold tidyB; rw [round_const hx]; exact round_const hx
theorem all_1 : B64 18446744073709551615 = BitVec.allOnes 64 := by decide
noncomputable def oneB (x : Int) : Bd := (x, x, -9223372036854775808, 9223372036854775807, 0, 18446744073709551615)
theorem bits_one {x : Int} (hx : wfI .u64 x) : bitsB (oneB x) = oneB x := by
  simp only [oneB]
  rw [bitsB_eq, B64_0, all_1]
  have h1 : U (0#64 ||| BitVec.allOnes 64) = 18446744073709551615 := by decide
  have h2 : I (0#64 ||| BitVec.allOnes 64 &&& top) = -9223372036854775808 := by decide
  have h3 : I (0#64 ||| BitVec.allOnes 64 &&& ~~~top) = 9223372036854775807 := by decide
  rw [h1, h2, h3, wmax_self, wmin_self]
  have := u64_lo hx
  have e1 : W.max x 0 = x := by unfold W.max; split <;> omega
  have e2 : W.min x 18446744073709551615 = x := by unfold W.min; split <;> omega
  rw [e1, e2]
theorem signs_one {x : Int} (hx : wfI .u64 x) : signsB (oneB x) = (x, x, I (B64 x), I (B64 x), 0, 18446744073709551615) := by
  have h := I_lo' x
  have e1 : W.min 9223372036854775807 (I (B64 x)) = I (B64 x) := by unfold W.min; split <;> omega
  have e2 : W.max (-9223372036854775808) (I (B64 x)) = I (B64 x) := by unfold W.max; split <;> omega
  simp only [signsB, oneB, e1, e2, U_I x hx]
  rw [if_neg (by omega)]
  by_cases hc : I (B64 x) ≥ 0
  · rw [if_pos hc]
  · rw [if_neg hc, if_pos (by omega)]
theorem round_one {x : Int} (hx : wfI .u64 x) : roundB (oneB x) = some (constB x) := by
  refine round_of (d := (x, x, I (B64 x), I (B64 x), 0, 18446744073709551615)) hx (by rw [bits_one hx]; simp [emptyB, oneB]) (by rw [bits_one hx]; exact signs_one hx) rfl rfl ?_ (by simp [emptyB]) rfl rfl
  have e1 : ~~~(BitVec.allOnes 64) = 0#64 := by decide
  have e2 : BitVec.allOnes 64 &&& 0#64 = 0#64 := by decide
  have e3 : 0#64 ||| B64 x = B64 x := by simp
  have e4 : ∀ v : BitVec 64, v &&& 0#64 &&& ~~~0#64 = 0#64 := by intro v; simp
  simp only [meetT, B64_0, all_1, e1, e2, e3, e4, and_n0, U_B64 hx, decide_true]
  rfl
theorem tidy_one {x : Int} (hx : wfI .u64 x) : tidyB (oneB x) = some (constB x) := by
  unfold tidyB; rw [round_one hx]; exact round_const hx
theorem in_const {x y : Int} (hx : wfI .u64 x) (hy : wfI .u64 y) : inP (constB x) y ↔ x = y := by
  simp only [inP, constB, B64_0]
  constructor
  · rintro ⟨⟨h1, h2⟩, _⟩; omega
  · rintro rfl
    refine ⟨⟨Int.le_refl _, Int.le_refl _⟩, ⟨Int.le_refl _, Int.le_refl _⟩, ?_⟩
    rw [and_n0, U_B64 hx]
theorem within_any {x : Int} (hx : wfI .u64 x) : withinP anyB (constB x) := by
  have h := I_lo' x
  have h2 := u64_lo hx
  simp only [withinP, anyB, constB, B64_0, all_1]
  refine ⟨by omega, by omega, by omega, by omega, by decide, ?_⟩
  simp [U]
theorem join_self {x : Int} (hx : wfI .u64 x) : joinB (constB x) (constB x) = constB x := by
  simp only [joinB, constB, wmin_self, wmax_self, B64_0, BitVec.and_self, BitVec.or_self, BitVec.xor_self, and_n0, U_B64 hx]
  rfl
end Go.Proofs.Ytflkcceicgaipaa
