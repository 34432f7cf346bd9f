import Derived.Test.YtobdjaokdmifiaaPureA
set_option linter.unusedVariables false
set_option linter.unusedSimpArgs false
set_option maxHeartbeats 4000000
set_option maxRecDepth 100000
namespace Go.Proofs.Ytobdjaokdmifiaa
open Go Go.Eng
theorem wrap_p (z : Int) : p64 (W.wrap .u64 z) := by rw [W.wu64]; unfold p64; omega
theorem or_p (a b : Int) : p64 (W.or .u64 a b) := by rw [W.or_u64]; exact U_lo _
theorem and_p (a b : Int) : p64 (W.and .u64 a b) := by rw [W.and_u64]; exact U_lo _
theorem xor_p (a b : Int) : p64 (W.xor .u64 a b) := by rw [W.xor_u64]; exact U_lo _
theorem p0 : p64 0 := by unfold p64; omega
theorem rem_p {a b : Int} (ha : p64 a) (hb : p64 b) : p64 (W.rem a b) := by
  unfold p64 W.rem at *
  have h1 := Int.tmod_nonneg b ha.1
  have h2 : a.tmod b ≤ a := by
    rw [Int.tmod_eq_emod_of_nonneg ha.1]
    rw [Int.emod_def]
    have := Int.mul_nonneg hb.1 (Int.ediv_nonneg ha.1 hb.1)
    omega
  omega
theorem quo_le {a b : Int} (ha : 0 ≤ a) (hb : 0 ≤ b) : 0 ≤ W.quo a b ∧ W.quo a b ≤ a := by
  unfold W.quo
  rw [Int.tdiv_eq_ediv_of_nonneg ha]
  exact ⟨Int.ediv_nonneg ha hb, Int.ediv_le_self b ha⟩
theorem fdiv_p {a : Int} (n : Nat) (ha : p64 a) : p64 (a.fdiv (2 ^ n)) := by
  unfold p64 at *
  have h0 : (0 : Int) ≤ 2 ^ n := Int.pow_nonneg (by omega)
  rw [Int.fdiv_eq_ediv_of_nonneg _ h0]
  have := Int.ediv_le_self (2 ^ n) ha.1
  have := Int.ediv_nonneg ha.1 h0
  omega
theorem shf_p {op a b : Int} {w : Bool} (ha : p64 a) : p64 (shf op a b w) := by
  unfold shf
  split
  · exact wrap_p _
  split
  · exact fdiv_p _ ha
  · exact wrap_p _
theorem alu_p {op x y : Int} {w : Bool} (hx : p64 x) (hy : p64 y) : p64 (alu op x y w).1 := by
  have h1 := low_p (w := w) hx
  have h2 := low_p (w := w) hy
  unfold alu
  repeat' split
  all_goals first
    | exact p0
    | exact wrap_p _
    | exact h1
    | exact rem_p h1 h2
    | exact low_p (shf_p h1)
    | exact low_p (wrap_p _)
    | exact low_p h2
    | exact low_p p0
theorem ring1 {x y : Int} {w : Bool} (hx : p64 x) (hy : p64 y) : (alu 16 (alu 0 x y w).1 y w).1 = (alu 176 0 x w).1 := by
  unfold p64 at hx hy
  simp [alu, W.wu64, W.add, W.sub, low]
  cases w <;> simp <;> omega
theorem ring4 {x : Int} {w : Bool} (hx : p64 x) : (alu 0 (alu 128 x 0 w).1 x w).1 = 0 := by
  unfold p64 at hx
  simp [alu, W.wu64, W.add, W.sub, low]
  cases w <;> simp <;> omega
theorem bits_add (a b : BitVec 64) : U (a &&& b) + U (a ^^^ b) = U (a ||| b) := by
  have h0 : (a &&& b) &&& (a ^^^ b) = 0#64 := by
    apply BitVec.eq_of_getLsbD_eq; intro i hi
    simp; cases a.getLsbD i <;> cases b.getLsbD i <;> simp
  have h1 : (a &&& b) ||| (a ^^^ b) = a ||| b := by
    apply BitVec.eq_of_getLsbD_eq; intro i hi
    simp; cases a.getLsbD i <;> cases b.getLsbD i <;> simp
  have h2 := BitVec.toNat_add_of_and_eq_zero h0
  rw [BitVec.add_eq_or_of_and_eq_zero _ _ h0, h1] at h2
  simp only [U]; omega
theorem ring5 {x y : Int} {w : Bool} (hx : p64 x) (hy : p64 y) : (alu 0 (alu 80 x y w).1 (alu 160 x y w).1 w).1 = (alu 64 x y w).1 := by
  have h := bits_add (B64 (low x w)) (B64 (low y w))
  have h1 := U_lo (B64 (low x w) &&& B64 (low y w)); have h2 := U_lo (B64 (low x w) ^^^ B64 (low y w)); have h3 := U_lo (B64 (low x w) ||| B64 (low y w))
  simp only [alu, W.wu64, W.add, W.or_u64, W.and_u64, W.xor_u64]
  simp
  revert h h1 h2 h3
  generalize U (B64 (low x w) &&& B64 (low y w)) = p
  generalize U (B64 (low x w) ^^^ B64 (low y w)) = q
  generalize U (B64 (low x w) ||| B64 (low y w)) = r
  intro h h1 h2 h3
  cases w <;> simp [low] <;> omega
theorem ring3 {x y : Int} {w : Bool} (hx : p64 x) (hy : p64 y) : (alu 0 (alu 32 (alu 48 x y w).1 y w).1 (alu 144 x y w).1 w).1 = (alu 176 0 x w).1 := by
  have ha := low_p (w := w) hx
  have hb := low_p (w := w) hy
  have hl : ∀ z : Int, low (low z w) w = low z w := by intro z; cases w <;> simp [low]
  have hlw : ∀ z : Int, p64 z → z ≤ low x w → low z w = z := by
    intro z hz hle
    cases w
    · have := low_32 x; unfold p64 at hz; simp only [low] at *; simp at *; omega
    · rfl
  simp only [alu]
  simp
  rw [hl x]
  by_cases hz : low y w = 0
  · simp only [hz, if_true, hl]
    simp only [W.mul, W.add, Int.mul_zero, Int.zero_mul, W.wu64]
    unfold p64 at ha
    cases w <;> simp [low] at * <;> omega
  · simp only [if_neg hz]
    have hq := quo_le ha.1 hb.1
    have hr := rem_p ha hb
    have hdm : W.quo (low x w) (low y w) * low y w + W.rem (low x w) (low y w) = low x w := by
      unfold W.quo W.rem; rw [Int.mul_comm]; exact Int.mul_tdiv_add_tmod _ _
    have hqb : 0 ≤ W.quo (low x w) (low y w) * low y w := Int.mul_nonneg hq.1 hb.1
    have hql : p64 (W.quo (low x w) (low y w)) := by unfold p64 at *; omega
    rw [W.wu64_id hql.1 hql.2, hlw _ hql hq.2]
    unfold W.mul W.add
    have hm : p64 (W.quo (low x w) (low y w) * low y w) := by unfold p64 at *; omega
    rw [W.wu64_id hm.1 hm.2, hlw _ hm (by unfold p64 at *; omega), hlw _ hm (by unfold p64 at *; omega), hlw _ hr (by unfold p64 at *; omega), hdm, W.wu64_id ha.1 ha.2]
    exact hl x
theorem wfl_u {x : Int} (h : WfT (.int .u64) x) : p64 x := u64_lo h
theorem WordRing_law (x : PTs.D ps_clevislaw01WordRing) (hw : WfL ps_clevislaw01WordRing x) : ∃ (C : Cfg) (fl d : Nat), CfgOk C ∧ C.P = Try.prog ∧ call C fl d 6 (encL false ps_clevislaw01WordRing x) [] getL = some () := by
  refine E_clevislaw01WordRing ok_word_Alu ok_clevislaw01heads x ?_
  obtain ⟨(x : Int), (y : Int), (w : Bool)⟩ := x
  obtain ⟨hx, hy, _⟩ := hw
  have hx : p64 x := u64_lo hx
  have hy : p64 y := u64_lo hy
  simp (maxDischargeDepth := 10) only [L_clevislaw01WordRing, alu_eq, hx, hy, p0, alu_p, heads_eq, br_ite, W.pickf_t, W.eq_t, ring1, ring3, ring4, ring5, W.pick_t]
  simp
end Go.Proofs.Ytobdjaokdmifiaa
