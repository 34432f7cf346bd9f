import Derived.Test.YtjmddbakkghacaaLawB
set_option linter.unusedVariables false
set_option linter.unusedSimpArgs false
set_option maxHeartbeats 4000000
set_option maxRecDepth 100000
namespace Go.Proofs.Ytjmddbakkghacaa
open Go Go.Eng
variable {R : Type}
noncomputable def isOp (op : Int) : Prop := op = 16 ∨ op = 80 ∨ op = 64 ∨ op = 32 ∨ op = 96 ∨ op = 48 ∨ op = 112 ∨ op = 160 ∨ op = 192 ∨ op = 176 ∨ op = 208
open Classical in
theorem cnd_is (op x y : Int) (w : Bool) : (cnd op x y w).2 = decide (isOp op) := by
  unfold cnd isOp
  by_cases h1 : op = 16
  · simp [h1]
  by_cases h2 : op = 80
  · simp [h2]
  by_cases h3 : op = 64
  · simp [h3]
  by_cases h4 : op = 32
  · simp [h4]
  by_cases h5 : op = 96
  · simp [h5]
  by_cases h6 : op = 48
  · simp [h6]
  by_cases h7 : op = 112
  · simp [h7]
  by_cases h8 : op = 160
  · simp [h8]
  by_cases h9 : op = 192
  · simp [h9]
  by_cases h10 : op = 176
  · simp [h10]
  by_cases h11 : op = 208
  · simp [h11]
  simp [h1, h2, h3, h4, h5, h6, h7, h8, h9, h10, h11]
noncomputable def oppO (op : Int) : Int := if op = 16 then 80 else if op = 80 then 16 else if op = 32 then 176 else if op = 176 then 32 else if op = 48 then 160 else if op = 160 then 48 else if op = 96 then 208 else if op = 208 then 96 else if op = 112 then 192 else if op = 192 then 112 else -1
theorem Opposite_eq (op : Int) (k : Int → Option R) : F_branch_Opposite R op k = k (oppO op) := by
  simp only [F_branch_Opposite, N_branch_Opposite, br_ite, W.eq_t, oppO, apply_ite k]
theorem rOpposite_eq (op : Int) (k : Int → Option R) : F_clevisref10Opposite R op k = k (oppO op) := by
  have e : ∀ c : Int, W.eq c op = W.eq op c := by intro c; unfold W.eq; exact Bool.beq_comm
  simp only [F_clevisref10Opposite, N_clevisref10Opposite, e, br_ite, W.eq_t, oppO, apply_ite k]
noncomputable def sgdP (op : Int) : Prop := op = 96 ∨ op = 112 ∨ op = 192 ∨ op = 208
open Classical in
noncomputable def mostO (op : Int) : Int := if sgdP op then 2147483647 else 4294967295
open Classical in
theorem near_eq (x : PTs.D ps_branch_near) (k : Bool → Option R) : F_branch_near R x k = k (decide (x.2.1.2.1 ≤ mostO x.1 ∧ x.2.2.2.1 ≤ mostO x.1)) := by
  obtain ⟨(op : Int), ⟨(a1 : Int), (a2 : Int), (a3 : Int), (a4 : Int), (a5 : Int), (a6 : Int)⟩, ⟨(b1 : Int), (b2 : Int), (b3 : Int), (b4 : Int), (b5 : Int), (b6 : Int)⟩⟩ := x
  have hm : ∀ c : Int, W.le (W.max a2 b2) c = decide (a2 ≤ c ∧ b2 ≤ c) := by
    intro c; rw [W.le_d]; apply decide_eq_decide.2; unfold W.max; split <;> omega
  simp only [F_branch_near, N_branch_near, br_ite, W.eq_t, mostO, sgdP, hm]
  by_cases h1 : op = 96
  · simp [h1]
  by_cases h2 : op = 112
  · simp [h2]
  by_cases h3 : op = 192
  · simp [h3]
  by_cases h4 : op = 208
  · simp [h4]
  simp [h1, h2, h3, h4]
open Classical in
theorem rsigned_eq (op : Int) (k : Bool → Option R) : F_clevisref10signed R op k = k (decide (sgdP op)) := by
  simp only [F_clevisref10signed, N_clevisref10signed]
  congr 1
  rw [Bool.eq_iff_iff, decide_eq_true_eq]
  simp only [W.picko_t, W.eq_t, or_assoc]
  exact Iff.rfl
/-- A number that is not y. -/
noncomputable def apartB (a : Bd) (y : Int) : Bd :=
  (if a.1 = y ∧ y < 18446744073709551615 then W.wrap .u64 (W.add y 1) else a.1,
   if a.2.1 = y ∧ 0 < y then W.wrap .u64 (W.sub y 1) else a.2.1,
   if a.2.2.1 = W.wrap .i64 y ∧ W.wrap .i64 y < 9223372036854775807 then W.wrap .i64 (W.add (W.wrap .i64 y) 1) else a.2.2.1,
   if a.2.2.2.1 = W.wrap .i64 y ∧ -9223372036854775808 < W.wrap .i64 y then W.wrap .i64 (W.sub (W.wrap .i64 y) 1) else a.2.2.2.1, a.2.2.2.2)
theorem apart1_eq (y y1 y2 y3 y4 y5 y6 y7 y8 y9 y10 y11 y12 y13 y14 y15 y16 y17 y18 y19 y20 y21 y22 y23 y24 a1 a2 a3 a4 a5 a6 b1 b2 b3 b4 b5 b6 : Int) (k : OT_branch_apart_1 → Option R) :
    E_branch_apart_1 R (y, y1, y2, y3, y4, y5, y6, y7, y8, y9, y10, y11, y12, y13, y14, y15, y16, y17, y18, y19, y20, y21, y22, y23, y24, a1, a2, a3, a4, a5, a6, b1, b2, b3, b4, b5, b6, ()) k =
      k (y1, y2, y3, y4, y5, y6, y7, y8, y9, y10, y11, y12, y13, y14, y15, y16, y17, y18, y19, y20, y21, y22, y23, y24, (apartB (a1, a2, a3, a4, a5, a6) y).1, (apartB (a1, a2, a3, a4, a5, a6) y).2.1, (apartB (a1, a2, a3, a4, a5, a6) y).2.2.1, (apartB (a1, a2, a3, a4, a5, a6) y).2.2.2.1, a5, a6, b1, b2, b3, b4, b5, b6, ()) := by
  simp only [E_branch_apart_1, N_branch_apart_1, br_ite, W.pickf_t, W.eq_t, W.lt_t, W.gt_t, apartB]
  by_cases h1 : a1 = y ∧ y < 18446744073709551615 <;> by_cases h2 : a2 = y ∧ 0 < y <;> by_cases h3 : a3 = W.wrap .i64 y ∧ W.wrap .i64 y < 9223372036854775807 <;> by_cases h4 : a4 = W.wrap .i64 y ∧ -9223372036854775808 < W.wrap .i64 y <;>
    simp only [h1, h2, h3, h4, if_true, if_false, and_self]
theorem apart2_eq (y y1 y2 y3 y4 y5 y6 y7 y8 y9 y10 y11 y12 y13 y14 y15 y16 y17 y18 y19 y20 y21 y22 y23 y24 a1 a2 a3 a4 a5 a6 b1 b2 b3 b4 b5 b6 : Int) (k : OT_branch_apart_2 → Option R) :
    E_branch_apart_2 R (y, y1, y2, y3, y4, y5, y6, y7, y8, y9, y10, y11, y12, y13, y14, y15, y16, y17, y18, y19, y20, y21, y22, y23, y24, a1, a2, a3, a4, a5, a6, b1, b2, b3, b4, b5, b6, ()) k =
      k (y1, y2, y3, y4, y5, y6, y7, y8, y9, y10, y11, y12, y13, y14, y15, y16, y17, y18, y19, y20, y21, y22, y23, y24, a1, a2, a3, a4, a5, a6, (apartB (b1, b2, b3, b4, b5, b6) y).1, (apartB (b1, b2, b3, b4, b5, b6) y).2.1, (apartB (b1, b2, b3, b4, b5, b6) y).2.2.1, (apartB (b1, b2, b3, b4, b5, b6) y).2.2.2.1, b5, b6, ()) := by
  simp only [E_branch_apart_2, N_branch_apart_2, br_ite, W.pickf_t, W.eq_t, W.lt_t, W.gt_t, apartB]
  by_cases h1 : b1 = y ∧ y < 18446744073709551615 <;> by_cases h2 : b2 = y ∧ 0 < y <;> by_cases h3 : b3 = W.wrap .i64 y ∧ W.wrap .i64 y < 9223372036854775807 <;> by_cases h4 : b4 = W.wrap .i64 y ∧ -9223372036854775808 < W.wrap .i64 y <;>
    simp only [h1, h2, h3, h4, if_true, if_false, and_self]
theorem rapart_eq (x : PTs.D ps_clevisref10apart) (k : Bd → Option R) : F_clevisref10apart R x k = k (apartB x.1 x.2) := by
  obtain ⟨⟨(a1 : Int), (a2 : Int), (a3 : Int), (a4 : Int), (a5 : Int), (a6 : Int)⟩, (y : Int)⟩ := x
  simp only [F_clevisref10apart, N_clevisref10apart, br_ite, W.pickf_t, W.eq_t, W.lt_t, W.gt_t, apartB]
  by_cases h1 : a1 = y ∧ y < 18446744073709551615 <;> by_cases h2 : a2 = y ∧ 0 < y <;> by_cases h3 : a3 = W.wrap .i64 y ∧ W.wrap .i64 y < 9223372036854775807 <;> by_cases h4 : a4 = W.wrap .i64 y ∧ -9223372036854775808 < W.wrap .i64 y <;>
    simp only [h1, h2, h3, h4, if_true, if_false, and_self]
/-- x not above y; strict: below. -/
noncomputable def uLe (x y : Bd) (s : Bool) : Option (Bd × Bd) :=
  if s = true then (if y.2.1 = 0 ∨ x.1 = 18446744073709551615 then none else
    some ((x.1, W.min x.2.1 (W.wrap .u64 (W.sub y.2.1 1)), x.2.2), (W.max y.1 (W.wrap .u64 (W.add x.1 1)), y.2)))
  else some ((x.1, W.min x.2.1 y.2.1, x.2.2), (W.max y.1 x.1, y.2))
noncomputable def sLe (x y : Bd) (s : Bool) : Option (Bd × Bd) :=
  if s = true then (if y.2.2.2.1 = -9223372036854775808 ∨ x.2.2.1 = 9223372036854775807 then none else
    some ((x.1, x.2.1, x.2.2.1, W.min x.2.2.2.1 (W.wrap .i64 (W.sub y.2.2.2.1 1)), x.2.2.2.2), (y.1, y.2.1, W.max y.2.2.1 (W.wrap .i64 (W.add x.2.2.1 1)), y.2.2.2)))
  else some ((x.1, x.2.1, x.2.2.1, W.min x.2.2.2.1 y.2.2.2.1, x.2.2.2.2), (y.1, y.2.1, W.max y.2.2.1 x.2.2.1, y.2.2.2))
noncomputable def swp (o : Option (Bd × Bd)) : Option (Bd × Bd) := o.map fun p => (p.2, p.1)
noncomputable def truthB (op : Int) (a b : Bd) : Option (Bd × Bd) :=
  if op = 16 then (meetB a b).map fun m => (m, m)
  else if op = 80 then some (if b.1 = b.2.1 then apartB a b.1 else a, if a.1 = a.2.1 then apartB b a.1 else b)
  else if op = 32 then swp (uLe b a true) else if op = 48 then swp (uLe b a false)
  else if op = 160 then uLe a b true else if op = 176 then uLe a b false
  else if op = 96 then swp (sLe b a true) else if op = 112 then swp (sLe b a false)
  else if op = 192 then sLe a b true else sLe a b false
noncomputable def tenP (op : Int) : Prop := op = 16 ∨ op = 80 ∨ op = 32 ∨ op = 96 ∨ op = 48 ∨ op = 112 ∨ op = 160 ∨ op = 192 ∨ op = 176 ∨ op = 208
theorem opt_none {α β : Type} (k0 : β) (k : α → β) : opt none k0 k = k0 := rfl
theorem opt_some {α β : Type} (a : α) (k0 : β) (k : α → β) : opt (some a) k0 k = k a := rfl
theorem hold_eq (op : Int) (ho : tenP op) (y1 y2 y3 y4 y5 y6 y7 y8 y9 y10 y11 y12 y13 y14 y15 y16 y17 y18 y19 y20 y21 y22 y23 y24 a1 a2 a3 a4 a5 a6 b1 b2 b3 b4 b5 b6 : Int) (n0 : Option R) (k : OT_branch_hold_1 → Option R) (hk : ∀ d, k (false, d) = n0) :
    E_branch_hold_1 R (op, y1, y2, y3, y4, y5, y6, y7, y8, y9, y10, y11, y12, y13, y14, y15, y16, y17, y18, y19, y20, y21, y22, y23, y24, a1, a2, a3, a4, a5, a6, b1, b2, b3, b4, b5, b6, ()) k =
      opt (truthB op (a1, a2, a3, a4, a5, a6) (b1, b2, b3, b4, b5, b6)) n0 fun p => k (true, y1, y2, y3, y4, y5, y6, y7, y8, y9, y10, y11, y12, y13, y14, y15, y16, y17, y18, y19, y20, y21, y22, y23, y24, p.1.1, p.1.2.1, p.1.2.2.1, p.1.2.2.2.1, p.1.2.2.2.2.1, p.1.2.2.2.2.2, p.2.1, p.2.2.1, p.2.2.2.1, p.2.2.2.2.1, p.2.2.2.2.2.1, p.2.2.2.2.2.2, ()) := by
  unfold tenP at ho
  rcases ho with h | h | h | h | h | h | h | h | h | h <;> subst h
  · simp only [E_branch_hold_1, N_branch_hold_1, br_ite, W.eq_t, BMeet_eq, truthB]
    simp only [if_true]
    cases meetB (a1, a2, a3, a4, a5, a6) (b1, b2, b3, b4, b5, b6) with
    | none => simp only [opt_none, Option.map_none, hk]
    | some m => simp only [opt_some, Option.map_some]
  · simp only [E_branch_hold_1, N_branch_hold_1, br_ite, W.eq_t, Value_eq, apart1_eq, apart2_eq, truthB]
    by_cases h1 : a1 = a2 <;> by_cases h2 : b1 = b2 <;> simp [h1, h2, opt_some, apartB]
  all_goals simp only [E_branch_hold_1, N_branch_hold_1, br_ite, W.eq_t, W.picko_t, truthB, uLe, sLe]
  · by_cases h1 : a2 = 0 ∨ b1 = 18446744073709551615 <;> simp [h1, swp, opt_none, opt_some, hk]
  · by_cases h1 : a4 = -9223372036854775808 ∨ b3 = 9223372036854775807 <;> simp [h1, swp, opt_none, opt_some, hk]
  · simp [swp, opt_some]
  · simp [swp, opt_some]
  · by_cases h1 : b2 = 0 ∨ a1 = 18446744073709551615 <;> simp [h1, opt_none, opt_some, hk]
  · by_cases h1 : b4 = -9223372036854775808 ∨ a3 = 9223372036854775807 <;> simp [h1, opt_none, opt_some, hk]
  · simp [opt_some]
  · simp [opt_some]
theorem rtruth_eq (op : Int) (ho : tenP op) (a b : Bd) (n0 : Option R) (k : Bd × Bd × Bool → Option R) (hk : ∀ p q, k (p, q, false) = n0) :
    F_clevisref10truth R (op, a, b) k = opt (truthB op a b) n0 fun p => k (p.1, p.2, true) := by
  obtain ⟨(a1 : Int), (a2 : Int), (a3 : Int), (a4 : Int), (a5 : Int), (a6 : Int)⟩ := a
  obtain ⟨(b1 : Int), (b2 : Int), (b3 : Int), (b4 : Int), (b5 : Int), (b6 : Int)⟩ := b
  unfold tenP at ho
  rcases ho with h | h | h | h | h | h | h | h | h | h <;> subst h
  · simp only [F_clevisref10truth, N_clevisref10truth, br_ite, W.eq_t, rBMeet_eq, truthB]
    simp only [if_true]
    cases meetB (a1, a2, a3, a4, a5, a6) (b1, b2, b3, b4, b5, b6) with
    | none => simp only [opt_none, Option.map_none, hk]
    | some m => simp only [opt_some, Option.map_some]
  · simp only [F_clevisref10truth, N_clevisref10truth, br_ite, W.eq_t, rValue_eq, rapart_eq, truthB]
    by_cases h1 : a1 = a2 <;> by_cases h2 : b1 = b2 <;> simp [h1, h2, opt_some, apartB]
  all_goals simp only [F_clevisref10truth, N_clevisref10truth, F_clevisref10below, N_clevisref10below, F_clevisref10sbelow, N_clevisref10sbelow, F_clevisref10upto, N_clevisref10upto, F_clevisref10supto, N_clevisref10supto, br_ite, W.eq_t, W.picko_t, truthB, uLe, sLe]
  · by_cases h1 : a2 = 0 <;> by_cases h2 : b1 = 18446744073709551615 <;> simp [h1, h2, swp, opt_none, opt_some, hk]
  · by_cases h1 : a4 = -9223372036854775808 ∨ b3 = 9223372036854775807 <;> simp [h1, swp, opt_none, opt_some, hk]
  · simp [swp, opt_some]
  · simp [swp, opt_some]
  · by_cases h1 : b2 = 0 <;> by_cases h2 : a1 = 18446744073709551615 <;> simp [h1, h2, opt_none, opt_some, hk]
  · by_cases h1 : b4 = -9223372036854775808 ∨ a3 = 9223372036854775807 <;> simp [h1, opt_none, opt_some, hk]
  · simp [opt_some]
  · simp [opt_some]
noncomputable def zB : Bd := (0, 0, 0, 0, 0, 0)
noncomputable def setB (a b : Bd) (holds : Bool) : Option (Bd × Bd) :=
  if b.1 ≠ b.2.1 then some (a, b)
  else if holds = true ∧ (b.1 = 0 ∨ W.wrap .u64 (W.and .u64 b.1 (W.wrap .u64 (W.sub b.1 1))) ≠ 0) then some (a, b)
  else if (meetT a.2.2.2.2.1 a.2.2.2.2.2 (if holds = true then b.1 else 0) (U (~~~(B64 b.1)))).2 = true then
    some ((a.1, a.2.1, a.2.2.1, a.2.2.2.1, (meetT a.2.2.2.2.1 a.2.2.2.2.2 (if holds = true then b.1 else 0) (U (~~~(B64 b.1)))).1), b)
  else none
noncomputable def stepB (op : Int) (a b : Bd) (holds : Bool) : Option (Bd × Bd) := if op = 64 then setB a b holds else truthB (if holds = true then op else oppO op) a b
noncomputable def bothB (p : Bd × Bd) : Bd × Bd × Bool := opt (tidyB p.1) (zB, zB, false) fun c => opt (tidyB p.2) (zB, zB, false) fun d => (c, d, true)
noncomputable def mainB (op : Int) (a b : Bd) (wide holds : Bool) : Bd × Bd × Bool :=
  if a.1 = a.2.1 ∧ b.1 = b.2.1 then (if (cnd op a.1 b.1 wide).1 = holds then (a, b, true) else (zB, zB, false))
  else if wide = false ∧ ¬ (a.2.1 ≤ mostO op ∧ b.2.1 ≤ mostO op) then (a, b, true)
  else opt (stepB op a b holds) (zB, zB, false) bothB
open Classical in
noncomputable def refineB (op : Int) (a b : Bd) (wide holds : Bool) : Bd × Bd × Bool :=
  if isOp op ∧ chkP a ∧ chkP b then mainB op a b wide holds else (a, b, true)
theorem isOp_ten {op : Int} (h : isOp op) (h' : op ≠ 64) (holds : Bool) : tenP (if holds = true then op else oppO op) := by
  unfold isOp at h
  rcases h with h | h | h | h | h | h | h | h | h | h | h <;> subst h <;> first | exact absurd rfl h' | (cases holds <;> simp [tenP, oppO])
theorem xor_all (y : Int) : W.wrap .u64 (W.xor .u64 18446744073709551615 y) = U (~~~(B64 y)) := by
  rw [W.xor_u64, W.wrap_u64, B64_U]
  have : B64 18446744073709551615 = BitVec.allOnes 64 := by decide
  rw [this, BitVec.allOnes_xor]
theorem andn_all (y : Int) : W.wrap .u64 (W.andNot .u64 18446744073709551615 y) = U (~~~(B64 y)) := by
  rw [W.andNot_u64, W.wrap_u64, B64_U]
  have : B64 18446744073709551615 = BitVec.allOnes 64 := by decide
  rw [this, BitVec.allOnes_and]
theorem Meet_one (x : PTs.D ps_tnum_Meet) (k : PTs.D qs_tnum_Meet → Option R) : F_tnum_Meet R x k = k (meetT x.1.1 x.1.2 x.2.1 x.2.2) := by
  obtain ⟨⟨(v : Int), (m : Int)⟩, (v' : Int), (m' : Int)⟩ := x
  exact Meet_eq v m v' m' k
theorem rMeet_one (x : PTs.D ps_clevisref07Meet) (k : PTs.D qs_clevisref07Meet → Option R) : F_clevisref07Meet R x k = k (meetT x.1.1 x.1.2 x.2.1 x.2.2) := by
  obtain ⟨⟨(v : Int), (m : Int)⟩, (v' : Int), (m' : Int)⟩ := x
  exact rMeet7_eq v m v' m' k
theorem bits_eq (b1 b2 b3 b4 b5 b6 : Int) (h : Bool) (y7 y8 y9 y10 y11 y12 y13 y14 y15 y16 y17 y18 y19 y20 y21 y22 y23 y24 y25 y26 y27 y28 y29 y30 a1 a2 a3 a4 a5 a6 c1 c2 c3 c4 c5 c6 : Int) (n0 : Option R) (k : OT_branch_bits_1 → Option R) (hk : ∀ d, k (false, d) = n0) :
    E_branch_bits_1 R (b1, b2, b3, b4, b5, b6, h, y7, y8, y9, y10, y11, y12, y13, y14, y15, y16, y17, y18, y19, y20, y21, y22, y23, y24, y25, y26, y27, y28, y29, y30, a1, a2, a3, a4, a5, a6, c1, c2, c3, c4, c5, c6, ()) k =
      opt (setB (a1, a2, a3, a4, a5, a6) (b1, b2, b3, b4, b5, b6) h) n0 fun p => k (true, y7, y8, y9, y10, y11, y12, y13, y14, y15, y16, y17, y18, y19, y20, y21, y22, y23, y24, y25, y26, y27, y28, y29, y30, p.1.1, p.1.2.1, p.1.2.2.1, p.1.2.2.2.1, p.1.2.2.2.2.1, p.1.2.2.2.2.2, c1, c2, c3, c4, c5, c6, ()) := by
  simp only [E_branch_bits_1, N_branch_bits_1, Value_eq, Meet_one, xor_all, br_ite, W.not_t, W.pickf_t, W.picko_t, W.eq_t, W.ne_t, setB]
  by_cases h1 : b1 = b2
  · subst h1
    simp only [if_true, not_true, ne_eq, if_false, Bool.true_eq_false]
    by_cases h2 : h = true ∧ (b1 = 0 ∨ ¬ W.wrap .u64 (W.and .u64 b1 (W.wrap .u64 (W.sub b1 1))) = 0)
    · simp only [h2, and_self, if_true, opt_some]
    · simp only [h2, if_false]
      cases h
      · simp only [Bool.false_eq_true, if_false]
        cases hm : (meetT a5 a6 0 (U (~~~(B64 b1)))).2
        · simp only [hk, opt_none, Bool.false_eq_true, if_false]
        · simp only [if_true, opt_some]
      · simp only [if_true]
        cases hm : (meetT a5 a6 b1 (U (~~~(B64 b1)))).2
        · simp only [hk, opt_none, Bool.false_eq_true, if_false]
        · simp only [if_true, opt_some]
  · simp only [h1, if_false, ne_eq, not_false_eq_true, if_true, opt_some]
theorem rset_eq (a b : Bd) (h : Bool) (n0 : Option R) (k : Bd × Bool → Option R) (hk : ∀ d, k (d, false) = n0) :
    F_clevisref10set R (a, b, h) k = opt (setB a b h) n0 fun p => k (p.1, true) := by
  obtain ⟨(a1 : Int), (a2 : Int), (a3 : Int), (a4 : Int), (a5 : Int), (a6 : Int)⟩ := a
  obtain ⟨(b1 : Int), (b2 : Int), (b3 : Int), (b4 : Int), (b5 : Int), (b6 : Int)⟩ := b
  simp only [F_clevisref10set, N_clevisref10set, F_clevisref10known, N_clevisref10known, rValue_eq, rMeet_one, andn_all, br_ite, W.not_t, W.picko_t, W.eq_t, W.ne_t, setB]
  by_cases h1 : b1 = b2
  · subst h1
    simp only [if_true, not_true, ne_eq, if_false, Bool.true_eq_false]
    cases h
    · simp only [Bool.false_eq_true, if_false, if_true, false_and]
      cases hm : (meetT a5 a6 0 (U (~~~(B64 b1)))).2
      · simp only [hk, opt_none, Bool.false_eq_true, if_false]
      · simp only [if_true, opt_some]
    · simp only [if_true, Bool.true_eq_false, if_false, true_and]
      by_cases h2 : b1 = 0 ∨ ¬ W.wrap .u64 (W.and .u64 b1 (W.wrap .u64 (W.sub b1 1))) = 0
      · simp only [h2, if_true, opt_some]
      · simp only [h2, if_false]
        cases hm : (meetT a5 a6 b1 (U (~~~(B64 b1)))).2
        · simp only [hk, opt_none, Bool.false_eq_true, if_false]
        · simp only [if_true, opt_some]
  · simp only [h1, if_false, ne_eq, not_false_eq_true, if_true, opt_some]
end Go.Proofs.Ytjmddbakkghacaa
