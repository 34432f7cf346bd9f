import Derived.Test.YtobdjaokdmifiaaPureShift
set_option linter.unusedVariables false
set_option linter.unusedSimpArgs false
set_option maxHeartbeats 4000000
set_option maxRecDepth 100000
namespace Go.Proofs.Ytobdjaokdmifiaa
open Go Go.Eng
variable {R : Type}
theorem shl_n {a : Int} {n : Nat} (h : n ≤ 64) : W.shl .u64 a (n : Int) = a * 2 ^ n := by
  unfold W.shl
  have : min (n : Int).toNat IntKind.u64.bits = n := by simp [IntKind.bits]; omega
  rw [this]
theorem shri_n {a : Int} {n : Nat} (h : n ≤ 64) : W.shr .i64 a (n : Int) = a / 2 ^ n := by
  unfold W.shr
  have : min (n : Int).toNat IntKind.i64.bits = n := by simp [IntKind.bits]; omega
  rw [this, Int.fdiv_eq_ediv_of_nonneg _ (Int.pow_nonneg (by omega))]
theorem shri32_n {a : Int} {n : Nat} (h : n ≤ 32) : W.shr .i32 a (n : Int) = a / 2 ^ n := by
  unfold W.shr
  have : min (n : Int).toNat IntKind.i32.bits = n := by simp [IntKind.bits]; omega
  rw [this, Int.fdiv_eq_ediv_of_nonneg _ (Int.pow_nonneg (by omega))]
theorem ediv_neg {a : Int} (n : Nat) (h : a < 0) : a / 2 ^ n < 0 ∧ a ≤ a / 2 ^ n := by
  have h2 : (0 : Int) < 2 ^ n := Int.pow_pos (by omega)
  refine ⟨Int.ediv_neg_of_neg_of_pos h h2, ?_⟩
  have h3 : (1 : Int) ≤ 2 ^ n := h2
  have h4 := Int.ediv_neg_of_neg_of_pos h h2
  have h5 := Int.mul_ediv_add_emod a (2 ^ n)
  have h6 := Int.emod_nonneg a (show (2 : Int) ^ n ≠ 0 by omega)
  refine Int.le_ediv_of_mul_le h2 ?_
  have h7 : a * 2 ^ n ≤ a * 1 := Int.mul_le_mul_of_nonpos_left (by omega) h3
  omega
theorem ediv_pos {a : Int} (n : Nat) (h : 0 ≤ a) : 0 ≤ a / 2 ^ n ∧ a / 2 ^ n ≤ a :=
  ⟨Int.ediv_nonneg h (Int.pow_nonneg (by omega)), Int.ediv_le_self _ h⟩
theorem sh_same {op a b : Int} {w : Bool} (ha : p64 a) (hb : 0 ≤ b) (hw : w = false → a < 4294967296) (ho : op = 96 ∨ op = 112 ∨ op = 192) :
    low (it op (if ng a w = true ∧ op = 192 then top w else 0) (cnt b w).toNat a) w = low (shf op a b w) w := by
  have hc : 0 ≤ cnt b w ∧ cnt b w < 64 ∧ (w = false → cnt b w < 32) := by unfold cnt; cases w <;> simp <;> omega
  obtain ⟨n, hn⟩ : ∃ n : Nat, cnt b w = n := ⟨(cnt b w).toNat, by omega⟩
  unfold shf
  rw [hn] at hc ⊢
  rcases ho with rfl | rfl | rfl
  · simp only [show ¬ ((96 : Int) = 192) by omega, and_false, if_false, if_true, Int.toNat_natCast]
    rw [it_shl n 0 a ha, shl_n (by omega), W.wu64]
  · simp only [show ¬ ((112 : Int) = 192) by omega, show ¬ ((112 : Int) = 96) by omega, and_false, if_false, if_true, Int.toNat_natCast]
    rw [it_shr (by omega) n a ha, shr_u (by omega)]
  · simp only [and_true, show ¬ ((192 : Int) = 96) by omega, show ¬ ((192 : Int) = 112) by omega, if_false, Int.toNat_natCast]
    unfold sar top ng
    cases w
    · have ha2 := hw rfl
      have h32 := hc.2.2 rfl
      simp only [Bool.false_eq_true, if_false, decide_eq_true_eq, low]
      unfold p64 at ha
      rw [shri32_n (by omega)]
      by_cases h : 2147483648 ≤ a % 4294967296
      · have e : W.wrap .i32 (W.wrap .u32 a) = a - 4294967296 := by rw [W.wu32, W.wi32]; split <;> omega
        have := ediv_neg (a := a - 4294967296) n (by omega)
        rw [if_pos h, it_sar32 (by omega) n a (by omega) (by omega), e, W.wu32, W.wu64]
        omega
      · have e : W.wrap .i32 (W.wrap .u32 a) = a := by rw [W.wu32, W.wi32]; split <;> omega
        have := ediv_pos (a := a) n (by omega)
        rw [if_neg h, it_shr (by omega) n a ha, e, W.wu32, W.wu64]
        omega
    · simp only [if_true, decide_eq_true_eq, low]
      rw [shri_n (by omega)]
      unfold p64 at ha
      by_cases h : 9223372036854775808 ≤ a
      · have e : W.wrap .i64 a = a - 18446744073709551616 := by rw [W.wi64]; split <;> omega
        have := ediv_neg (a := a - 18446744073709551616) n (by omega)
        rw [if_pos h, it_sar64 (by omega) n a (by omega) (by omega), e, W.wu64]
        omega
      · have e : W.wrap .i64 a = a := by rw [W.wi64]; split <;> omega
        have := ediv_pos (a := a) n (by omega)
        rw [if_neg h, it_shr (by omega) n a ha, e, W.wu64]
        omega
theorem rem_le {a b : Int} (ha : 0 ≤ a) (hb : 0 ≤ b) : 0 ≤ W.rem a b ∧ W.rem a b ≤ a := by
  unfold W.rem
  refine ⟨Int.tmod_nonneg b ha, ?_⟩
  rw [Int.tmod_eq_emod_of_nonneg ha, Int.emod_def]
  have := Int.mul_nonneg hb (Int.ediv_nonneg ha hb)
  omega
theorem ralu_eq (x : PTs.D ps_clevisref01Alu) (hx : p64 x.2.1) (hy : p64 x.2.2.1) (k : Int × Bool → Option R) : F_clevisref01Alu R x k = k (alu x.1 x.2.1 x.2.2.1 x.2.2.2) := by
  obtain ⟨(op : Int), (x : Int), (y : Int), (w : Bool)⟩ := x
  have hx' : p64 x := hx
  have hy' : p64 y := hy
  clear hx hy
  have hx := hx'
  have hy := hy'
  clear hx' hy'
  have hm : ∀ z : Int, W.wrap .u64 (W.and .u64 z 4294967295) = z % 4294967296 := by intro z; rw [W.and_32, W.wu64]; omega
  have hp : ∀ z : Int, p64 (z % 4294967296) := by intro z; unfold p64; omega
  have hla := low_p (w := w) hx
  have hlb := low_p (w := w) hy
  have hcnt : 0 ≤ cnt (low y w) w ∧ cnt (low y w) w ≤ 64 := by unfold cnt; cases w <;> simp <;> omega
  have hr : ∀ op, F_clevisref01shift R (op, low x w, cnt (low y w) w, w) = fun k => k (it op (if ng (low x w) w = true ∧ op = 192 then top w else 0) (cnt (low y w) w).toNat (low x w)) := by
    intro op; funext k; exact rshift_eq (op, low x w, cnt (low y w) w, w) hla hcnt k
  have hs : ∀ op, (op = 96 ∨ op = 112 ∨ op = 192) → low (it op (if ng (low x w) w = true ∧ op = 192 then top w else 0) (cnt (low y w) w).toNat (low x w)) w = low (shf op (low x w) (low y w) w) w :=
    fun op ho => sh_same hla hlb.1 (by intro e; subst e; exact (low_32 x).2) ho
  have hq := quo_le hla.1 hlb.1
  have hrm := rem_le hla.1 hlb.1
  cases w
  · have hc : W.wrap .i64 (W.rem (y % 4294967296) 32) = cnt (low y false) false := by
      unfold W.rem cnt low
      rw [Int.tmod_eq_emod_of_nonneg (by omega)]
      simp only [Bool.false_eq_true, if_false]
      exact W.wi64_id (by omega) (by omega)
    have h2 : ∀ z : Int, z % 4294967296 = low z false := fun z => rfl
    simp only [F_clevisref01Alu, N_clevisref01Alu, hm, W.not, Bool.not_false, br_t, hc]
    simp only [h2, hr]
    have ax := low_32 x
    have ay := low_32 y
    have lid : ∀ z : Int, 0 ≤ z → z < 4294967296 → low z false = z := by intro z h1 h2; simp [low]; omega
    have lw : ∀ z : Int, W.wrap .u64 (low z false) = low z false := by intro z; rw [W.wu64]; simp [low]; omega
    have ll : ∀ z : Int, low (low z false) false = low z false := by intro z; simp [low]
    have e0 : low 0 false = 0 := by simp [low]
    unfold alu
    generalize low x false = a at *
    generalize low y false = b at *
    have hm2 : ∀ z : Int, z % 4294967296 = low z false := h2
    by_cases h : op = 48
    · subst h
      by_cases hz : b = 0
      · simp [br_ite, W.eq_t, W.ne_t, hz, lw, ll, e0, hm2]
      · have h1 : W.wrap .u64 (W.quo a b) = W.quo a b := W.wu64_id (by omega) (by omega)
        have h2 : low (W.quo a b) false = W.quo a b := lid _ (by omega) (by omega)
        simp [br_ite, W.eq_t, W.ne_t, hz, h1, h2, hm2, lw]
    by_cases h : op = 144
    · subst h
      by_cases hz : b = 0
      · have la : low a false = a := lid _ ax.1 ax.2
        simp [br_ite, W.eq_t, W.ne_t, hz, lw, ll, e0, hm2, la]
      · have h2 : low (W.rem a b) false = W.rem a b := lid _ (by omega) (by omega)
        simp [br_ite, W.eq_t, W.ne_t, hz, h2, hm2, lw]
    by_cases h : op = 96
    · subst h; have := hs 96 (.inl rfl); simp [br_ite, W.eq_t] at this ⊢; rw [this]
    by_cases h : op = 112
    · subst h; have := hs 112 (.inr (.inl rfl)); simp [br_ite, W.eq_t] at this ⊢; rw [this]
    by_cases h : op = 192
    · subst h; have := hs 192 (.inr (.inr rfl)); simp [br_ite, W.eq_t] at this ⊢; rw [this]
    simp only [br_ite, W.eq_t, *, if_false, or_self, apply_ite k, lw, ll, e0, hm2]
  · have hc : W.wrap .i64 (W.rem y 64) = cnt (low y true) true := by
      unfold p64 at hy
      unfold W.rem cnt low
      rw [Int.tmod_eq_emod_of_nonneg (by omega)]
      simp only [if_true]
      exact W.wi64_id (by omega) (by omega)
    have hr' : ∀ op, F_clevisref01shift R (op, x, cnt (low y true) true, true) = fun k => k (it op (if ng (low x true) true = true ∧ op = 192 then top true else 0) (cnt (low y true) true).toNat (low x true)) := hr
    simp only [F_clevisref01Alu, N_clevisref01Alu, W.not, Bool.not_true, br_f, hc, hr']
    have ll : ∀ z : Int, low z true = z := by intro z; simp [low]
    unfold alu
    simp only [ll] at *
    unfold p64 at *
    by_cases h : op = 48
    · subst h
      by_cases hz : y = 0
      · simp [br_ite, W.eq_t, W.ne_t, hz, true_and]
      · have h1 : W.wrap .u64 (W.quo x y) = W.quo x y := W.wu64_id (by omega) (by omega)
        skip
        simp [br_ite, W.eq_t, W.ne_t, hz, h1, true_and]
    by_cases h : op = 144
    · subst h
      by_cases hz : y = 0
      · simp [br_ite, W.eq_t, W.ne_t, hz, true_and]
      · simp [br_ite, W.eq_t, W.ne_t, hz, true_and]
    by_cases h : op = 96
    · subst h; have := hs 96 (.inl rfl); simp [br_ite, W.eq_t] at this ⊢; rw [this]
    by_cases h : op = 112
    · subst h; have := hs 112 (.inr (.inl rfl)); simp [br_ite, W.eq_t] at this ⊢; rw [this]
    by_cases h : op = 192
    · subst h; have := hs 192 (.inr (.inr rfl)); simp [br_ite, W.eq_t] at this ⊢; rw [this]
    simp only [br_ite, W.eq_t, *, if_false, or_self, apply_ite k, true_and]
theorem WordReckons_law (x : PTs.D ps_clevislaw01WordReckons) (hw : WfL ps_clevislaw01WordReckons x) : ∃ (C : Cfg) (fl d : Nat), CfgOk C ∧ C.P = Try.prog ∧ call C fl d 3 (encL false ps_clevislaw01WordReckons x) [] getL = some () := by
  refine E_clevislaw01WordReckons ok_word_Alu ok_clevisref01Alu ok_clevislaw01heads x ?_
  obtain ⟨(op : Int), (x : Int), (y : Int), (w : Bool)⟩ := x
  obtain ⟨_, hx, hy, _⟩ := hw
  have hx : p64 x := u64_lo hx
  have hy : p64 y := u64_lo hy
  simp only [L_clevislaw01WordReckons, alu_eq, ralu_eq, hx, hy, heads_eq]
  simp [br_ite, W.pickf_t, W.eqB, W.eq, W.pick_t]
end Go.Proofs.Ytobdjaokdmifiaa
