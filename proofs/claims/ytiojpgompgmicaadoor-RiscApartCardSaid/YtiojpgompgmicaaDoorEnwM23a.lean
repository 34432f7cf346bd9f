import Derived.Test.YtiojpgompgmicaaDoorEnwFns23
import Derived.Test.YtiojpgompgmicaaDoorEnwW03
set_option linter.unusedVariables false
set_option linter.unusedSimpArgs false
set_option maxHeartbeats 4000000
set_option maxRecDepth 100000
namespace Go.Proofs.YtiojpgompgmicaaDoor
open Go Go.Eng
variable {R : Type}
theorem low_eq (x : PTs.D ps_word_low) (k : Int → Option R) : F_word_low R x k = k (low x.1 x.2) := by
  obtain ⟨(x0 : Int), (x1 : Bool)⟩ := x
  have h : x0 % 4294967296 % 18446744073709551616 = x0 % 4294967296 := by omega
  cases x1 <;> simp [F_word_low, N_word_low, br_t, br_f, low, W.wu64, W.wu32, h]
theorem shift_eq (x : PTs.D ps_word_shift) (hb : p64 x.2.2.1) (k : Int → Option R) : F_word_shift R x k = k (shf x.1 x.2.1 x.2.2.1 x.2.2.2) := by
  obtain ⟨(op : Int), (a : Int), (b : Int), (w : Bool)⟩ := x
  have h1 : W.wrap .u64 (b % 32) = b % 32 := by rw [W.wu64]; omega
  have h2 : W.wrap .u64 (b % 64) = b % 64 := by rw [W.wu64]; omega
  cases w <;> by_cases h96 : op = 96 <;> by_cases h112 : op = 112 <;> simp [F_word_shift, N_word_shift, br_ite, W.not_t, W.not, W.eq_t, h96, h112, shf, cnt, sar, W.and_31, W.and_63, h1, h2]
theorem plain_eq (x : PTs.D ps_word_plain) (k : Int × Bool → Option R) : F_word_plain R x k = k (
    if x.1 = 0 then (W.wrap .u64 (W.add x.2.1 x.2.2), true) else if x.1 = 16 then (W.wrap .u64 (W.sub x.2.1 x.2.2), true) else if x.1 = 32 then (W.wrap .u64 (W.mul x.2.1 x.2.2), true)
    else if x.1 = 64 then (W.wrap .u64 (W.or .u64 x.2.1 x.2.2), true) else if x.1 = 80 then (W.wrap .u64 (W.and .u64 x.2.1 x.2.2), true) else if x.1 = 160 then (W.wrap .u64 (W.xor .u64 x.2.1 x.2.2), true)
    else if x.1 = 128 then (W.wrap .u64 (W.sub 0 x.2.1), true) else if x.1 = 176 then (x.2.2, true) else (0, false)) := by
  obtain ⟨(op : Int), (a : Int), (b : Int)⟩ := x
  simp only [F_word_plain, N_word_plain, br_ite, W.eq_t, apply_ite k]
theorem alu_eq (x : PTs.D ps_word_Alu) (hx : p64 x.2.1) (hy : p64 x.2.2.1) (k : Int × Bool → Option R) : F_word_Alu R x k = k (alu x.1 x.2.1 x.2.2.1 x.2.2.2) := by
  obtain ⟨(op : Int), (a : Int), (b : Int), (w : Bool)⟩ := x
  have hb := low_p (w := w) hy
  simp only [F_word_Alu, N_word_Alu, low_eq, plain_eq, shift_eq, hb, alu, br_l, br_r]
  by_cases h48 : op = 48
  · subst h48; by_cases hz : low b w = 0 <;> simp [br_ite, W.eq_t, hz]
  by_cases h144 : op = 144
  · subst h144; by_cases hz : low b w = 0 <;> simp [br_ite, W.eq_t, hz]
  by_cases h96 : op = 96
  · subst h96; simp [br_ite, W.eq_t]
  by_cases h112 : op = 112
  · subst h112; simp [br_ite, W.eq_t]
  by_cases h192 : op = 192
  · subst h192; simp [br_ite, W.eq_t]
  simp only [br_ite, W.eq_t, h48, h144, h96, h112, h192, if_false, or_self]
  repeat' split
  all_goals rfl
theorem neg_eq (x : PTs.D ps_clevisref01neg) (hx : p64 x.1) (k : Bool → Option R) : F_clevisref01neg R x k = k (ng x.1 x.2) := by
  obtain ⟨(x : Int), (w : Bool)⟩ := x
  unfold p64 at hx
  simp only [F_clevisref01neg, N_clevisref01neg, br_ite]
  have e1 := shr_u (x := x) (n := 63) (by omega)
  have e2 := shr_u (x := x) (n := 31) (by omega)
  simp only [show ((63 : Nat) : Int) = 63 from rfl, show ((31 : Nat) : Int) = 31 from rfl] at e1 e2
  rw [e1, e2, W.and_1, W.wu64]
  simp only at hx
  cases w
  · simp only [Bool.false_eq_true, if_false, ng, W.eq]
    congr 1
    have : (2 : Int) ^ 31 = 2147483648 := by decide
    rw [this]
    by_cases h : 2147483648 ≤ x % 4294967296
    · simp only [h, decide_true, beq_iff_eq]; omega
    · simp only [h, decide_false, beq_eq_false_iff_ne]; omega
  · simp only [if_true, ng, W.eq]
    congr 1
    have : (2 : Int) ^ 63 = 9223372036854775808 := by decide
    rw [this]
    by_cases h : 9223372036854775808 ≤ x
    · simp only [h, decide_true, beq_iff_eq]; omega
    · simp only [h, decide_false, beq_eq_false_iff_ne]; omega
theorem shift_loop {F : FT ps_clevisref01neg qs_clevisref01neg} {fl : Nat} {op y2 y3 : Int} {k : Int → Option R} : ∀ (m e : Nat) (y1 y4 : Int), 0 ≤ y4 → y2 = y4 + m → y2 ≤ 64 →
    P_clevisref01shift_7_0 F fl (e + m + 1) R op y1 y2 y3 y4 k = k (it op y3 m y1)
  | 0, e, y1, y4, h0, h, h2 => by
    rw [P_clevisref01shift_7_0_s]
    have : ¬ y4 < y2 := by omega
    simp only [br_ite, W.lt_t, this, if_false, it]
  | m + 1, e, y1, y4, h0, h, h2 => by
    rw [P_clevisref01shift_7_0_s]
    have h3 : y4 < y2 := by omega
    have h4 : W.wrap .i64 (W.add y4 1) = y4 + 1 := by unfold W.add; exact W.wi64_id (by omega) (by omega)
    rw [h4]
    simp only [br_ite, W.lt_t, h3, if_true, W.eq_t, it]
    have ih := fun y => shift_loop (F := F) (fl := fl) (op := op) (y2 := y2) (y3 := y3) (k := k) m e y (y4 + 1) (by omega) (by omega) h2
    rw [show e + (m + 1) = e + m + 1 from rfl, ih, ih]
    simp only [W.wu64, W.mul]
    split <;> rfl
theorem rshift_eq (x : PTs.D ps_clevisref01shift) (ha : p64 x.2.1) (hn : 0 ≤ x.2.2.1 ∧ x.2.2.1 ≤ 64) (k : Int → Option R) :
    F_clevisref01shift R x k = k (it x.1 (if ng x.2.1 x.2.2.2 = true ∧ x.1 = 192 then topW x.2.2.2 else 0) x.2.2.1.toNat x.2.1) := by
  obtain ⟨(op : Int), (a : Int), (n : Int), (w : Bool)⟩ := x
  simp only at ha
  have hn : (0 : Int) ≤ n ∧ n ≤ 64 := hn
  simp only [F_clevisref01shift, N_clevisref01shift, neg_eq, ha]
  obtain ⟨e, he⟩ : ∃ e, W.big = e + n.toNat + 1 := ⟨W.big - n.toNat - 1, by unfold W.big; omega⟩
  have hl := fun y3 => shift_loop (F := F_clevisref01neg) (fl := W.big) (op := op) (y2 := n) (y3 := y3) (k := k) n.toNat e a 0 (by omega) (by omega) (by omega)
  rw [← he] at hl
  simp only [hl, br_ite, W.pickf_t, W.eq_t]
  cases w
  · simp only [Bool.false_eq_true, if_false, topW]; split <;> rfl
  · simp only [if_true, topW]; split <;> rfl
theorem ralu_eq (x : PTs.D ps_clevisref01Alu) (hx : p64 x.2.1) (hy : p64 x.2.2.1) (k : Int × Bool → Option R) : F_clevisref01Alu R x k = k (alu x.1 x.2.1 x.2.2.1 x.2.2.2) := by
  obtain ⟨(op : Int), (x : Int), (y : Int), (w : Bool)⟩ := x
  have hx' : p64 x := hx
  have hy' : p64 y := hy
  clear hx hy
  have hx := hx'
  have hy := hy'
  clear hx' hy'
  have hm : ∀ z : Int, W.wrap .u64 (W.and .u64 z 4294967295) = z % 4294967296 := by intro z; rw [W.and_32, W.wu64]; omega
  have hp : ∀ z : Int, p64 (z % 4294967296) := by intro z; unfold p64; omega
  have hla := low_p (w := w) hx
  have hlb := low_p (w := w) hy
  have hcnt : 0 ≤ cnt (low y w) w ∧ cnt (low y w) w ≤ 64 := by unfold cnt; cases w <;> simp <;> omega
  have hr : ∀ op, F_clevisref01shift R (op, low x w, cnt (low y w) w, w) = fun k => k (it op (if ng (low x w) w = true ∧ op = 192 then topW w else 0) (cnt (low y w) w).toNat (low x w)) := by
    intro op; funext k; exact rshift_eq (op, low x w, cnt (low y w) w, w) hla hcnt k
  have hs : ∀ op, (op = 96 ∨ op = 112 ∨ op = 192) → low (it op (if ng (low x w) w = true ∧ op = 192 then topW w else 0) (cnt (low y w) w).toNat (low x w)) w = low (shf op (low x w) (low y w) w) w :=
    fun op ho => sh_same hla hlb.1 (by intro e; subst e; exact (low_32 x).2) ho
  have hq := quo_le hla.1 hlb.1
  have hrm := rem_le hla.1 hlb.1
  cases w
  · have hc : W.wrap .i64 (W.rem (y % 4294967296) 32) = cnt (low y false) false := by
      unfold W.rem cnt low
      rw [Int.tmod_eq_emod_of_nonneg (by omega)]
      simp only [Bool.false_eq_true, if_false]
      exact W.wi64_id (by omega) (by omega)
    have h2 : ∀ z : Int, z % 4294967296 = low z false := fun z => rfl
    simp only [F_clevisref01Alu, N_clevisref01Alu, hm, W.not, Bool.not_false, br_t, hc]
    simp only [h2, hr]
    have ax := low_32 x
    have ay := low_32 y
    have lid : ∀ z : Int, 0 ≤ z → z < 4294967296 → low z false = z := by intro z h1 h2; simp [low]; omega
    have lw : ∀ z : Int, W.wrap .u64 (low z false) = low z false := by intro z; rw [W.wu64]; simp [low]; omega
    have ll : ∀ z : Int, low (low z false) false = low z false := by intro z; simp [low]
    have e0 : low 0 false = 0 := by simp [low]
    unfold alu
    generalize low x false = a at *
    generalize low y false = b at *
    have hm2 : ∀ z : Int, z % 4294967296 = low z false := h2
    by_cases h : op = 48
    · subst h
      by_cases hz : b = 0
      · simp [br_ite, W.eq_t, W.ne_t, hz, lw, ll, e0, hm2]
      · have h1 : W.wrap .u64 (W.quo a b) = W.quo a b := W.wu64_id (by omega) (by omega)
        have h2 : low (W.quo a b) false = W.quo a b := lid _ (by omega) (by omega)
        simp [br_ite, W.eq_t, W.ne_t, hz, h1, h2, hm2, lw]
    by_cases h : op = 144
    · subst h
      by_cases hz : b = 0
      · have la : low a false = a := lid _ ax.1 ax.2
        simp [br_ite, W.eq_t, W.ne_t, hz, lw, ll, e0, hm2, la]
      · have h2 : low (W.rem a b) false = W.rem a b := lid _ (by omega) (by omega)
        simp [br_ite, W.eq_t, W.ne_t, hz, h2, hm2, lw]
    by_cases h : op = 96
    · subst h; have := hs 96 (.inl rfl); simp [br_ite, W.eq_t] at this ⊢; rw [this]
    by_cases h : op = 112
    · subst h; have := hs 112 (.inr (.inl rfl)); simp [br_ite, W.eq_t] at this ⊢; rw [this]
    by_cases h : op = 192
    · subst h; have := hs 192 (.inr (.inr rfl)); simp [br_ite, W.eq_t] at this ⊢; rw [this]
    simp only [br_ite, W.eq_t, *, if_false, or_self, apply_ite k, lw, ll, e0, hm2]
  · have hc : W.wrap .i64 (W.rem y 64) = cnt (low y true) true := by
      unfold p64 at hy
      unfold W.rem cnt low
      rw [Int.tmod_eq_emod_of_nonneg (by omega)]
      simp only [if_true]
      exact W.wi64_id (by omega) (by omega)
    have hr' : ∀ op, F_clevisref01shift R (op, x, cnt (low y true) true, true) = fun k => k (it op (if ng (low x true) true = true ∧ op = 192 then topW true else 0) (cnt (low y true) true).toNat (low x true)) := hr
    simp only [F_clevisref01Alu, N_clevisref01Alu, W.not, Bool.not_true, br_f, hc, hr']
    have ll : ∀ z : Int, low z true = z := by intro z; simp [low]
    unfold alu
    simp only [ll] at *
    unfold p64 at *
    by_cases h : op = 48
    · subst h
      by_cases hz : y = 0
      · simp [br_ite, W.eq_t, W.ne_t, hz, true_and]
      · have h1 : W.wrap .u64 (W.quo x y) = W.quo x y := W.wu64_id (by omega) (by omega)
        skip
        simp [br_ite, W.eq_t, W.ne_t, hz, h1, true_and]
    by_cases h : op = 144
    · subst h
      by_cases hz : y = 0
      · simp [br_ite, W.eq_t, W.ne_t, hz, true_and]
      · simp [br_ite, W.eq_t, W.ne_t, hz, true_and]
    by_cases h : op = 96
    · subst h; have := hs 96 (.inl rfl); simp [br_ite, W.eq_t] at this ⊢; rw [this]
    by_cases h : op = 112
    · subst h; have := hs 112 (.inr (.inl rfl)); simp [br_ite, W.eq_t] at this ⊢; rw [this]
    by_cases h : op = 192
    · subst h; have := hs 192 (.inr (.inr rfl)); simp [br_ite, W.eq_t] at this ⊢; rw [this]
    simp only [br_ite, W.eq_t, *, if_false, or_self, apply_ite k, true_and]
end Go.Proofs.YtiojpgompgmicaaDoor
