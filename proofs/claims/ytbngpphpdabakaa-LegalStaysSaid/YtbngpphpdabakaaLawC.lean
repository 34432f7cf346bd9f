import Derived.Test.YtbngpphpdabakaaLawB
set_option linter.unusedVariables false
set_option linter.unusedSimpArgs false
set_option maxHeartbeats 4000000
set_option maxRecDepth 100000
namespace Go.Proofs.Ytbngpphpdabakaa
open Go Go.Eng
variable {R : Type}
/-! ### which instructions may be -/
abbrev In : Type := Int × Int × Int × Int × Int × Int
noncomputable def fldP (x : In) (d : Int) : Prop := (0 ≤ x.2.1 ∧ x.2.1 ≤ d) ∧ (0 ≤ x.2.2.1 ∧ x.2.2.1 ≤ 10) ∧ (-32768 ≤ x.2.2.2.1 ∧ x.2.2.2.1 ≤ 32767) ∧ (-2147483648 ≤ x.2.2.2.2.1 ∧ x.2.2.2.2.1 ≤ 2147483647)
def r8 (op : Int) : Int := W.wrap .i64 (W.and .i64 op 8)
theorem r8_nn (op : Int) : 0 ≤ r8 op := by
  unfold r8
  have h : 0 ≤ W.and .i64 op 8 ∧ W.and .i64 op 8 ≤ 8 := by
    show 0 ≤ (((BitVec.ofInt 64 op &&& BitVec.ofInt 64 8).toNat : Nat) : Int) ∧ (((BitVec.ofInt 64 op &&& BitVec.ofInt 64 8).toNat : Nat) : Int) ≤ 8
    have : (BitVec.ofInt 64 op &&& BitVec.ofInt 64 8).toNat ≤ 8 := by rw [BitVec.toNat_and]; exact Nat.and_le_right
    omega
  rw [W.wi64_id (by omega) (by omega)]; exact h.1
noncomputable def opnP (x : In) : Prop := if 0 < r8 x.1 then x.2.2.2.2.1 = 0 else x.2.2.1 = 0
def isSh (o : Int) : Prop := o = 96 ∨ o = 112 ∨ o = 192
def lalP (x : In) (o : Int) (w : Bool) : Prop :=
  opnP x ∧ x.2.2.2.1 = 0 ∧ (o = 128 → x.2.2.2.2.1 = 0) ∧ (isSh o → (w = true ∧ x.2.2.2.2.1 ≤ 63 ∧ 0 ≤ x.2.2.2.2.1) ∨ (0 ≤ x.2.2.2.2.1 ∧ x.2.2.2.2.1 ≤ 31))
open Classical in
theorem lwithin_eq (x : PTs.D ps_legal_within) (k : Bool → Option R) : F_legal_within R x k = k (decide (x.2.1 ≤ x.1 ∧ x.1 ≤ x.2.2)) := by
  obtain ⟨n, a, b⟩ := x
  simp only [F_legal_within, N_legal_within]
  exact congrArg k (dec_eq (by simp [W.pick, W.ge, W.le]))
open Classical in
theorem rwithin_eq (x : PTs.D ps_clevisref04within) (k : Bool → Option R) : F_clevisref04within R x k = k (decide (x.2.1 ≤ x.1 ∧ x.1 ≤ x.2.2)) := by
  obtain ⟨n, a, b⟩ := x
  simp only [F_clevisref04within, N_clevisref04within]
  exact congrArg k (dec_eq (by simp [W.pick, W.ge, W.le]))
open Classical in
theorem lfields_eq (x : PTs.D ps_legal_fields) (k : Bool → Option R) : F_legal_fields R x k = k (decide (fldP x.1 x.2)) := by
  obtain ⟨⟨a, b, c, e, f, g⟩, d⟩ := x
  simp only [F_legal_fields, N_legal_fields, lwithin_eq, br_k k]
  refine congrArg k (dec_eq (p := fldP (a, b, c, e, f, g) d) ?_)
  simp only [fldP]
  by_cases h1 : 0 ≤ b ∧ b ≤ d <;> by_cases h2 : 0 ≤ c ∧ c ≤ 10 <;> by_cases h3 : -32768 ≤ e ∧ e ≤ 32767 <;> by_cases h4 : -2147483648 ≤ f ∧ f ≤ 2147483647 <;> simp [h1, h2, h3, h4, W.pick]
open Classical in
theorem loperand_eq (x : PTs.D ps_legal_operand) (k : Bool → Option R) : F_legal_operand R x k = k (decide (opnP x)) := by
  obtain ⟨a, b, c, e, f, g⟩ := x
  simp only [F_legal_operand, N_legal_operand, br_k k]
  refine congrArg k (dec_eq (p := opnP (a, b, c, e, f, g)) ?_)
  show (bif W.gt (r8 a) 0 then W.eq f 0 else W.eq c 0) = true ↔ _
  unfold opnP
  by_cases h : 0 < r8 a
  · simp [W.gt, h, W.eq]
  · simp [W.gt, h, W.eq]
open Classical in
theorem lalu3_eq (x : PTs.D ps_legal_alu) (k : Bool → Option R) : F_legal_alu R x k = k (decide (lalP x.1 x.2.1 x.2.2)) := by
  obtain ⟨⟨a, b, c, e, f, g⟩, o, w⟩ := x
  simp only [F_legal_alu, N_legal_alu, loperand_eq, lwithin_eq, br_k k]
  refine congrArg k (dec_eq (p := lalP (a, b, c, e, f, g) o w) ?_)
  unfold lalP isSh
  simp only
  by_cases h0 : opnP (a, b, c, e, f, g)
  rotate_left
  · simp [h0, W.not, W.pick]
  by_cases h1 : e = 0
  rotate_left
  · simp [h0, h1, W.not, W.pick, W.ne]
  by_cases h2 : o = 128
  · subst h2; simp [h0, h1, W.not, W.pick, W.ne, W.eq]
  by_cases h3 : o = 96
  · subst h3; simp [h0, h1, W.not, W.pick, W.ne, W.eq, W.le, W.ge]; cases w <;> simp <;> grind
  by_cases h4 : o = 112
  · subst h4; simp [h0, h1, W.not, W.pick, W.ne, W.eq, W.le, W.ge]; cases w <;> simp <;> grind
  by_cases h5 : o = 192
  · subst h5; simp [h0, h1, W.not, W.pick, W.ne, W.eq, W.le, W.ge]; cases w <;> simp <;> grind
  · simp [h0, h1, h2, h3, h4, h5, W.not, W.pick, W.ne, W.eq]
open Classical in
theorem nought_eq (l : List Int) (hl : l.length < 1000) (k : Bool → Option R) : F_legal_nought R l k = k (decide (∀ i, i < l.length → l.getD i 0 = 0)) := by
  simp only [F_legal_nought, N_legal_nought, W.ofNat_eq, W.len_eq]
  have := loop_all (P := fun n (t : Int) => P_legal_nought_2_0 W.big n R l (l.length : Int) t k) (N := l.length) (c := fun i => l.getD i 0 = 0) (kt := k true) (kf := k false)
    (by
      intro n t ht
      simp only [P_legal_nought_2_0_s, W.ofNat_eq, W.len_eq, W.get_eq, W.toNat_nat]
      rw [W.lt_d, W.le_d, W.and2_d, decide_eq_true (show (t : Int) < (l.length : Int) by omega), br_t, decide_eq_true (show (0 : Int) ≤ (t : Int) ∧ (t : Int) < (l.length : Int) by omega), br_t, W.ne_d, W.succ64 (by omega), br_d]
      by_cases h : l.getD t 0 = 0
      · rw [if_pos h, if_neg (by simpa using h)]
      · rw [if_neg h, if_pos h])
    (by
      intro n
      simp only [P_legal_nought_2_0_s]
      rw [W.lt_irr, br_f]) l.length W.big 0 (by omega) (big_lt (by omega))
  refine this.trans ?_
  by_cases h : ∀ i, i < l.length → l.getD i 0 = 0
  · rw [decide_eq_true h, if_pos (fun i _ h2 => h i h2)]
  · rw [decide_eq_false h, if_neg (fun h2 => h fun i hi => h2 i (by omega) hi)]
open Classical in
theorem nought1 (a : Int) (k : Bool → Option R) : F_legal_nought R [a] k = k (decide (a = 0)) := by
  rw [nought_eq _ (by simp)]
  congr 1; rw [decide_eq_decide]
  constructor
  · intro h; exact h 0 (by simp)
  · rintro h i hi; match i, hi with | 0, _ => exact h
open Classical in
theorem nought3 (a b c : Int) (k : Bool → Option R) : F_legal_nought R [a, b, c] k = k (decide (a = 0 ∧ b = 0 ∧ c = 0)) := by
  rw [nought_eq _ (by simp)]
  congr 1; rw [decide_eq_decide]
  constructor
  · intro h; exact ⟨h 0 (by simp), h 1 (by simp), h 2 (by simp)⟩
  · rintro ⟨h0, h1, h2⟩ i hi; match i, hi with | 0, _ => exact h0 | 1, _ => exact h1 | 2, _ => exact h2
open Classical in
theorem nought4 (a b c d : Int) (k : Bool → Option R) : F_legal_nought R [a, b, c, d] k = k (decide (a = 0 ∧ b = 0 ∧ c = 0 ∧ d = 0)) := by
  rw [nought_eq _ (by simp)]
  congr 1; rw [decide_eq_decide]
  constructor
  · intro h; exact ⟨h 0 (by simp), h 1 (by simp), h 2 (by simp), h 3 (by simp)⟩
  · rintro ⟨h0, h1, h2, h3⟩ i hi; match i, hi with | 0, _ => exact h0 | 1, _ => exact h1 | 2, _ => exact h2 | 3, _ => exact h3
def twoP (x : In) : Prop := x.2.2.2.1 = 0 ∧ x.2.2.2.2.2 % 4294967296 = x.2.2.2.2.1 % 4294967296 ∧ (if x.2.2.1 = 1 then (0 ≤ x.2.2.2.2.1 ∧ x.2.2.2.2.1 ≤ 7) ∧ x.2.2.2.2.2 / 4294967296 = 0 else x.2.2.1 = 0)
open Classical in
theorem ltwo_eq (x : PTs.D ps_legal_two) (k : Bool → Option R) : F_legal_two R x k = k (decide (twoP x)) := by
  obtain ⟨a, b, c, e, f, g⟩ := x
  simp only [F_legal_two, N_legal_two, lwithin_eq, br_k k]
  rw [nought1]
  refine congrArg k (dec_eq (p := twoP (a, b, c, e, f, g)) ?_)
  unfold twoP
  simp only [W.wu32]
  have : W.shr .u64 g 32 = g / 4294967296 := by
    have := shr_u (x := g) (n := 32) (by omega)
    simpa using this
  rw [this]
  by_cases h1 : e = 0
  rotate_left
  · simp [h1, W.not, W.pick]
  by_cases h2 : g % 4294967296 = f % 4294967296
  rotate_left
  · simp [h1, h2, W.not, W.pick, W.ne]
  by_cases h3 : c = 1
  · simp [h1, h2, h3, W.not, W.pick, W.ne, W.eq]
  · simp [h1, h2, h3, W.not, W.pick, W.ne, W.eq]
noncomputable def tailP (x : In) : Prop :=
  if x.1 = 5 then x.2.1 = 0 ∧ x.2.2.1 = 0 ∧ x.2.2.2.2.1 = 0 else if x.1 = 133 then (x.2.1 = 0 ∧ x.2.2.1 = 0 ∧ x.2.2.2.1 = 0) ∧ 1 ≤ x.2.2.2.2.1 ∧ x.2.2.2.2.1 ≤ 5
   else if x.1 = 149 then x.2.1 = 0 ∧ x.2.2.1 = 0 ∧ x.2.2.2.1 = 0 ∧ x.2.2.2.2.1 = 0 else if x.1 = 24 then twoP x
   else sizT x.1 ≠ 0 ∧ if clsT x.1 = 2 then x.2.2.1 = 0 else x.2.2.2.2.1 = 0
noncomputable def bodyP (x : In) (d : Int) (y : Int × Bool × Bool) (j : Bool) : Prop :=
  fldP x d ∧ (x.1 ≠ 24 → x.2.2.2.2.2 = 0) ∧ (if y.2.2 = true then lalP x y.1 y.2.1 else if j = true then opnP x else tailP x)
noncomputable def insL (x : In) : Prop := bodyP x (if (aluT x.1).2.2 = true ∨ clsT x.1 = 1 ∨ x.1 = 24 then 9 else 10) (aluT x.1) (jmpT x.1).2.2
open Classical in
/-- What stands behind the fields. -/
theorem lins_tail (a b c e f g : Int) (k : Bool → Option R) :
    (br (W.eq a 5) (F_legal_nought R [b, c, f] fun y => k y)
      (br (W.eq a 133) (F_legal_nought R [b, c, e] fun y => br y (F_legal_within R (f, 1, 5) fun y => k (W.pick true y false)) (k false))
        (br (W.eq a 149) (F_legal_nought R [b, c, e, f] fun y => k y)
          (br (W.eq a 24) (F_legal_two R (a, b, c, e, f, g) fun y => k y)
            (F_legal_Size R a fun y => br (W.eq y 0) (k false) (F_legal_class R a fun y => br (W.eq y 2) (F_legal_nought R [c] fun y => k y) (F_legal_nought R [f] fun y => k y))))))) =
    k (decide (tailP (a, b, c, e, f, g))) := by
  rw [nought3, nought3, nought4, nought1, nought1, lwithin_eq, ltwo_eq, lsize_eq, class_eq]
  simp only [W.eq_d, br_d, W.pick_eq, cond_true, cond_false]
  unfold tailP
  simp only
  by_cases h1 : a = 5
  · rw [if_pos h1]; congr 1; rw [decide_eq_decide, if_pos h1]
  rw [if_neg h1]
  by_cases h2 : a = 133
  · rw [if_pos h2]
    by_cases h3 : b = 0 ∧ c = 0 ∧ e = 0
    · rw [if_pos h3]; congr 1; rw [decide_eq_decide, if_neg h1, if_pos h2]; exact ⟨fun h => ⟨h3, h⟩, fun h => h.2⟩
    · rw [if_neg h3]; congr 1; symm; rw [decide_eq_false_iff_not, if_neg h1, if_pos h2]; exact fun h => h3 h.1
  rw [if_neg h2]
  by_cases h3 : a = 149
  · rw [if_pos h3]; congr 1; rw [decide_eq_decide, if_neg h1, if_neg h2, if_pos h3]
  rw [if_neg h3]
  by_cases h4 : a = 24
  · rw [if_pos h4]; congr 1; rw [decide_eq_decide, if_neg h1, if_neg h2, if_neg h3, if_pos h4]
  rw [if_neg h4]
  by_cases h5 : sizT a = 0
  · rw [if_pos h5]; congr 1; symm; rw [decide_eq_false_iff_not, if_neg h1, if_neg h2, if_neg h3, if_neg h4]; exact fun h => h.1 h5
  · rw [if_neg h5]
    by_cases h6 : clsT a = 2
    · rw [if_pos h6]; congr 1; rw [decide_eq_decide, if_neg h1, if_neg h2, if_neg h3, if_neg h4, if_pos h6]; exact ⟨fun h => ⟨h5, h⟩, fun h => h.2⟩
    · rw [if_neg h6]; congr 1; rw [decide_eq_decide, if_neg h1, if_neg h2, if_neg h3, if_neg h4, if_neg h6]; exact ⟨fun h => ⟨h5, h⟩, fun h => h.2⟩
open Classical in
theorem lins_body (a b c e f g d : Int) (y : Int × Bool × Bool) (j : Bool) (k : Bool → Option R) :
    (F_legal_fields R ((a, b, c, e, f, g), d) fun y_3 =>
      br (W.pick (W.not y_3) true (W.pick (W.ne a 24) (W.ne g 0) false)) (k false)
        (br y.2.2 (F_legal_alu R ((a, b, c, e, f, g), y.1, y.2.1) fun y => k y)
          (br j (F_legal_operand R (a, b, c, e, f, g) fun y => k y)
            (br (W.eq a 5) (F_legal_nought R [b, c, f] fun y => k y)
      (br (W.eq a 133) (F_legal_nought R [b, c, e] fun y => br y (F_legal_within R (f, 1, 5) fun y => k (W.pick true y false)) (k false))
        (br (W.eq a 149) (F_legal_nought R [b, c, e, f] fun y => k y)
          (br (W.eq a 24) (F_legal_two R (a, b, c, e, f, g) fun y => k y)
            (F_legal_Size R a fun y => br (W.eq y 0) (k false) (F_legal_class R a fun y => br (W.eq y 2) (F_legal_nought R [c] fun y => k y) (F_legal_nought R [f] fun y => k y)))))))))) =
    k (decide (bodyP (a, b, c, e, f, g) d y j)) := by
  rw [lins_tail, lfields_eq, lalu3_eq, loperand_eq]
  unfold bodyP
  simp only
  by_cases h1 : fldP (a, b, c, e, f, g) d
  rotate_left
  · rw [decide_eq_false h1]; show k false = _; congr 1; symm; rw [decide_eq_false_iff_not]; exact fun h => h1 h.1
  by_cases h2 : a ≠ 24 → g = 0
  rotate_left
  · have h3 : a ≠ 24 ∧ ¬ g = 0 := by
      refine ⟨fun h => h2 fun h' => absurd h h', fun h => h2 fun _ => h⟩
    rw [decide_eq_true h1, W.ne_d, W.ne_d, decide_eq_true h3.1, decide_eq_true h3.2]
    show k false = _; congr 1; symm; rw [decide_eq_false_iff_not]; exact fun h => h2 h.2.1
  have h3 : W.pick (W.not (decide (fldP (a, b, c, e, f, g) d))) true (W.pick (W.ne a 24) (W.ne g 0) false) = false := by
    rw [decide_eq_true h1, W.ne_d, W.ne_d]
    by_cases h : a = 24
    · rw [decide_eq_false (fun h' => h' h)]; rfl
    · rw [decide_eq_true h, decide_eq_false (fun h' => h' (h2 h))]; rfl
  rw [h3, br_f]
  cases h4 : y.2.2 with
  | true =>
    rw [br_t]; congr 1; rw [decide_eq_decide]; simp only [if_true]
    exact ⟨fun h => ⟨h1, h2, h⟩, fun h => h.2.2⟩
  | false =>
    rw [br_f]
    cases j with
    | true =>
      rw [br_t]; congr 1; rw [decide_eq_decide]; simp only [if_true, Bool.false_eq_true, if_false]
      exact ⟨fun h => ⟨h1, h2, h⟩, fun h => h.2.2⟩
    | false =>
      rw [br_f]; congr 1; rw [decide_eq_decide]; simp only [Bool.false_eq_true, if_false]
      exact ⟨fun h => ⟨h1, h2, h⟩, fun h => h.2.2⟩
open Classical in
theorem lins_eq (x : PTs.D ps_legal_Ins) (k : Bool → Option R) : F_legal_Ins R x k = k (decide (insL x)) := by
  obtain ⟨(a : Int), (b : Int), (c : Int), (e : Int), (f : Int), (g : Int)⟩ := x
  simp only [F_legal_Ins, N_legal_Ins]
  rw [lalu_eq, ljmp_eq, class_eq]
  rw [lins_body, lins_body]
  unfold insL
  simp only [W.not_eq, W.eq_d]
  cases h1 : (aluT a).2.2 with
  | true =>
    simp only [Bool.not_true, br_f, W.pick_eq, cond_true, br_t, true_or, if_true]
  | false =>
    simp only [Bool.not_false, br_t, W.pick_eq, cond_false, Bool.false_eq_true, false_or]
    by_cases h2 : clsT a = 1
    · rw [decide_eq_true h2, cond_true, br_t, if_pos (.inl h2)]
    · rw [decide_eq_false h2, cond_false, br_d]
      by_cases h3 : a = 24
      · rw [if_pos h3, if_pos (.inr h3)]
      · rw [if_neg h3, if_neg (fun h => h.elim h2 h3)]
end Go.Proofs.Ytbngpphpdabakaa
