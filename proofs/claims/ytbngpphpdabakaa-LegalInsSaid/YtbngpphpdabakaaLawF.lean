import Derived.Test.YtbngpphpdabakaaLawE
set_option linter.unusedVariables false
set_option linter.unusedSimpArgs false
set_option maxHeartbeats 4000000
set_option maxRecDepth 100000
namespace Go.Proofs.Ytbngpphpdabakaa
open Go Go.Eng
variable {R : Type}
/-! ### which programs may be -/
def tgtP (l : List In) (s : Int) : Prop := s < 0 ∨ (l.length : Int) ≤ s ∨ holeP l s
/-- What is wrong at a place. -/
noncomputable def badP (l : List In) (i : Nat) : Prop :=
  ¬ holeP l (i : Int) ∧ ((¬ insL (l.getD i z6) ∨ ((l.getD i z6).1 = 24 ∧ (l.length ≤ i + 1 ∨ l.getD (i + 1) z6 ≠ z6))) ∨ ∃ s ∈ sucP l (i : Int), tgtP l s)
open Classical in
noncomputable def chkF (l : List In) : Nat → Nat → Int × Int
  | 0, _ => (0, 0)
  | m + 1, i => if badP l i then ((i : Int), 40) else chkF l m (i + 1)
open Classical in
noncomputable def chkL (l : List In) : Int × Int := if 4096 < l.length then (0, 31) else if l.length = 0 then (0, 40) else chkF l l.length 0
theorem z6_eq (x : In) : W.and2 (W.eq x.1 0) (W.and2 (W.eq x.2.1 0) (W.and2 (W.eq x.2.2.1 0) (W.and2 (W.eq x.2.2.2.1 0) (W.and2 (W.eq x.2.2.2.2.1 0) (W.and2 (W.eq x.2.2.2.2.2 0) true))))) = true ↔ x = z6 := by
  obtain ⟨(a : Int), (b : Int), (c : Int), (e : Int), (f : Int), (g : Int)⟩ := x
  simp only [W.eq_d, W.and2_d, z6]
  simp [W.and2, Prod.ext_iff]
def InsWf (l : List In) : Prop := ∀ i : Nat, 0 ≤ (l.getD i z6).2.2.2.2.2 ∧ (l.getD i z6).2.2.2.2.2 < 18446744073709551616
open Classical in
/-- Where one may go on: all of them are looked at. -/
theorem tgt_loop {l : List In} {s : List Int} {P : Nat → Int → Option R} {kt kf : Option R} (hs : s.length < 1000000000000000)
    (h1 : ∀ n t, t < s.length → P (n + 1) (t : Int) = if tgtP l (s.getD t 0) then kf else P n ((t + 1 : Nat) : Int)) (h2 : ∀ n, P (n + 1) (s.length : Int) = kt) : P W.big 0 = if ∃ x ∈ s, tgtP l x then kf else kt := by
  have := loop_all (P := P) (N := s.length) (c := fun i => ¬ tgtP l (s.getD i 0)) (kt := kt) (kf := kf)
    (by intro n t ht; rw [h1 n t ht]; by_cases h : tgtP l (s.getD t 0)
        · rw [if_pos h, if_neg (fun h2 => h2 h)]
        · rw [if_neg h, if_pos h]) h2 s.length W.big 0 (by omega) (big_lt (by omega))
  rw [show ((0 : Nat) : Int) = 0 from rfl] at this
  rw [this]
  by_cases h : ∃ x ∈ s, tgtP l x
  · rw [if_pos h, if_neg]
    obtain ⟨x, hx, ht⟩ := h
    obtain ⟨i, hi, rfl⟩ := List.getElem_of_mem hx
    intro h3
    apply h3 i (by omega) hi
    simpa [List.getD_eq_getElem?_getD, List.getElem?_eq_getElem hi] using ht
  · rw [if_neg h, if_pos]
    intro i _ hi ht
    apply h
    refine ⟨s[i], List.getElem_mem hi, ?_⟩
    simpa [List.getD_eq_getElem?_getD, List.getElem?_eq_getElem hi] using ht
theorem suc_len (l : List In) (i : Int) : (sucP l i).length ≤ 2 := by
  unfold sucP
  split; · simp
  split; · simp
  split; · simp
  split; · simp
  split <;> simp
open Classical in
theorem tgt_test {l : List In} {s : Int} : W.pick (W.lt s 0) true (W.ge s (l.length : Int)) = decide (s < 0 ∨ (l.length : Int) ≤ s) := by
  rw [Bool.eq_iff_iff, W.picko_t, W.lt_t]; simp [W.ge]
open Classical in
theorem lchk_in {l : List In} (hl : l.length < 1000000000000000) {i y1 : Int} {y3 : List In} {y4 : Int} {s : List Int} (hs : s.length < 1000000000000000) {fl o : Nat} {k : Int × Int → Option R} :
    P_legal_Check_12_0 F_legal_Ins F_code_Hole F_legal_Succ fl o W.big R l i y3 y1 y4 s (s.length : Int) 0 k = if ∃ x ∈ s, tgtP l x then k (i, 40) else P_legal_Check_6_0 F_legal_Ins F_code_Hole F_legal_Succ fl o R l y3 y1 (W.wrap .i64 (W.add y4 1)) k := by
  refine tgt_loop (P := fun n t => P_legal_Check_12_0 F_legal_Ins F_code_Hole F_legal_Succ fl o n R l i y3 y1 y4 s (s.length : Int) t k) hs ?_ ?_
  · intro n t ht
    simp only [P_legal_Check_12_0_s, W.ofNat_eq, W.len_eq, W.get_eq, W.toNat_nat]
    rw [W.lt_d, W.le_d, W.and2_d, decide_eq_true (show (t : Int) < (s.length : Int) by omega), br_t, decide_eq_true (show (0 : Int) ≤ (t : Int) ∧ (t : Int) < (s.length : Int) by omega), br_t, tgt_test, W.not_eq, br_nd, W.succ64 (by omega)]
    by_cases h : s.getD t 0 < 0 ∨ (l.length : Int) ≤ s.getD t 0
    · rw [if_pos h, if_pos (show tgtP l (s.getD t 0) from h.elim .inl fun h => .inr (.inl h))]
    · rw [if_neg h, hole_eq (l, s.getD t 0) hl, W.pick_eq, cond_false, br_d]
      by_cases h2 : holeP l (s.getD t 0)
      · rw [if_pos h2, if_pos (show tgtP l (s.getD t 0) from .inr (.inr h2))]
      · rw [if_neg h2, if_neg]; rintro (h3 | h3 | h3); exact h (.inl h3); exact h (.inr h3); exact h2 h3
  · intro n
    simp only [P_legal_Check_12_0_s]
    rw [W.lt_irr, br_f]
open Classical in
theorem rchk_in {l : List In} (hl : l.length < 1000000000000000) {i : Int} {s : List Int} (hs : s.length < 1000000000000000) {fl o : Nat} {k : Int × Int → Option R} :
    P_clevisref04Check_13_0 F_clevisref04Ins F_clevisref03Hole F_clevisref04Succ fl o W.big R l i s 0 k = if ∃ x ∈ s, tgtP l x then k (i, 40) else P_clevisref04Check_6_0 F_clevisref04Ins F_clevisref03Hole F_clevisref04Succ fl o R l (W.wrap .i64 (W.add i 1)) k := by
  refine tgt_loop (P := fun n t => P_clevisref04Check_13_0 F_clevisref04Ins F_clevisref03Hole F_clevisref04Succ fl o n R l i s t k) hs ?_ ?_
  · intro n t ht
    simp only [P_clevisref04Check_13_0_s, W.ofNat_eq, W.len_eq, W.get_eq, W.toNat_nat]
    rw [W.lt_d, W.le_d, W.and2_d, decide_eq_true (show (t : Int) < (s.length : Int) by omega), br_t, decide_eq_true (show (0 : Int) ≤ (t : Int) ∧ (t : Int) < (s.length : Int) by omega), br_t, tgt_test, W.succ64 (by omega)]
    have o1 : ∀ b : Bool, W.or2 b true = true := fun b => by cases b <;> rfl
    rw [o1, o1, br_t, br_t, W.not_eq, br_nd]
    by_cases h : s.getD t 0 < 0 ∨ (l.length : Int) ≤ s.getD t 0
    · rw [if_pos h, if_pos (show tgtP l (s.getD t 0) from h.elim .inl fun h => .inr (.inl h))]
    · rw [if_neg h, rhole_eq (l, s.getD t 0) hl, W.pick_eq, cond_false, br_d]
      by_cases h2 : holeP l (s.getD t 0)
      · rw [if_pos h2, if_pos (show tgtP l (s.getD t 0) from .inr (.inr h2))]
      · rw [if_neg h2, if_neg]; rintro (h3 | h3 | h3); exact h (.inl h3); exact h (.inr h3); exact h2 h3
  · intro n
    simp only [P_clevisref04Check_13_0_s, W.ofNat_eq, W.len_eq]
    rw [W.lt_irr, br_f]
open Classical in
theorem form_t (x y : In) (p : Prop) {c : Bool} (hc : c = decide p) :
    W.pick (W.not (decide (insL x))) true (W.pick (W.eq x.1 24) (W.pick c true
        (W.not (W.and2 (W.eq y.1 0) (W.and2 (W.eq y.2.1 0) (W.and2 (W.eq y.2.2.1 0) (W.and2 (W.eq y.2.2.2.1 0) (W.and2 (W.eq y.2.2.2.2.1 0) (W.and2 (W.eq y.2.2.2.2.2 0) true)))))))) false) =
        decide (¬ insL x ∨ (x.1 = 24 ∧ (p ∨ y ≠ z6))) := by
  have e1 := dec_eq (z6_eq y)
  rw [e1, hc, W.eq_d]
  by_cases hA : insL x <;> by_cases hB : x.1 = 24 <;> by_cases hC : p <;> by_cases hD : y = z6 <;> simp [hA, hB, hC, hD, W.pick, W.not]
open Classical in
theorem lchk_out {l : List In} (hl : l.length < 1000000000000000) {k : Int × Int → Option R} : ∀ (m i e : Nat), i + m = l.length →
    P_legal_Check_6_0 F_legal_Ins F_code_Hole F_legal_Succ W.big (e + m + 1) R l l (l.length : Int) (i : Int) k = k (chkF l m i)
  | 0, i, e, h => by
    have : i = l.length := by omega
    subst this
    simp only [P_legal_Check_6_0_s]
    rw [W.lt_irr, br_f]; rfl
  | m + 1, i, e, h => by
    have ih := lchk_out hl (k := k) m (i + 1) e (by omega)
    rw [show e + (m + 1) + 1 = (e + m + 1) + 1 from by omega, P_legal_Check_6_0_s]
    simp only [W.ofNat_eq, W.len_eq, W.get_eq, W.toNat_nat]
    rw [W.lt_d, W.le_d, W.and2_d, decide_eq_true (show (i : Int) < (l.length : Int) by omega), br_t, decide_eq_true (show (0 : Int) ≤ (i : Int) ∧ (i : Int) < (l.length : Int) by omega), br_t, hole_eq (l, (i : Int)) hl, W.succ64 (by omega), ih]
    show br (decide (holeP l (i : Int))) _ _ = k (chkF l (m + 1) i)
    rw [chkF, br_d]
    by_cases hh : holeP l (i : Int)
    · rw [if_pos hh, if_neg (fun h2 => h2.1 hh)]
    rw [if_neg hh]
    show F_legal_Ins R (l.getD i z6) _ = _
    rw [lins_eq, W.toNat_nat]
    have o1 : W.or2 (W.not (W.and2 (W.and2 (W.not (W.not (decide (insL (l.getD i z6))))) (W.eq (l.getD i z6).1 24)) (W.not (W.eq ((i + 1 : Nat) : Int) (l.length : Int))))) (W.and2 (W.le 0 ((i + 1 : Nat) : Int)) (W.lt ((i + 1 : Nat) : Int) (l.length : Int))) = true := by
      by_cases h3 : i + 1 = l.length
      · rw [h3, W.eq_d (a := (l.length : Int)) (b := (l.length : Int)), decide_eq_true (Eq.refl (l.length : Int)), W.not_eq true]
        generalize (W.and2 (W.not (W.not (decide (insL (l.getD i z6))))) (W.eq (l.getD i z6).1 24)) = b
        cases b <;> rfl
      · rw [W.le_d, W.lt_d, W.and2_d, decide_eq_true (show (0 : Int) ≤ ((i + 1 : Nat) : Int) ∧ ((i + 1 : Nat) : Int) < (l.length : Int) by omega)]
        generalize W.not (W.and2 (W.and2 (W.not (W.not (decide (insL (l.getD i z6))))) (W.eq (l.getD i z6).1 24)) (W.not (W.eq ((i + 1 : Nat) : Int) (l.length : Int)))) = b
        cases b <;> rfl
    have o2 : W.pick (W.not (decide (insL (l.getD i z6)))) true (W.pick (W.eq (l.getD i z6).1 24) (W.pick (W.eq ((i + 1 : Nat) : Int) (l.length : Int)) true
        (W.not (W.and2 (W.eq (l.getD (i + 1) z6).1 0) (W.and2 (W.eq (l.getD (i + 1) z6).2.1 0) (W.and2 (W.eq (l.getD (i + 1) z6).2.2.1 0) (W.and2 (W.eq (l.getD (i + 1) z6).2.2.2.1 0) (W.and2 (W.eq (l.getD (i + 1) z6).2.2.2.2.1 0) (W.and2 (W.eq (l.getD (i + 1) z6).2.2.2.2.2 0) true)))))))) false) =
        decide (¬ insL (l.getD i z6) ∨ ((l.getD i z6).1 = 24 ∧ (l.length ≤ i + 1 ∨ l.getD (i + 1) z6 ≠ z6))) := by
      refine (form_t (l.getD i z6) (l.getD (i + 1) z6) (l.length ≤ i + 1) (c := W.eq ((i + 1 : Nat) : Int) (l.length : Int)) (by rw [W.eq_d, decide_eq_decide]; omega)).trans ?_
      rw [decide_eq_decide]
    refine Eq.trans (show _ = br (W.or2 (W.not (W.and2 (W.and2 (W.not (W.not (decide (insL (l.getD i z6))))) (W.eq (l.getD i z6).1 24)) (W.not (W.eq ((i + 1 : Nat) : Int) (l.length : Int))))) (W.and2 (W.le 0 ((i + 1 : Nat) : Int)) (W.lt ((i + 1 : Nat) : Int) (l.length : Int)))) _ none from rfl) ?_
    rw [o1, br_t]
    refine Eq.trans (show _ = br (W.pick (W.not (decide (insL (l.getD i z6)))) true (W.pick (W.eq (l.getD i z6).1 24) (W.pick (W.eq ((i + 1 : Nat) : Int) (l.length : Int)) true
        (W.not (W.and2 (W.eq (l.getD (i + 1) z6).1 0) (W.and2 (W.eq (l.getD (i + 1) z6).2.1 0) (W.and2 (W.eq (l.getD (i + 1) z6).2.2.1 0) (W.and2 (W.eq (l.getD (i + 1) z6).2.2.2.1 0) (W.and2 (W.eq (l.getD (i + 1) z6).2.2.2.2.1 0) (W.and2 (W.eq (l.getD (i + 1) z6).2.2.2.2.2 0) true)))))))) false)) _ _ from rfl) ?_
    rw [o2, br_d, lsuc_eq (l, (i : Int)) hl, lchk_in (s := sucP l (i : Int)) hl (by have := suc_len l (i : Int); omega), W.succ64 (by omega), ih]
    by_cases h3 : ¬ insL (l.getD i z6) ∨ ((l.getD i z6).1 = 24 ∧ (l.length ≤ i + 1 ∨ l.getD (i + 1) z6 ≠ z6))
    · rw [if_pos h3, if_pos ⟨hh, .inl h3⟩]
    · rw [if_neg h3]
      by_cases h4 : ∃ s ∈ sucP l (i : Int), tgtP l s
      · rw [if_pos h4, if_pos ⟨hh, .inr h4⟩]
      · rw [if_neg h4, if_neg (fun h5 => h5.2.elim h3 h4)]
open Classical in
theorem lchk_eq (l : List In) (hl : l.length < 1000000000000000) (k : Int × Int → Option R) : F_legal_Check R l k = k (chkL l) := by
  simp only [F_legal_Check, N_legal_Check, W.ofNat_eq, W.len_eq]
  unfold chkL
  rw [W.gt_d, W.eq_d, br_d, br_d]
  by_cases h1 : 4096 < l.length
  · rw [if_pos (show (4096 : Int) < (l.length : Int) by omega), if_pos h1]
  · rw [if_neg (show ¬ (4096 : Int) < (l.length : Int) by omega), if_neg h1]
    by_cases h2 : l.length = 0
    · rw [if_pos (show (l.length : Int) = 0 by omega), if_pos h2]
    · rw [if_neg (show ¬ (l.length : Int) = 0 by omega), if_neg h2]
      have hb : W.big = (W.big - (l.length + 1)) + l.length + 1 := by have : l.length < W.big := big_lt (by omega); omega
      have := lchk_out hl (k := k) l.length 0 (W.big - (l.length + 1)) (by omega)
      rw [← hb] at this
      exact this
open Classical in
theorem rchk_out {l : List In} (hl : l.length < 1000000000000000) (hw : InsWf l) {k : Int × Int → Option R} : ∀ (m i e : Nat), i + m = l.length →
    P_clevisref04Check_6_0 F_clevisref04Ins F_clevisref03Hole F_clevisref04Succ W.big (e + m + 1) R l (i : Int) k = k (chkF l m i)
  | 0, i, e, h => by
    have : i = l.length := by omega
    subst this
    simp only [P_clevisref04Check_6_0_s, W.ofNat_eq, W.len_eq]
    rw [W.lt_irr, br_f]; rfl
  | m + 1, i, e, h => by
    have ih := rchk_out hl hw (k := k) m (i + 1) e (by omega)
    rw [show e + (m + 1) + 1 = (e + m + 1) + 1 from by omega, P_clevisref04Check_6_0_s]
    simp only [W.ofNat_eq, W.len_eq, W.get_eq, W.toNat_nat]
    rw [W.lt_d, decide_eq_true (show (i : Int) < (l.length : Int) by omega), br_t, rhole_eq (l, (i : Int)) hl, W.succ64 (by omega), ih]
    show br (decide (holeP l (i : Int))) _ _ = k (chkF l (m + 1) i)
    rw [chkF, br_d]
    by_cases hh : holeP l (i : Int)
    · rw [if_pos hh, if_neg (fun h2 => h2.1 hh)]
    have tt : W.and2 true true = true := rfl
    rw [if_neg hh, W.le_d, decide_eq_true (show (0 : Int) ≤ (i : Int) by omega), tt, br_t]
    show F_clevisref04Ins R (l.getD i z6) _ = _
    have hes : decide (insR (l.getD i z6)) = decide (insL (l.getD i z6)) := by rw [decide_eq_decide]; exact (ins_same (hw i)).symm
    rw [rins4_eq _ (hw i).1, hes, W.toNat_nat]
    have t1 : ∀ b : Bool, W.or2 b true = true := fun b => by cases b <;> rfl
    have o1 : W.or2 (W.not (W.and2 (W.and2 (W.not (W.not (decide (insL (l.getD i z6))))) (W.eq (l.getD i z6).1 24)) (W.not (W.ge ((i + 1 : Nat) : Int) (l.length : Int))))) (W.and2 (W.le 0 ((i + 1 : Nat) : Int)) (W.lt ((i + 1 : Nat) : Int) (l.length : Int))) = true := by
      by_cases h3 : i + 1 = l.length
      · rw [h3, W.ge_d, decide_eq_true (Int.le_refl (l.length : Int)), W.not_eq true]
        generalize (W.and2 (W.not (W.not (decide (insL (l.getD i z6))))) (W.eq (l.getD i z6).1 24)) = b
        cases b <;> rfl
      · rw [W.le_d, W.lt_d, W.and2_d, decide_eq_true (show (0 : Int) ≤ ((i + 1 : Nat) : Int) ∧ ((i + 1 : Nat) : Int) < (l.length : Int) by omega)]
        exact t1 _
    have o2 : _ = decide (¬ insL (l.getD i z6) ∨ ((l.getD i z6).1 = 24 ∧ (l.length ≤ i + 1 ∨ l.getD (i + 1) z6 ≠ z6))) := (form_t (l.getD i z6) (l.getD (i + 1) z6) (l.length ≤ i + 1) (c := W.ge ((i + 1 : Nat) : Int) (l.length : Int)) (by rw [W.ge_d, decide_eq_decide]; omega)).trans (by rw [decide_eq_decide])
    refine Eq.trans (show _ = br (W.or2 (W.not (W.not (W.not (decide (insL (l.getD i z6)))))) true) (br (W.or2 (W.not (W.and2 (W.and2 (W.not (W.not (decide (insL (l.getD i z6))))) (W.eq (l.getD i z6).1 24)) (W.not (W.ge ((i + 1 : Nat) : Int) (l.length : Int))))) (W.and2 (W.le 0 ((i + 1 : Nat) : Int)) (W.lt ((i + 1 : Nat) : Int) (l.length : Int)))) _ none) none from rfl) ?_
    rw [t1, br_t, o1, br_t]
    refine Eq.trans (show _ = br (W.pick (W.not (decide (insL (l.getD i z6)))) true (W.pick (W.eq (l.getD i z6).1 24) (W.pick (W.ge ((i + 1 : Nat) : Int) (l.length : Int)) true
        (W.not (W.and2 (W.eq (l.getD (i + 1) z6).1 0) (W.and2 (W.eq (l.getD (i + 1) z6).2.1 0) (W.and2 (W.eq (l.getD (i + 1) z6).2.2.1 0) (W.and2 (W.eq (l.getD (i + 1) z6).2.2.2.1 0) (W.and2 (W.eq (l.getD (i + 1) z6).2.2.2.2.1 0) (W.and2 (W.eq (l.getD (i + 1) z6).2.2.2.2.2 0) true)))))))) false)) _ _ from rfl) ?_
    rw [o2, br_d, rsuc_eq (l, (i : Int)) hl, rchk_in (s := sucP l (i : Int)) hl (by have := suc_len l (i : Int); omega), W.succ64 (by omega), ih]
    by_cases h3 : ¬ insL (l.getD i z6) ∨ ((l.getD i z6).1 = 24 ∧ (l.length ≤ i + 1 ∨ l.getD (i + 1) z6 ≠ z6))
    · rw [if_pos h3, if_pos ⟨hh, .inl h3⟩]
    · rw [if_neg h3]
      by_cases h4 : ∃ s ∈ sucP l (i : Int), tgtP l s
      · rw [if_pos h4, if_pos ⟨hh, .inr h4⟩]
      · rw [if_neg h4, if_neg (fun h5 => h5.2.elim h3 h4)]
open Classical in
theorem rchk_eq (l : List In) (hl : l.length < 1000000000000000) (hw : InsWf l) (k : Int × Int → Option R) : F_clevisref04Check R l k = k (chkL l) := by
  simp only [F_clevisref04Check, N_clevisref04Check, W.ofNat_eq, W.len_eq]
  unfold chkL
  rw [W.gt_d, W.eq_d, br_d, br_d]
  by_cases h1 : 4096 < l.length
  · rw [if_pos (show (4096 : Int) < (l.length : Int) by omega), if_pos h1]
  · rw [if_neg (show ¬ (4096 : Int) < (l.length : Int) by omega), if_neg h1]
    by_cases h2 : l.length = 0
    · rw [if_pos (show (l.length : Int) = 0 by omega), if_pos h2]
    · rw [if_neg (show ¬ (l.length : Int) = 0 by omega), if_neg h2]
      have hb : W.big = (W.big - (l.length + 1)) + l.length + 1 := by have : l.length < W.big := big_lt (by omega); omega
      have := rchk_out hl hw (k := k) l.length 0 (W.big - (l.length + 1)) (by omega)
      rw [← hb] at this
      exact this
end Go.Proofs.Ytbngpphpdabakaa
