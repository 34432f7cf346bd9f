import Derived.Test.YtdfelkcioeinfaaDoorEnwM03e
import Derived.Test.YtdfelkcioeinfaaDoorEnwW09
set_option linter.unusedVariables false
set_option linter.unusedSimpArgs false
set_option maxHeartbeats 1000000
set_option maxRecDepth 100000
namespace Go.Proofs.YtdfelkcioeinfaaDoor
open Go Go.Eng
variable {R : Type}
theorem pickT {a b : Bool} : W.pick a true b = (a || b) := by cases a <;> rfl
theorem pickF {a b : Bool} : W.pick a b false = (a && b) := by cases a <;> rfl
theorem within16 (x : Int) (k : Bool → Option R) : F_code_within R (x, 16) k = k (decide (-32768 ≤ x) && decide (x < 32768)) := by
  show N_code_within R (x, 16) k = _
  unfold N_code_within
  refine brf (by rfl) (brt ?_ ?_)
  · show W.or2 _ true = true; exact or2t _
  · show k (W.pick (W.ge x (-32768)) (W.lt x 32768) false) = _
    rw [pickF, W.ge_d, W.lt_d]
theorem within32 (x : Int) (k : Bool → Option R) : F_code_within R (x, 32) k = k (decide (-2147483648 ≤ x) && decide (x < 2147483648)) := by
  show N_code_within R (x, 32) k = _
  unfold N_code_within
  refine brf (by rfl) (brt ?_ ?_)
  · show W.or2 _ true = true; exact or2t _
  · show k (W.pick (W.ge x (-2147483648)) (W.lt x 2147483648) false) = _
    rw [pickF, W.ge_d, W.lt_d]
theorem may_eq (x : In6) (k : Bool → Option R) : F_code_may R (x.1, x.2.1, x.2.2.1, x.2.2.2.1, x.2.2.2.2.1, x.2.2.2.2.2) k = k (decide (okI x)) := by
  show N_code_may F_code_within R (x.1, x.2.1, x.2.2.1, x.2.2.2.1, x.2.2.2.2.1, x.2.2.2.2.2) k = _
  unfold N_code_may
  simp only [pickF, W.ge_d, W.lt_d]
  by_cases h : ((((decide (0 ≤ x.1) && decide (x.1 < 256)) && decide (0 ≤ x.2.1)) && decide (x.2.1 < 16)) && decide (0 ≤ x.2.2.1) && decide (x.2.2.1 < 16)) = true
  · refine brt h ?_
    simp only [Bool.and_eq_true, decide_eq_true_eq] at h
    rw [within16]
    by_cases h2 : (decide (-32768 ≤ x.2.2.2.1) && decide (x.2.2.2.1 < 32768)) = true
    · refine brt h2 ?_
      simp only [Bool.and_eq_true, decide_eq_true_eq] at h2
      rw [within32]
      refine congrArg k ?_
      rw [Bool.eq_iff_iff]; simp only [Bool.and_eq_true, decide_eq_true_eq]; unfold okI; omega
    · refine brf (by simpa using h2) (congrArg k ?_)
      simp only [Bool.and_eq_true, decide_eq_true_eq] at h2
      rw [decide_eq_false]; unfold okI; omega
  · refine brf (by simpa using h) (congrArg k ?_)
    simp only [Bool.and_eq_true, decide_eq_true_eq] at h
    rw [decide_eq_false]; unfold okI; omega
theorem byte_or : ∀ (d s : Fin 16), W.wrap .u8 (W.wrap .i64 (W.or .i64 (W.wrap .i64 (W.shl .i64 (s.val : Int) 4)) (d.val : Int))) = (d.val : Int) + 16 * (s.val : Int) := by decide +kernel
theorem byte_or' {d s : Int} (hd : 0 ≤ d ∧ d ≤ 15) (hs : 0 ≤ s ∧ s ≤ 15) : W.wrap .u8 (W.wrap .i64 (W.or .i64 (W.wrap .i64 (W.shl .i64 s 4)) d)) = d + 16 * s := by
  have := byte_or ⟨d.toNat, by omega⟩ ⟨s.toNat, by omega⟩
  simp only [Int.toNat_of_nonneg hd.1, Int.toNat_of_nonneg hs.1] at this
  exact this
theorem i2 : wfI .i64 2 := wfI_iff.2 (by decide)
theorem i4 : wfI .i64 4 := wfI_iff.2 (by decide)
theorem write_eq (x : In6) (h1 : 0 ≤ x.1 ∧ x.1 ≤ 255) (h2 : 0 ≤ x.2.1 ∧ x.2.1 ≤ 15) (h3 : 0 ≤ x.2.2.1 ∧ x.2.2.1 ≤ 15) (k : List Int → Option R) : F_code_write R (x.1, x.2.1, x.2.2.1, x.2.2.2.1, x.2.2.2.2.1, x.2.2.2.2.2) k = k (bts x) := by
  show N_code_write F_word_Put R (x.1, x.2.1, x.2.2.1, x.2.2.2.1, x.2.2.2.2.1, x.2.2.2.2.2) k = _
  unfold N_code_write
  simp only
  rw [put_eq _ i2]
  refine brt (by rfl) ?_
  rw [put_eq _ i4]
  refine brt (by rfl) ?_
  rw [byte_or' h2 h3, W.wu8, Int.emod_eq_of_lt h1.1 (by omega)]
  rfl
theorem get0 (x : In6) (r : List In6) (z : In6) : W.get (x :: r) 0 z = x := rfl
theorem slice1 (x : In6) (r : List In6) : W.slice (x :: r) 1 (W.subN (W.len (x :: r)) 1) = r := by
  show ((x :: r).drop 1).take ((x :: r).length - 1) = r
  simp
theorem wu32_d (a b : Int) : W.ne (W.wrap .u32 a) (W.wrap .u32 b) = decide (u32i b ≠ a % 4294967296) := by
  rw [W.ne_d, W.wu32, W.wu32, u32i_of, Bool.eq_iff_iff]; simp only [decide_eq_true_eq]; omega
theorem hi_eq {w : Int} (h : 0 ≤ w ∧ w < 18446744073709551616) : W.wrap .i64 (W.shr .u64 w 32) = w / 4294967296 := by
  have e : W.shr .u64 w 32 = w / 4294967296 := by
    unfold W.shr
    rw [show min ((32 : Int)).toNat IntKind.u64.bits = 32 from rfl, Int.fdiv_eq_ediv_of_nonneg _ (by decide)]
    rfl
  rw [e, W.wi64_id (by omega) (by omega)]
/-- The program's writing of a code, from an instruction on. -/
theorem enc_loop {fl : Nat} {k : List Int × Int → Option R} : ∀ (l : List In6) (e : Nat) (acc : List Int), (∀ x ∈ l, wOk x) → acc.length + 8 * l.length ≤ 40000 →
    P_code_Encode_4_0 F_code_may F_code_write fl (e + l.length + 1) R l acc.length acc k = (encF l).elim (k ([], 2)) fun b => k (acc ++ b, 0)
  | [], e, acc, hw, hl => by
    rw [P_code_Encode_4_0_s]
    refine brf (by rfl) ?_
    simp [encF]
  | [x], e, acc, hw, hl => by
    rw [P_code_Encode_4_0_s]
    simp only [get0, slice1, olI]
    refine brt (by rfl) (brt (by rfl) (brt (by rfl) ?_))
    rw [may_eq]
    by_cases hk : okI x
    · rw [decide_eq_true hk]
      by_cases h24 : x.1 = 24
      · have q : W.eq x.1 24 = true := q1.2 h24
        rw [q]
        refine brt (by rfl) (brt (by rfl) ?_)
        simp [encF, h24]
      · have q : W.eq x.1 24 = false := cF q1 h24
        rw [q]
        by_cases h0 : x.2.2.2.2.2 = 0
        · have q2 : W.ne x.2.2.2.2.2 0 = false := cF q9 fun c => c h0
          rw [q2]
          refine brt (by rfl) (brf (by rfl) ?_)
          rw [write_eq x hk.1 hk.2.1 hk.2.2.1]
          refine brt (cT qn (by unfold W.mulN W.addN; rw [W.len_eq, bts_len]; simp at hl; omega)) (brf (by rfl) ?_)
          have := enc_loop (fl := fl) (k := k) [] (e) (acc ++ bts x) (fun _ h => by cases h) (by simp [bts_len] at hl ⊢; omega)
          rw [show (acc ++ bts x).length = W.addN acc.length (W.len (bts x)) by unfold W.addN; rw [W.len_eq]; simp] at this
          refine Eq.trans this ?_
          simp [encF, hk, h24, h0]
        · have q2 : W.ne x.2.2.2.2.2 0 = true := cT q9 h0
          rw [q2]
          refine brt (by rfl) (brt (by rfl) ?_)
          simp [encF, h0]
    · rw [decide_eq_false hk]
      refine brt (by rfl) (brt (by rfl) ?_)
      simp [encF, hk]
  | x :: j :: r, e, acc, hw, hl => by
    have wx : wOk x := hw x (List.mem_cons_self ..)
    rw [P_code_Encode_4_0_s]
    simp only [get0, slice1, olI]
    refine brt (cT q8 (by simp only [List.length_cons]; omega)) (brt (cT q5 (by simp only [List.length_cons]; omega)) (brt (cT q7 (by simp only [List.length_cons]; omega)) ?_))
    rw [may_eq]
    have hr : W.eq (((j :: r).length : Nat) : Int) 0 = false := cF q1 (by simp only [List.length_cons]; omega)
    have hr2 : W.lt 0 (((j :: r).length : Nat) : Int) = true := cT q5 (by simp only [List.length_cons]; omega)
    have hr3 : W.le 1 (((j :: r).length : Nat) : Int) = true := cT q7 (by simp only [List.length_cons]; omega)
    have hj := same6 j zi
    rw [hr, hr2, hr3]
    refine brt (by rw [or2t]) ?_
    by_cases hk : okI x
    · rw [decide_eq_true hk]
      by_cases h24 : x.1 = 24
      · have q : W.eq x.1 24 = true := q1.2 h24
        have hj2 : W.and2 (W.eq j.1 0) (W.and2 (W.eq j.2.1 0) (W.and2 (W.eq j.2.2.1 0) (W.and2 (W.eq j.2.2.2.1 0) (W.and2 (W.eq j.2.2.2.2.1 0) (W.and2 (W.eq j.2.2.2.2.2 0) true))))) = decide (j = zi) := hj
        rw [q, hj2, wu32_d]
        by_cases hc : j = zi ∧ u32i x.2.2.2.2.1 = x.2.2.2.2.2 % 4294967296
        · rw [decide_eq_true hc.1, decide_eq_false (fun c => c hc.2)]
          refine brf (by rfl) ?_
          rw [write_eq x hk.1 hk.2.1 hk.2.2.1]
          refine brt (cT qn (by unfold W.mulN W.addN; rw [W.len_eq, bts_len]; simp at hl; omega)) (brt (by rfl) ?_)
          rw [hi_eq wx]
          refine (write_eq (half x) (show (0 : Int) ≤ 0 ∧ (0 : Int) ≤ 255 by decide) (show (0 : Int) ≤ 0 ∧ (0 : Int) ≤ 15 by decide) (show (0 : Int) ≤ 0 ∧ (0 : Int) ≤ 15 by decide) _).trans ?_
          refine brt (cT qn (by unfold W.mulN W.addN; rw [W.len_eq, W.len_eq, bts_len, bts_len]; simp at hl; omega)) (brt (by rfl) ?_)
          have := enc_loop (fl := fl) (k := k) r (e + 1) (acc ++ bts x ++ bts (half x)) (fun y hy => hw y (List.mem_cons_of_mem _ (List.mem_cons_of_mem _ hy))) (by simp [bts_len] at hl ⊢; omega)
          rw [show (acc ++ bts x ++ bts (half x)).length = W.addN (W.addN acc.length (W.len (bts x))) (W.len (bts (half x))) by unfold W.addN; rw [W.len_eq, W.len_eq]; simp; omega] at this
          rw [show e + (x :: j :: r).length = e + 1 + r.length + 1 by simp only [List.length_cons]; omega]
          refine Eq.trans this ?_
          simp only [encF, if_pos hk, if_pos h24, if_pos hc]
          cases encF r with
          | none => rfl
          | some b => simp
        · have hb : W.pick (W.not (decide (j = zi))) true (decide (u32i x.2.2.2.2.1 ≠ x.2.2.2.2.2 % 4294967296)) = true := by
            rw [pickT]
            by_cases hz : j = zi
            · have : ¬ u32i x.2.2.2.2.1 = x.2.2.2.2.2 % 4294967296 := fun c => hc ⟨hz, c⟩
              rw [decide_eq_true (show u32i x.2.2.2.2.1 ≠ x.2.2.2.2.2 % 4294967296 from this)]; simp
            · rw [decide_eq_false hz]; rfl
          refine brt (by exact hb) ?_
          simp only [encF, if_pos hk, if_pos h24, if_neg hc]
          rfl
      · have q : W.eq x.1 24 = false := cF q1 h24
        rw [q]
        by_cases h0 : x.2.2.2.2.2 = 0
        · have q2 : W.ne x.2.2.2.2.2 0 = false := cF q9 fun c => c h0
          rw [q2]
          refine brf (by rfl) ?_
          rw [write_eq x hk.1 hk.2.1 hk.2.2.1]
          refine brt (cT qn (by unfold W.mulN W.addN; rw [W.len_eq, bts_len]; simp at hl; omega)) (brf (by rfl) ?_)
          have := enc_loop (fl := fl) (k := k) (j :: r) e (acc ++ bts x) (fun y hy => hw y (List.mem_cons_of_mem _ hy)) (by simp [bts_len] at hl ⊢; omega)
          rw [show (acc ++ bts x).length = W.addN acc.length (W.len (bts x)) by unfold W.addN; rw [W.len_eq]; simp] at this
          refine Eq.trans this ?_
          simp only [encF, if_pos hk, if_neg h24, if_pos h0]
          cases encF (j :: r) with
          | none => rfl
          | some b => simp
        · have q2 : W.ne x.2.2.2.2.2 0 = true := cT q9 h0
          rw [q2]
          refine brt (by rfl) ?_
          simp only [encF, if_pos hk, if_neg h24, if_neg h0]
          rfl
    · rw [decide_eq_false hk]
      refine brt (by rfl) ?_
      simp only [encF, if_neg hk]
      rfl
theorem qe {a b : Int} : W.pick (W.eq a 0) true (W.gt a b) = true ↔ a = 0 ∨ b < a := by simp only [W.pick_eq, W.eq_d, W.gt_d]; by_cases h : a = 0 <;> simp [h]
theorem enc_eq (l : List In6) (hw : ∀ x ∈ l, wOk x) (k : List Int × Int → Option R) : F_code_Encode R l k = k (encC l) := by
  show N_code_Encode F_code_may F_code_write W.big R l k = _
  unfold N_code_Encode encC
  simp only [olI]
  by_cases h : l.length = 0 ∨ 4096 < l.length
  · rw [if_pos h]
    exact brt (cT qe (by omega)) (Eq.refl _)
  rw [if_neg h]
  refine brf (cF qe (by omega)) ?_
  obtain ⟨e, he⟩ := bigs (n := l.length + 1) (by omega)
  have := enc_loop (R := R) (fl := W.big) (k := k) l e [] hw (by simp; omega)
  rw [show e + l.length + 1 = W.big by omega] at this
  refine Eq.trans this ?_
  cases encF l with
  | none => rfl
  | some b => simp
end Go.Proofs.YtdfelkcioeinfaaDoor
