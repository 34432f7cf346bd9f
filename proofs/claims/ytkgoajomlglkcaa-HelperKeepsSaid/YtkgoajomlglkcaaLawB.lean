import Derived.Test.YtkgoajomlglkcaaLawA
set_option linter.unusedVariables false
set_option linter.unusedSimpArgs false
set_option maxHeartbeats 4000000
set_option maxRecDepth 100000
namespace Go.Proofs.Ytkgoajomlglkcaa
open Go Go.Eng
variable {R : Type}
theorem inb {t N : Nat} (h : t < N) : W.and2 (W.le 0 (t : Int)) (W.lt (t : Int) (W.ofNat N)) = true := by
  rw [W.and2_t, W.le_t, W.lt_t, W.ofNat_eq]; omega
open Classical in
theorem mCheck_eq (l : La) (k : Int → Option R) : F_mem_Check R l k = k (chkLP l) := by
  obtain ⟨⟨(c : Int), (w : Bool)⟩, (ms : List Ar)⟩ := l
  simp only [F_mem_Check, N_mem_Check]
  by_cases h0 : (0 ≤ c ∧ c ≤ 4096) ∧ ms.length ≤ 8
  · rw [br_neg (by rw [Bool.eq_false_iff]; intro h; simp only [W.picko_t, W.lt_t, W.gt_t, W.ofNat_eq, W.len_eq] at h; omega)]
    have := loop_all (P := fun n i => P_mem_Check_4_0 W.big n R ms (W.ofNat (W.len ms)) i k) (N := ms.length) (c := fun i => arOk (ms.getD i (0, false))) (kt := k 0) (kf := k 22)
      (fun n t ht => by
        rw [P_mem_Check_4_0_s, br_pos (W.lt_t.2 (by rw [W.ofNat_eq, W.len_eq]; omega)), br_pos (inb (by rw [W.len_eq]; omega))]
        rw [W.toNat_nat, W.get_eq, W.succ64 (by omega)]
        by_cases hc : arOk (ms.getD t (0, false))
        · rw [if_pos hc, br_neg]
          rw [Bool.eq_false_iff]; intro h; simp only [W.picko_t, W.lt_t, W.gt_t] at h; unfold arOk at hc; omega
        · rw [if_neg hc, br_pos]
          simp only [W.picko_t, W.lt_t, W.gt_t]; unfold arOk at hc; omega)
      (fun n => by rw [P_mem_Check_4_0_s, br_neg (by rw [Bool.eq_false_iff]; intro h; rw [W.lt_t, W.ofNat_eq, W.len_eq] at h; omega)]) ms.length W.big 0 (by omega) (big_lt (by omega))
    rw [show ((0 : Nat) : Int) = 0 from rfl] at this
    rw [this]
    unfold chkLP
    by_cases hc : ∀ i, i < ms.length → arOk (ms.getD i (0, false))
    · rw [if_pos (fun i _ hi => hc i hi), if_pos (show layOK ((c, w), ms) from ⟨h0.1, h0.2, hc⟩)]
    · rw [if_neg (fun h => hc fun i hi => h i (by omega) hi), if_neg (show ¬ layOK ((c, w), ms) from fun h => hc h.2.2)]
  · rw [br_pos (by simp only [W.picko_t, W.lt_t, W.gt_t, W.ofNat_eq, W.len_eq]; omega)]
    unfold chkLP
    rw [if_neg (show ¬ layOK ((c, w), ms) from fun h => h0 ⟨h.1, h.2.1⟩)]
open Classical in
theorem rCheck2_eq (l : La) (k : Int → Option R) : F_clevisref02Check R l k = k (chkLP l) := by
  obtain ⟨⟨(c : Int), (w : Bool)⟩, (ms : List Ar)⟩ := l
  simp only [F_clevisref02Check, N_clevisref02Check]
  by_cases h0 : (0 ≤ c ∧ c ≤ 4096) ∧ ms.length ≤ 8
  · rw [br_neg (by rw [Bool.eq_false_iff]; intro h; simp only [W.picko_t, W.lt_t, W.gt_t, W.ofNat_eq, W.len_eq] at h; omega)]
    have := loop_all (P := fun n i => P_clevisref02Check_4_0 W.big n R i c w ms k) (N := ms.length) (c := fun i => arOk (ms.getD i (0, false))) (kt := k 0) (kf := k 22)
      (fun n t ht => by
        rw [P_clevisref02Check_4_0_s, br_pos (W.lt_t.2 (by rw [W.ofNat_eq, W.len_eq]; omega)), br_pos (inb (by rw [W.len_eq]; omega))]
        rw [br_pos (show W.or2 (W.not (W.not (W.lt (W.get ms (W.toNat (t : Int)) (0, false)).1 1))) (W.and2 (W.le 0 (t : Int)) (W.lt (t : Int) (W.ofNat (W.len ms)))) = true by rw [W.or2_t]; exact .inr (inb (by rw [W.len_eq]; omega)))]
        rw [W.toNat_nat, W.get_eq, W.succ64 (by omega)]
        by_cases hc : arOk (ms.getD t (0, false))
        · rw [if_pos hc, br_neg]
          rw [Bool.eq_false_iff]; intro h; simp only [W.picko_t, W.lt_t, W.gt_t] at h; unfold arOk at hc; omega
        · rw [if_neg hc, br_pos]
          simp only [W.picko_t, W.lt_t, W.gt_t]; unfold arOk at hc; omega)
      (fun n => by rw [P_clevisref02Check_4_0_s, br_neg (by rw [Bool.eq_false_iff]; intro h; rw [W.lt_t, W.ofNat_eq, W.len_eq] at h; omega)]) ms.length W.big 0 (by omega) (big_lt (by omega))
    rw [show ((0 : Nat) : Int) = 0 from rfl] at this
    rw [this]
    unfold chkLP
    by_cases hc : ∀ i, i < ms.length → arOk (ms.getD i (0, false))
    · rw [if_pos (fun i _ hi => hc i hi), if_pos (show layOK ((c, w), ms) from ⟨h0.1, h0.2, hc⟩)]
    · rw [if_neg (fun h => hc fun i hi => h i (by omega) hi), if_neg (show ¬ layOK ((c, w), ms) from fun h => hc h.2.2)]
  · rw [br_pos (by simp only [W.picko_t, W.lt_t, W.gt_t, W.ofNat_eq, W.len_eq]; omega)]
    unfold chkLP
    rw [if_neg (show ¬ layOK ((c, w), ms) from fun h => h0 ⟨h.1, h.2.1⟩)]
open Classical in
theorem areas_eq (l : La) (k : List Ar → Option R) : F_mem_areas R l k = k (areasP l) := by
  obtain ⟨⟨(c : Int), (w : Bool)⟩, (ms : List Ar)⟩ := l
  simp only [F_mem_areas, N_mem_areas, mCheck_eq]
  by_cases h : layOK ((c, w), ms)
  · unfold chkLP
    rw [if_pos h, br_neg (by simp [W.ne_d]), layOK_areas h, br_pos]
    · rfl
    · rw [W.leN_t, W.len_eq]; unfold W.mulN W.addN; have := h.2.1; simp only at this; omega
  · unfold chkLP
    rw [if_neg h, br_pos (by simp [W.ne_d]), not_layOK_areas h]
open Classical in
theorem area_eq (l : La) (r : Int) (hr : wfI .i64 r) (k : Ar × Bool → Option R) : F_mem_Area R (l, r) k = k (areaP l r) := by
  obtain ⟨⟨(c : Int), (w : Bool)⟩, (ms : List Ar)⟩ := l
  have hr := i64_lo hr
  have hl := areas_len (l := ((c, w), ms))
  simp only [F_mem_Area, N_mem_Area, areas_eq, areaP]
  by_cases h : 1 ≤ r ∧ r ≤ (areasP ((c, w), ms)).length
  · have e1 : W.wrap .i64 (W.sub r 1) = r - 1 := by rw [W.sub_eq, W.wi64_id (by omega) (by omega)]
    rw [if_pos h, br_pos (by rw [W.pickf_t, W.ge_t, W.le_t, W.ofNat_eq, W.len_eq]; omega), e1, br_pos (by rw [W.and2_t, W.le_t, W.lt_t, W.ofNat_eq, W.len_eq]; omega)]
    rw [W.get_eq]; rfl
  · rw [if_neg h, br_neg]
    rw [Bool.eq_false_iff]; intro h'; rw [W.pickf_t, W.ge_t, W.le_t, W.ofNat_eq, W.len_eq] at h'; omega
open Classical in
theorem rarea_eq (l : La) (r : Int) (hr : wfI .i64 r) (k : Ar × Bool → Option R) : F_clevisref02Area R (l, r) k = k (areaP l r) := by
  obtain ⟨⟨(c : Int), (w : Bool)⟩, (ms : List Ar)⟩ := l
  have hr := i64_lo hr
  simp only [F_clevisref02Area, N_clevisref02Area, rCheck2_eq, areaP]
  by_cases h : layOK ((c, w), ms)
  · have hm := h.2.1; simp only at hm
    have hal := layOK_areas h
    unfold chkLP
    rw [if_pos h, br_neg (by simp [W.ne_d]), hal]
    have e3 : W.wrap .i64 (W.add 3 (W.ofNat (W.len ms))) = 3 + (ms.length : Int) := by rw [W.add_eq, W.ofNat_eq, W.len_eq, W.wi64_id (by omega) (by omega)]
    have hlen : (((c, w), ms).1 :: (512, true) :: ((c, w), ms).2).length = ms.length + 2 := rfl
    rw [hlen]
    by_cases h1 : r = 1
    · subst h1; rw [br_pos (W.eq_t.2 rfl), if_pos (by omega)]; rfl
    rw [br_neg (by rw [W.eq_d]; simpa using h1)]
    by_cases h2 : r = 2
    · subst h2; rw [br_pos (W.eq_t.2 rfl), if_pos (by omega)]; rfl
    rw [br_neg (by rw [W.eq_d]; simpa using h2)]
    by_cases h3 : 3 ≤ r ∧ r < 3 + (ms.length : Int)
    · have e1 : W.wrap .i64 (W.sub r 3) = r - 3 := by rw [W.sub_eq, W.wi64_id (by omega) (by omega)]
      rw [br_pos (by rw [W.pickf_t, W.ge_t, W.lt_t, e3]; omega), e1, br_pos (by rw [W.and2_t, W.le_t, W.lt_t, W.ofNat_eq, W.len_eq]; omega), if_pos (by omega)]
      have e2 : (r - 1).toNat = (r - 3).toNat + 2 := by omega
      rw [W.get_eq, e2]; rfl
    · rw [br_neg (by rw [Bool.eq_false_iff]; intro h'; rw [W.pickf_t, W.ge_t, W.lt_t, e3] at h'; omega), if_neg (by omega)]
  · unfold chkLP
    rw [if_neg h, br_pos (by simp [W.ne_d]), not_layOK_areas h, if_neg (by simp; omega)]
theorem split_eq (a : Int) (ha : p64 a) (k : Int × Int → Option R) : F_mem_Split R a k = k (a / 4294967296, a % 4294967296) := by
  unfold p64 at ha
  simp only [F_mem_Split, N_mem_Split]
  have e1 : W.shr .u64 a 32 = a / 4294967296 := by
    unfold W.shr
    have : min (32 : Int).toNat IntKind.u64.bits = 32 := rfl
    rw [this, Int.fdiv_eq_ediv_of_nonneg _ (by decide)]; rfl
  rw [e1, W.wu32, W.wi64_id (by omega) (by omega), W.wi64_id (by omega) (by omega)]
theorem rsplit_eq (a : Int) (ha : p64 a) (k : Int × Int → Option R) : F_clevisref02Split R a k = k (a / 4294967296, a % 4294967296) := by
  unfold p64 at ha
  simp only [F_clevisref02Split, N_clevisref02Split]
  have e1 : W.quo a 4294967296 = a / 4294967296 := by unfold W.quo; exact Int.tdiv_eq_ediv_of_nonneg ha.1
  have e2 : W.rem a 4294967296 = a % 4294967296 := by unfold W.rem; exact Int.tmod_eq_emod_of_nonneg ha.1
  rw [e1, e2, W.wu64_id (by omega) (by omega), W.wi64_id (by omega) (by omega), W.wi64_id (by omega) (by omega)]
theorem raddress_eq (x : PTs.D ps_clevisref02Address) (k : Int → Option R) : F_clevisref02Address R x k = k (adrP x.1 x.2) := by
  obtain ⟨(r : Int), (o : Int)⟩ := x
  simp only [F_clevisref02Address, N_clevisref02Address, adrP]
  congr 1
  rw [W.add_eq, W.mul_eq, W.wu64, W.wu64, W.wu64, W.wu64]; omega
theorem reg_wf {a : Int} (ha : p64 a) : wfI .i64 (a / 4294967296) := by
  unfold p64 at ha; rw [wfI_iff]; simp [IntKind.min, IntKind.max, IntKind.signed, IntKind.bits]; omega
open Classical in
theorem access_eq (l : La) (a n : Int) (w : Bool) (ha : p64 a) (k : Int → Option R) : F_mem_Access R (l, a, n, w) k = k (accP l a n w) := by
  have hr := reg_wf ha
  have hs := area_sz (l := l) (r := a / 4294967296)
  have hp := ha; unfold p64 at hp
  obtain ⟨⟨(c : Int), (cw : Bool)⟩, (ms : List Ar)⟩ := l
  have g1 : W.get [(2 : Int), 20, 21] 1 0 = 20 := rfl
  have g2 : W.get [(2 : Int), 20, 21] 2 0 = 21 := rfl
  have p : ∀ b : Bool, W.pick true b false = b := fun b => rfl
  have q1 : W.eq 2 2 = true := by decide
  have q2 : W.eq 20 2 = false := by decide
  have q3 : W.eq 20 20 = true := by decide
  have q4 : W.eq 21 2 = false := by decide
  have q5 : W.eq 21 20 = false := by decide
  have q6 : W.eq 21 21 = true := by decide
  simp only [F_mem_Access, N_mem_Access, accP, E_errors_Is_1, N_errors_Is_1, E_errors_Is_2, N_errors_Is_2, E_errors_Is_3, N_errors_Is_3, g1, g2, p, q1, q2, q3, q4, q5, q6, br_t, br_f]
  by_cases h1 : n < 1 ∨ 4096 < n
  · rw [if_pos h1, br_pos (by simp only [W.picko_t, W.lt_t, W.gt_t]; exact h1)]
  rw [if_neg h1, br_neg (by rw [Bool.eq_false_iff]; intro h; simp only [W.picko_t, W.lt_t, W.gt_t] at h; exact h1 h)]
  simp only [split_eq a ha, area_eq _ _ hr]
  have e1 : W.wrap .i64 (W.sub (areaP ((c, cw), ms) (a / 4294967296)).1.1 n) = (areaP ((c, cw), ms) (a / 4294967296)).1.1 - n := by rw [W.sub_eq, W.wi64_id (by omega) (by omega)]
  rw [e1]
  by_cases h2 : (areaP ((c, cw), ms) (a / 4294967296)).2 = false ∨ (areaP ((c, cw), ms) (a / 4294967296)).1.1 - n < a % 4294967296
  · rw [if_pos h2, br_pos (by simp only [W.picko_t, W.not_t, W.gt_t]; exact h2)]
  rw [if_neg h2, br_neg (by rw [Bool.eq_false_iff]; intro h; simp only [W.picko_t, W.not_t, W.gt_t] at h; exact h2 h)]
  by_cases h3 : w = true ∧ (areaP ((c, cw), ms) (a / 4294967296)).1.2 = false
  · rw [if_pos h3, br_pos (by rw [W.pickf_t, W.not_t]; exact h3)]
  rw [if_neg h3, br_neg (by rw [Bool.eq_false_iff]; intro h; rw [W.pickf_t, W.not_t] at h; exact h3 h)]
open Classical in
theorem raccess_eq (l : La) (a n : Int) (w : Bool) (ha : p64 a) (k : Int → Option R) : F_clevisref02Access R (l, a, n, w) k = k (accP l a n w) := by
  have hr := reg_wf ha
  have hs := area_sz (l := l) (r := a / 4294967296)
  have hp := ha; unfold p64 at hp
  obtain ⟨⟨(c : Int), (cw : Bool)⟩, (ms : List Ar)⟩ := l
  simp only [F_clevisref02Access, N_clevisref02Access, accP]
  by_cases h1 : n < 1 ∨ 4096 < n
  · rw [if_pos h1, br_pos (by simp only [W.picko_t, W.lt_t, W.gt_t]; exact h1)]
  rw [if_neg h1, br_neg (by rw [Bool.eq_false_iff]; intro h; simp only [W.picko_t, W.lt_t, W.gt_t] at h; exact h1 h)]
  simp only [rsplit_eq a ha, rarea_eq _ _ hr]
  have e1 : W.wrap .i64 (W.sub (areaP ((c, cw), ms) (a / 4294967296)).1.1 n) = (areaP ((c, cw), ms) (a / 4294967296)).1.1 - n := by rw [W.sub_eq, W.wi64_id (by omega) (by omega)]
  rw [e1]
  by_cases h2 : (areaP ((c, cw), ms) (a / 4294967296)).2 = false ∨ (areaP ((c, cw), ms) (a / 4294967296)).1.1 - n < a % 4294967296
  · rw [if_pos h2, br_pos (by simp only [W.picko_t, W.not_t, W.gt_t]; exact h2)]
  rw [if_neg h2, br_neg (by rw [Bool.eq_false_iff]; intro h; simp only [W.picko_t, W.not_t, W.gt_t] at h; exact h2 h)]
  by_cases h3 : w = true ∧ (areaP ((c, cw), ms) (a / 4294967296)).1.2 = false
  · rw [if_pos h3, br_pos (by rw [W.pickf_t, W.not_t]; exact h3)]
  rw [if_neg h3, br_neg (by rw [Bool.eq_false_iff]; intro h; rw [W.pickf_t, W.not_t] at h; exact h3 h)]
end Go.Proofs.Ytkgoajomlglkcaa
