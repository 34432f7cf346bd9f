import Derived.Test.YtkgoajomlglkcaaLawH
set_option linter.unusedVariables false
set_option linter.unusedSimpArgs false
set_option maxHeartbeats 4000000
set_option maxRecDepth 100000
namespace Go.Proofs.Ytkgoajomlglkcaa
open Go Go.Eng
variable {R : Type}
/-! ### the program's: why arguments do not fit -/
theorem ak_step {kinds : List Int} {c : Int} {b fl i : Nat} (hi : i < kinds.length) (hk : kinds.length < 1000) {k : Int → Option R} :
    P_api_ArgKind_49_2_0 fl (b + 1) R kinds c (kinds.length : Int) (i : Int) k = if c = kinds.getD i 0 then k (i : Int) else P_api_ArgKind_49_2_0 fl b R kinds c (kinds.length : Int) ((i + 1 : Nat) : Int) k := by
  rw [P_api_ArgKind_49_2_0_s, W.succ64 (by omega)]
  simp only [W.ofNat_eq, W.len_eq, W.get_eq, W.toNat_nat]
  have c1 : W.lt (i : Int) (kinds.length : Int) = true := by rw [W.lt_d]; exact decide_eq_true (by omega)
  have c2 : W.le 0 (i : Int) = true := by rw [W.le_d]; exact decide_eq_true (by omega)
  rw [c1, c2, br_t, and2_tl, br_t, W.eq_d, br_d]
theorem ak_end {kinds : List Int} {c : Int} {b fl : Nat} {k : Int → Option R} : P_api_ArgKind_49_2_0 fl (b + 1) R kinds c (kinds.length : Int) (kinds.length : Int) k = k (-1) := by
  rw [P_api_ArgKind_49_2_0_s, W.lt_irr, br_f]
open Classical in
noncomputable def hasK (n c : Int) : Bool := decide ((n = 3 ∧ c = 2) ∨ (n = 4 ∧ c = 3))
open Classical in
theorem ak_eq (n c : Int) (hc : c = 2 ∨ c = 3) (k : Bool → Option R) : F_api_ArgKind_42 R (tblA n, c) k = k (hasK n c) := by
  unfold hasK
  simp only [F_api_ArgKind_42, N_api_ArgKind_42, F_api_ArgKind_49, N_api_ArgKind_49, W.ofNat_eq, W.len_eq]
  obtain ⟨b, hb⟩ := big_s
  have gm : W.ge (-1) 0 = false := by decide
  have g0 : W.ge ((0 : Nat) : Int) 0 = true := by decide
  have go : ∀ fl, P_api_ArgKind_49_2_0 fl (b + 1 + 1 + 1 + 1 + 1) R (tblA n) c ((tblA n).length : Int) ((0 : Nat) : Int) (fun y => k (W.ge y 0)) = k (decide ((n = 3 ∧ c = 2) ∨ (n = 4 ∧ c = 3))) := by
    intro fl
    by_cases h3 : n = 3
    · subst h3
      show P_api_ArgKind_49_2_0 fl (b + 1 + 1 + 1 + 1 + 1) R [2, 4] c (([2, 4] : List Int).length : Int) ((0 : Nat) : Int) (fun y => k (W.ge y 0)) = _
      rw [ak_step (by decide) (by decide)]
      rcases hc with rfl | rfl
      · rw [if_pos (by decide), g0, decide_eq_true (.inl ⟨rfl, rfl⟩)]
      · rw [if_neg (by decide), ak_step (by decide) (by decide), if_neg (by decide), decide_eq_false (by omega)]
        exact (ak_end (kinds := [2, 4])).trans (by rw [gm])
    by_cases h4 : n = 4
    · subst h4
      show P_api_ArgKind_49_2_0 fl (b + 1 + 1 + 1 + 1 + 1) R [3, 4] c (([3, 4] : List Int).length : Int) ((0 : Nat) : Int) (fun y => k (W.ge y 0)) = _
      rw [ak_step (by decide) (by decide)]
      rcases hc with rfl | rfl
      · rw [if_neg (by decide), ak_step (by decide) (by decide), if_neg (by decide), decide_eq_false (by omega)]
        exact (ak_end (kinds := [3, 4])).trans (by rw [gm])
      · rw [if_pos (by decide), g0, decide_eq_true (.inr ⟨rfl, rfl⟩)]
    rw [decide_eq_false (fun h => h.elim (fun h => h3 h.1) (fun h => h4 h.1))]
    by_cases h2 : n = 2
    · subst h2
      show P_api_ArgKind_49_2_0 fl (b + 1 + 1 + 1 + 1 + 1) R [1] c (([1] : List Int).length : Int) ((0 : Nat) : Int) (fun y => k (W.ge y 0)) = _
      rw [ak_step (by decide) (by decide), if_neg (by show ¬ c = 1; omega)]
      exact (ak_end (kinds := [1])).trans (by rw [gm])
    by_cases h5 : n = 5
    · subst h5
      show P_api_ArgKind_49_2_0 fl (b + 1 + 1 + 1 + 1 + 1) R [1, 1, 1] c (([1, 1, 1] : List Int).length : Int) ((0 : Nat) : Int) (fun y => k (W.ge y 0)) = _
      rw [ak_step (by decide) (by decide), if_neg (by show ¬ c = 1; omega), ak_step (by decide) (by decide), if_neg (by show ¬ c = 1; omega), ak_step (by decide) (by decide), if_neg (by show ¬ c = 1; omega)]
      exact (ak_end (kinds := [1, 1, 1])).trans (by rw [gm])
    have e : tblA n = [] := by unfold tblA; rw [if_neg h2, if_neg h3, if_neg h4, if_neg h5]
    rw [e]
    exact (ak_end (kinds := [])).trans (by rw [gm])
  have := go W.big
  rw [← hb] at this
  exact this
open Classical in
/-- The Errno of arguments that do not fit; 0: they do. -/
noncomputable def fitP (l : La) (m : Me) (n : Int) (args : List Int) : Int :=
  if ¬ okH n ∨ args.length < (tblA n).length then 50 else
  if (n = 3 ∨ n = 4) ∧ (args.getD 1 0 < 1 ∨ 64 < args.getD 1 0) then 50 else
  if (n = 3 ∧ accP l (args.getD 0 0) (args.getD 1 0) false ≠ 0) ∨ (n = 4 ∧ accP l (args.getD 0 0) (args.getD 1 0) true ≠ 0) then 50 else
  if ¬ mayP l m then 2 else 0
theorem doP_fit (l : La) (m : Me) (n : Int) (args ans : List Int) : doP l m n args ans = if fitP l m n args = 50 then E50 else if fitP l m n args = 2 then E2 else tlP l m n args (ans.getD 0 0) := by
  unfold doP fitP
  split; · rfl
  split; · rfl
  split; · rfl
  split; · rfl
  rfl
open Classical in
theorem sz_test (x : Int) : W.pick (W.lt (szP x) 1) true (W.gt (szP x) 64) = decide (x < 1 ∨ 64 < x) := by
  rw [Bool.eq_iff_iff, W.picko_t, W.lt_t, W.gt_d, decide_eq_true_iff, decide_eq_true_iff]
  unfold szP; split <;> omega
open Classical in
theorem fits_eq (l : La) (m : Me) (n : Int) (args : List Int) (hm : m.length ≤ 140737488351232) (ha : U64s args) (hl : args.length * 8 ≤ 140737488351232) (z6 : Int) (z7 : Bool) (z8 : List Ar) (z9 : Int)
    (k : OT_helper_fits_1 → Option R) (k2 : OT2_helper_fits_1 → Option R) :
    E_helper_fits_1 R (l.1.1, l.1.2, l.2, m, n, args, z6, z7, z8, z9, ()) k k2 = if fitP l m n args = 0 then k2 (z6, z7, z8, z9, ()) else k (z6, z7, z8, z9, n, fitP l m n args, ()) := by
  obtain ⟨⟨(c : Int), (cw : Bool)⟩, (ms : List Ar)⟩ := l
  simp only [E_helper_fits_1, N_helper_fits_1]
  rw [spans_eq n args ha (by omega)]
  by_cases h : ¬ okH n ∨ args.length < (tblA n).length
  · have e : fitP ((c, cw), ms) m n args = 50 := by unfold fitP; rw [if_pos h]
    unfold spanP
    rw [if_pos h, e, if_neg (by decide)]
    rfl
  have h0 : fitP ((c, cw), ms) m n args = if (n = 3 ∨ n = 4) ∧ (args.getD 1 0 < 1 ∨ 64 < args.getD 1 0) then 50 else
      if (n = 3 ∧ accP ((c, cw), ms) (args.getD 0 0) (args.getD 1 0) false ≠ 0) ∨ (n = 4 ∧ accP ((c, cw), ms) (args.getD 0 0) (args.getD 1 0) true ≠ 0) then 50 else
      if ¬ mayP ((c, cw), ms) m then 2 else 0 := by unfold fitP; rw [if_neg h]
  have a0 := ha 0
  have hk : (tblP n).1.2.1 = tblA n := rfl
  by_cases h3 : n = 3
  · subst h3
    have es : spanP 3 args = ((args.getD 0 0, szP (args.getD 1 0)), (0, 0), true) := by unfold spanP; rw [if_neg h, if_pos rfl]
    rw [es, not_tt, br_f, table_eq, hk, ak_eq 3 2 (.inl rfl), ak_eq 3 3 (.inr rfl)]
    have d2 : hasK 3 2 = true := decide_eq_true (by omega)
    have d3 : hasK 3 3 = false := decide_eq_false (by omega)
    have hm3 : (tblP 3).1.2.2 = 64 := rfl
    simp only [d2, d3, hm3, sz_test, and2_tl, and2_fl, pick_tl, pick_fl, br_f]
    by_cases h1 : args.getD 1 0 < 1 ∨ 64 < args.getD 1 0
    · have e : fitP ((c, cw), ms) m 3 args = 50 := by rw [h0, if_pos ⟨.inl rfl, h1⟩]
      rw [e, if_neg (by decide), decide_eq_true h1, not_tt, br_f, br_f, br_t, br_t]
    rw [decide_eq_false h1, not_ff, br_t, szP_small h1, access_eq _ _ _ _ a0, pick_fl, W.ne_d, br_d]
    by_cases h2 : accP ((c, cw), ms) (args.getD 0 0) (args.getD 1 0) false ≠ 0
    · have e : fitP ((c, cw), ms) m 3 args = 50 := by rw [h0, if_neg (fun h => h1 h.2), if_pos (.inl ⟨rfl, h2⟩)]
      rw [e, if_neg (show ¬ (50 : Int) = 0 by decide), if_pos h2]
    rw [if_neg h2, may_eq _ _ hm, W.not_eq, br_nd]
    have e : fitP ((c, cw), ms) m 3 args = if ¬ mayP ((c, cw), ms) m then 2 else 0 := by
      rw [h0, if_neg (fun h => h1 h.2), if_neg (fun h => h.elim (fun h => h2 h.2) (fun h => absurd h.1 (by decide)))]
    by_cases h3 : mayP ((c, cw), ms) m
    · rw [if_neg (fun h => h h3)] at e
      rw [e, if_pos h3, if_pos rfl]
    · rw [if_pos h3] at e
      rw [e, if_neg h3, if_neg (by decide)]
  by_cases h4 : n = 4
  · subst h4
    have es : spanP 4 args = ((0, 0), (args.getD 0 0, szP (args.getD 1 0)), true) := by unfold spanP; rw [if_neg h, if_neg (by decide), if_pos rfl]
    rw [es, not_tt, br_f, table_eq, hk, ak_eq 4 2 (.inl rfl), ak_eq 4 3 (.inr rfl)]
    have d2 : hasK 4 2 = false := decide_eq_false (by omega)
    have d3 : hasK 4 3 = true := decide_eq_true (by omega)
    have hm3 : (tblP 4).1.2.2 = 64 := rfl
    simp only [d2, d3, hm3, sz_test, and2_tl, and2_fl, pick_tl, pick_fl, br_f]
    by_cases h1 : args.getD 1 0 < 1 ∨ 64 < args.getD 1 0
    · have e : fitP ((c, cw), ms) m 4 args = 50 := by rw [h0, if_pos ⟨.inr rfl, h1⟩]
      rw [e, if_neg (by decide), decide_eq_true h1, not_tt, br_f, br_f, br_t, br_t]
    rw [decide_eq_false h1, not_ff, br_t, szP_small h1, access_eq _ _ _ _ a0, pick_fl, W.ne_d, br_d]
    by_cases h2 : accP ((c, cw), ms) (args.getD 0 0) (args.getD 1 0) true ≠ 0
    · have e : fitP ((c, cw), ms) m 4 args = 50 := by rw [h0, if_neg (fun h => h1 h.2), if_pos (.inr ⟨rfl, h2⟩)]
      rw [e, if_neg (show ¬ (50 : Int) = 0 by decide), if_pos h2]
    rw [if_neg h2, may_eq _ _ hm, W.not_eq, br_nd]
    have e : fitP ((c, cw), ms) m 4 args = if ¬ mayP ((c, cw), ms) m then 2 else 0 := by
      rw [h0, if_neg (fun h => h1 h.2), if_neg (fun h => h.elim (fun h => absurd h.1 (by decide)) (fun h => h2 h.2))]
    by_cases h3 : mayP ((c, cw), ms) m
    · rw [if_neg (fun h => h h3)] at e
      rw [e, if_pos h3, if_pos rfl]
    · rw [if_pos h3] at e
      rw [e, if_neg h3, if_neg (by decide)]
  have es : spanP n args = ((0, 0), (0, 0), true) := by unfold spanP; rw [if_neg h, if_neg h3, if_neg h4]
  rw [es, not_tt, br_f, table_eq, hk, ak_eq n 2 (.inl rfl), ak_eq n 3 (.inr rfl)]
  have d2 : hasK n 2 = false := decide_eq_false (by omega)
  have d3 : hasK n 3 = false := decide_eq_false (by omega)
  simp only [d2, d3, and2_tl, and2_fl, pick_tl, pick_fl, br_f]
  rw [may_eq _ _ hm, W.not_eq, br_nd]
  have e : fitP ((c, cw), ms) m n args = if ¬ mayP ((c, cw), ms) m then 2 else 0 := by
    rw [h0, if_neg (fun h => h.1.elim h3 h4), if_neg (fun h => h.elim (fun h => h3 h.1) (fun h => h4 h.1))]
  by_cases h5 : mayP ((c, cw), ms) m
  · rw [if_neg (fun h => h h5)] at e
    rw [e, if_pos h5, if_pos rfl]
  · rw [if_pos h5] at e
    rw [e, if_neg h5, if_neg (by decide)]
end Go.Proofs.Ytkgoajomlglkcaa
