import Derived.Test.YtkgoajomlglkcaaLawJ
set_option linter.unusedVariables false
set_option linter.unusedSimpArgs false
set_option maxHeartbeats 4000000
set_option maxRecDepth 100000
namespace Go.Proofs.Ytkgoajomlglkcaa
open Go Go.Eng
variable {R : Type}
theorem cp_loop {m : Me} (hs : meSz m) {n a y8 y11 y15 y16 y17 y18 : Int} {args y14 : List Int} {y9 : Bool} {y10 : List Ar} {y13 fl : Nat} {k : Int × Me × (Int × List Int × List Int) × Int → Option R} : ∀ (j e t : Nat), t + j = m.length →
    P_helper_Do_16_0 F_helper_Table F_helper_Spans F_api_ArgKind_42 F_mem_Access F_mem_May F_slices_Clone_uint64_uint64 F_slices_Clone_byte_byte F_mem_Bytes F_mem_Fill F_helper_fill E_helper_fits_1 E_errors_Is_4 E_errors_Is_5 fl (e + j + 1) R m n args a t m (m.length : Int) (t : Int) y8 y9 y10 y11 n y13 y14 y15 y16 y17 y18 (m.take t) k =
      br (W.eq n 5)
          (br (W.and2 true (W.lt 0 (W.ofNat (W.len args))))
            (br (W.and2 true (W.lt 1 (W.ofNat (W.len args))))
              (br (W.and2 true (W.lt 2 (W.ofNat (W.len args))))
                (k
                  (W.wrap IntKind.u64
                      (W.add a (W.wrap IntKind.u64 (W.add (W.wrap IntKind.u64 (W.add (W.get args 0 0) (W.wrap IntKind.u64 (W.mul 3 (W.get args 1 0))))) (W.wrap IntKind.u64 (W.mul 5 (W.get args 2 0)))))),
                    m, (n, y14, []), 0))
                none)
              none)
            none)
          (br (W.eq n 3) (br (W.and2 true (W.lt 0 (W.ofNat y13))) (F_mem_Bytes R (((y8, y9), y10), m, y15, y16) fun y => k (a, m, (n, W.set y14 0 0, y.1), 0)) none)
            (br (W.eq n 4) (br (W.and2 true (W.lt 0 (W.ofNat y13))) (F_helper_fill R (a, y18) fun y => F_mem_Fill R (((y8, y9), y10), m, y17, y) fun y => k (a, y.1, (n, W.set y14 0 0, []), 0)) none)
              (k (a, m, (n, y14, []), 0))))
  | 0, e, t, ht => by
    have : t = m.length := by omega
    subst this
    rw [P_helper_Do_16_0_s, W.lt_irr, br_f, List.take_length]
  | j + 1, e, t, ht => by
    have h1 := hs.1
    have h2 := hs.2 t
    have ih := cp_loop hs (n := n) (a := a) (y8 := y8) (y9 := y9) (y10 := y10) (y11 := y11) (y13 := y13) (y14 := y14) (y15 := y15) (y16 := y16) (y17 := y17) (y18 := y18) (args := args) (fl := fl) (k := k) j e (t + 1) (by omega)
    have hb : W.and2 (W.le 0 (t : Int)) (W.lt (t : Int) (W.ofNat (W.len m))) = true := by rw [W.len_eq]; exact inb (by omega)
    rw [show e + (j + 1) + 1 = (e + j + 1) + 1 from by omega, P_helper_Do_16_0_s, br_pos (W.lt_t.2 (by omega)), br_pos hb, W.toNat_nat, W.get_eq, clone8 _ (by omega)]
    have g1 : W.leN (W.mulN (W.addN t 1) 24) 140737488355328 = true := decide_eq_true (show (t + 1) * 24 ≤ 140737488355328 by omega)
    have e1 : W.app (m.take t) [m.getD t []] = m.take (t + 1) := (take_succ_D (by omega) _).symm
    have g3 : W.addN t 1 = t + 1 := rfl
    rw [br_pos g1, W.succ64 (by omega), e1, g3]
    exact ih
theorem ref_loop {m : Me} {n z1 z4 z5 : Int} {args ans : List Int} {z2 : Bool} {z3 : List Ar} {fl b : Nat} {k : Int × Me × (Int × List Int × List Int) × Int → Option R} {f : Int} (hf : f = 50 ∨ f = 2) :
    P_helper_Do_3_0 F_helper_Table F_helper_Spans F_api_ArgKind_42 F_mem_Access F_mem_May F_slices_Clone_uint64_uint64 F_slices_Clone_byte_byte F_mem_Bytes F_mem_Fill F_helper_fill E_helper_fits_1 E_errors_Is_4 E_errors_Is_5 fl (b + 1 + 1 + 1) R m n args ans 2 2 0 z1 z2 z3 z4 z5 f [50, 2] k = k (if f = 50 then E50 else E2) := by
  have s0 : W.wrap .i64 (W.add 0 1) = 1 := by decide
  have l0 : W.lt 0 2 = true := by decide
  have l1 : W.lt 1 2 = true := by decide
  have i0 : W.and2 (W.le 0 0) (W.lt 0 (W.ofNat 2)) = true := by decide
  have i1 : W.and2 (W.le 0 1) (W.lt 1 (W.ofNat 2)) = true := by decide
  have g0 : W.get [(50 : Int), 2] (W.toNat 0) 0 = 50 := rfl
  have g1 : W.get [(50 : Int), 2] (W.toNat 1) 0 = 2 := rfl
  have p : ∀ b : Bool, W.pick true b false = b := fun b => rfl
  rw [P_helper_Do_3_0_s, l0, br_t, i0, br_t, g0]
  simp only [E_errors_Is_4, N_errors_Is_4, p]
  rcases hf with rfl | rfl
  · rw [if_pos rfl, show W.eq 50 50 = true by decide, br_t, br_t]; rfl
  · rw [if_neg (by decide), show W.eq 2 50 = false by decide, br_f, br_f, s0, P_helper_Do_3_0_s, l1, br_t, i1, br_t, g1]
    simp only [E_errors_Is_4, N_errors_Is_4, p]
    rw [show W.eq 2 2 = true by decide, br_t, br_t]; rfl
open Classical in
/-- The program's answer. -/
theorem do_eq (l : La) (m : Me) (n : Int) (args ans : List Int) (hm : m.length ≤ 140737488351232) (hs : meSz m) (ha : U64s args) (hl : args.length * 8 ≤ 140737488351232) (k : Int × Me × (Int × List Int × List Int) × Int → Option R) :
    F_helper_Do R (l, m, n, args, ans) k = k (doP l m n args ans) := by
  obtain ⟨⟨(c : Int), (cw : Bool)⟩, (ms : List Ar)⟩ := l
  obtain ⟨b, hb⟩ := big_s
  have hb2 : W.big = (W.big - (m.length + 1)) + m.length + 1 := by have : m.length + 1 < W.big := big_lt (by have := hs.1; omega); omega
  simp only [F_helper_Do, N_helper_Do]
  have hf := fits_eq (R := R) ((c, cw), ms) m n args hm ha hl c cw ms 0
  simp only at hf
  rw [hf, doP_fit]
  by_cases h0 : fitP ((c, cw), ms) m n args = 0
  · rw [if_pos h0, h0, if_neg (show ¬ (0 : Int) = 50 by decide), if_neg (show ¬ (0 : Int) = 2 by decide)]
    have hh : (okH n ∧ (tblA n).length ≤ args.length) ∧ ((n = 3 ∨ n = 4) → ¬ (args.getD 1 0 < 1 ∨ 64 < args.getD 1 0)) := by
      unfold fitP at h0
      by_cases q : ¬ okH n ∨ args.length < (tblA n).length
      · rw [if_pos q] at h0; exact absurd h0 (by decide)
      rw [if_neg q] at h0
      refine ⟨⟨Classical.byContradiction fun h => q (.inl h), by have : ¬ args.length < (tblA n).length := fun h => q (.inr h); omega⟩, fun q2 q3 => ?_⟩
      rw [if_pos ⟨q2, q3⟩] at h0; exact absurd h0 (by decide)
    have s0 : W.wrap .i64 (W.add 0 1) = 1 := by decide
    have s1 : W.wrap .i64 (W.add 1 1) = 2 := by decide
    have l0 : W.lt 0 2 = true := by decide
    have l1 : W.lt 1 2 = true := by decide
    have l2 : W.lt 2 2 = false := by decide
    have i0 : W.and2 (W.le 0 0) (W.lt 0 (W.ofNat 2)) = true := by decide
    have i1 : W.and2 (W.le 0 1) (W.lt 1 (W.ofNat 2)) = true := by decide
    have step : ∀ fl, P_helper_Do_3_1 F_helper_Table F_helper_Spans F_api_ArgKind_42 F_mem_Access F_mem_May F_slices_Clone_uint64_uint64 F_slices_Clone_byte_byte F_mem_Bytes F_mem_Fill F_helper_fill E_helper_fits_1 E_errors_Is_4 E_errors_Is_5 fl (b + 1 + 1 + 1 + 1 + 1) R m n args ans 2 2 0 c cw ms 0 [50, 2] k =
        P_helper_Do_3_1 F_helper_Table F_helper_Spans F_api_ArgKind_42 F_mem_Access F_mem_May F_slices_Clone_uint64_uint64 F_slices_Clone_byte_byte F_mem_Bytes F_mem_Fill F_helper_fill E_helper_fits_1 E_errors_Is_4 E_errors_Is_5 fl (b + 1 + 1 + 1) R m n args ans 2 2 2 c cw ms 0 [50, 2] k := by
      intro fl
      rw [P_helper_Do_3_1_s, l0, br_t, i0, br_t]
      simp only [E_errors_Is_5, N_errors_Is_5, br_f]
      rw [s0, P_helper_Do_3_1_s, l1, br_t, i1, br_t]
      simp only [E_errors_Is_5, N_errors_Is_5, br_f]
      rw [s1]
    have stepB := step W.big
    rw [← hb] at stepB
    refine stepB.trans ?_
    rw [P_helper_Do_3_1_s, l2, br_f, table_eq, table_eq]
    have f0 : (tblP n).1.2.1 = tblA n := rfl
    have f1 : W.toNat (W.ofNat (W.len (tblA n))) = (tblA n).length := by rw [W.ofNat_eq, W.len_eq, W.toNat_nat]
    have f2 : W.and2 (W.le 0 (W.ofNat (W.len (tblA n)))) (W.le (W.ofNat (W.len (tblA n))) (W.ofNat (W.len args))) = true := by
      rw [W.le_d, W.le_d, W.and2_d, W.ofNat_eq, W.len_eq, W.ofNat_eq, W.len_eq]; exact decide_eq_true (by have := hh.1.2; omega)
    have f3 : W.slice args 0 (tblA n).length = args.take (tblA n).length := by simp [W.slice]
    have f5 : (args.take (tblA n).length).length * 8 ≤ 140737488355328 := by rw [List.length_take]; omega
    rw [f0, f1, f2, f3, br_t, br_t, clone64 _ f5, clone64 _ f5, spans_eq n args ha (by omega), spans_eq n args ha (by omega)]
    have cp := fun a => cp_loop (R := R) hs (n := n) (a := a) (y8 := c) (y9 := cw) (y10 := ms) (y11 := 0) (y13 := W.len (args.take (tblA n).length)) (y14 := args.take (tblA n).length) (y15 := (spanP n args).1.1) (y16 := (spanP n args).1.2) (y17 := (spanP n args).2.1.1) (y18 := (spanP n args).2.1.2) (args := args) (fl := W.big) (k := k) m.length (W.big - (m.length + 1)) 0 (by omega)
    rw [← hb2] at cp
    have te := fun a => tail_eq (R := R) ((c, cw), ms) m n args a hm ha hh.1 hh.2 k
    have fin : ∀ a : Int, P_helper_Do_16_0 F_helper_Table F_helper_Spans F_api_ArgKind_42 F_mem_Access F_mem_May F_slices_Clone_uint64_uint64 F_slices_Clone_byte_byte F_mem_Bytes F_mem_Fill F_helper_fill E_helper_fits_1 E_errors_Is_4 E_errors_Is_5 W.big W.big R m n args a 0 m (W.ofNat (W.len m)) 0 c cw ms 0 n (W.len (args.take (tblA n).length)) (args.take (tblA n).length) (spanP n args).1.1 (spanP n args).1.2 (spanP n args).2.1.1 (spanP n args).2.1.2 [] k = k (tlP ((c, cw), ms) m n args a) := by
      intro a
      exact (cp a).trans (te a)
    rw [fin, fin]
    have := ans_br (R := R) (ans := ans) (f := fun a => k (tlP ((c, cw), ms) m n args a)) (fun a b h => by rw [h])
    exact this
  rw [if_neg h0]
  have hc : fitP ((c, cw), ms) m n args = 50 ∨ fitP ((c, cw), ms) m n args = 2 := by
    revert h0; unfold fitP
    split; · intro _; exact .inl rfl
    split; · intro _; exact .inl rfl
    split; · intro _; exact .inl rfl
    split; · intro _; exact .inr rfl
    intro h; exact absurd rfl h
  generalize fitP ((c, cw), ms) m n args = f at hc h0
  have hb3 : W.big = (b + 1 + 1) + 1 + 1 + 1 := hb
  have rl := ref_loop (R := R) (m := m) (n := n) (args := args) (ans := ans) (z1 := c) (z2 := cw) (z3 := ms) (z4 := 0) (z5 := n) (fl := W.big) (b := b + 1 + 1) (k := k) hc
  rw [← hb3] at rl
  refine rl.trans ?_
  rcases hc with rfl | rfl
  · rw [if_pos rfl, if_pos rfl]
  · rw [if_neg (by decide), if_neg (by decide), if_pos rfl]
end Go.Proofs.Ytkgoajomlglkcaa
