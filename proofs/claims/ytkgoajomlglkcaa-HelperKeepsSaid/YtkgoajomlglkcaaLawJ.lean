import Derived.Test.YtkgoajomlglkcaaLawI
set_option linter.unusedVariables false
set_option linter.unusedSimpArgs false
set_option maxHeartbeats 4000000
set_option maxRecDepth 100000
namespace Go.Proofs.Ytkgoajomlglkcaa
open Go Go.Eng
variable {R : Type}
/-! ### the program's Do -/
theorem clone64 (x : List Int) (h : x.length * 8 ≤ 140737488355328) (k : List Int → Option R) : F_slices_Clone_uint64_uint64 R x k = k x := by
  have e : W.leN (W.mulN (W.len x) 8) 140737488355328 = true := decide_eq_true h
  simp only [F_slices_Clone_uint64_uint64, N_slices_Clone_uint64_uint64]
  rw [e, br_t]
theorem clone8 (x : List Int) (h : x.length ≤ 140737488355328) (k : List Int → Option R) : F_slices_Clone_byte_byte R x k = k x := by
  have e : W.leN (W.mulN (W.len x) 1) 140737488355328 = true := decide_eq_true (show x.length * 1 ≤ 140737488355328 by omega)
  simp only [F_slices_Clone_byte_byte, N_slices_Clone_byte_byte]
  rw [e, br_t]
theorem and7 (t : Nat) : W.wrap .i64 (W.mul (W.wrap .i64 (W.and .i64 (t : Int) 7)) 8) = ((8 * (t % 8) : Nat) : Int) := by
  have h : W.and .i64 (t : Int) 7 = (t : Int) % 8 := W.and_mask (t : Int) 3 (by omega) 7 (by decide)
  rw [h, W.wi64_id (z := (t : Int) % 8) (by omega) (by omega), W.mul_eq, W.wi64_id (by omega) (by omega)]; omega
theorem fill_loop {a : Int} {N fl : Nat} (hN : N ≤ 1000) {k : List Int → Option R} : ∀ (j e t : Nat), t + j = N →
    P_helper_fill_3_0 fl (e + j + 1) R a N (N : Int) (t : Int) (fillN a t ++ List.replicate (N - t) 0) k = k (fillN a N)
  | 0, e, t, h => by
    have : t = N := by omega
    subst this
    rw [P_helper_fill_3_0_s, W.lt_irr, br_f]; simp
  | j + 1, e, t, h => by
    have ih := fill_loop (a := a) (fl := fl) hN (k := k) j e (t + 1) (by omega)
    rw [show e + (j + 1) + 1 = (e + j + 1) + 1 from by omega, P_helper_fill_3_0_s, W.lt_d, decide_eq_true (show (t : Int) < (N : Int) by omega), br_t, and7, W.lt_d, decide_eq_false (show ¬ ((8 * (t % 8) : Nat) : Int) < 0 by omega), br_f]
    have c2 : W.and2 (W.le 0 (t : Int)) (decide ((t : Int) < W.ofNat N)) = true := by
      rw [W.le_d, W.and2_d, W.ofNat_eq]; exact decide_eq_true (by omega)
    have c3 : W.and2 (W.le 0 (t : Int)) (W.lt (t : Int) (W.ofNat N)) = true := by rw [W.lt_d]; exact c2
    first | rw [c3] | rw [c2]
    rw [br_t, W.succ64 (by omega), byte_of (Nat.mod_lt _ (by omega)), W.toNat_nat]
    have hl : (fillN a t).length = t := by unfold fillN; simp
    have g : W.set (fillN a t ++ List.replicate (N - t) 0) t (by8 a (t % 8)) = fillN a (t + 1) ++ List.replicate (N - (t + 1)) 0 := by
      rw [W.set_eq, fillN_s, show N - t = (N - (t + 1)) + 1 from by omega, List.replicate_succ, List.set_append_right _ _ (by omega), hl, Nat.sub_self]
      simp
    rw [g]; exact ih
theorem hfill_eq (a : Int) (N : Nat) (hN : N ≤ 64) (k : List Int → Option R) : F_helper_fill R (a, (N : Int)) k = k (fillN a N) := by
  simp only [F_helper_fill, N_helper_fill]
  have c1 : W.and2 (W.le 0 (N : Int)) (W.le (W.mul 1 (N : Int)) 281474976710656) = true := by
    rw [W.le_d, W.le_d, W.and2_d, W.mul_eq]; exact decide_eq_true (by omega)
  rw [c1, br_t, W.toNat_nat, W.ofNat_eq]
  have hb : W.big = (W.big - (N + 1)) + N + 1 := by have : N + 1 < W.big := big_lt (by omega); omega
  have := fill_loop (R := R) (a := a) (N := N) (fl := W.big) (by omega) (k := k) N (W.big - (N + 1)) 0 (by omega)
  rw [← hb] at this
  exact this
/-- What stands behind the copy of the memory. -/
theorem tail_eq (l : La) (m : Me) (n : Int) (args : List Int) (a : Int) (hm : m.length ≤ 140737488351232) (ha : U64s args) (hh : okH n ∧ (tblA n).length ≤ args.length) (h1 : (n = 3 ∨ n = 4) → ¬ (args.getD 1 0 < 1 ∨ 64 < args.getD 1 0)) (k : Int × Me × (Int × List Int × List Int) × Int → Option R) :
    (br (W.eq n 5)
          (br (W.and2 true (W.lt 0 (W.ofNat (W.len args))))
            (br (W.and2 true (W.lt 1 (W.ofNat (W.len args))))
              (br (W.and2 true (W.lt 2 (W.ofNat (W.len args))))
                (k
                  (W.wrap IntKind.u64
                      (W.add a (W.wrap IntKind.u64 (W.add (W.wrap IntKind.u64 (W.add (W.get args 0 0) (W.wrap IntKind.u64 (W.mul 3 (W.get args 1 0))))) (W.wrap IntKind.u64 (W.mul 5 (W.get args 2 0)))))),
                    m, (n, args.take (tblA n).length, []), 0))
                none)
              none)
            none)
          (br (W.eq n 3) (br (W.and2 true (W.lt 0 (W.ofNat (args.take (tblA n).length).length))) (F_mem_Bytes R (l, m, (spanP n args).1.1, (spanP n args).1.2) fun y => k (a, m, (n, W.set (args.take (tblA n).length) 0 0, y.1), 0)) none)
            (br (W.eq n 4) (br (W.and2 true (W.lt 0 (W.ofNat (args.take (tblA n).length).length))) (F_helper_fill R (a, (spanP n args).2.1.2) fun y => F_mem_Fill R (l, m, (spanP n args).2.1.1, y) fun y => k (a, y.1, (n, W.set (args.take (tblA n).length) 0 0, []), 0)) none)
              (k (a, m, (n, args.take (tblA n).length, []), 0))))) = k (tlP l m n args a) := by
  have a0 := ha 0
  have hs : ¬ (¬ okH n ∨ args.length < (tblA n).length) := fun h => h.elim (fun h => h hh.1) (fun h => by omega)
  unfold tlP spanP
  rw [if_neg hs, W.eq_d, br_d, W.eq_d, br_d, W.eq_d, br_d]
  by_cases h5 : n = 5
  · subst h5
    have hlen : 3 ≤ args.length := hh.2
    have c0 : W.lt 0 (W.ofNat (W.len args)) = true := by rw [W.lt_d, W.ofNat_eq, W.len_eq]; exact decide_eq_true (by omega)
    have c1 : W.lt 1 (W.ofNat (W.len args)) = true := by rw [W.lt_d, W.ofNat_eq, W.len_eq]; exact decide_eq_true (by omega)
    have c2 : W.lt 2 (W.ofNat (W.len args)) = true := by rw [W.lt_d, W.ofNat_eq, W.len_eq]; exact decide_eq_true (by omega)
    rw [if_pos rfl, c0, c1, c2, and2_tl, br_t, br_t, br_t, if_neg (by decide), if_neg (by decide), if_pos rfl]
    have g : W.wrap IntKind.u64 (W.add a (W.wrap IntKind.u64 (W.add (W.wrap IntKind.u64 (W.add (W.get args 0 0) (W.wrap IntKind.u64 (W.mul 3 (W.get args 1 0))))) (W.wrap IntKind.u64 (W.mul 5 (W.get args 2 0)))))) = (args.getD 0 0 + 3 * args.getD 1 0 + 5 * args.getD 2 0 + a) % 18446744073709551616 := by
      simp only [W.add_eq, W.mul_eq, W.wu64, W.get_eq]; omega
    rw [g]; rfl
  rw [if_neg h5]
  by_cases h3 : n = 3
  · subst h3
    have hlen : 2 ≤ args.length := hh.2
    have f4 : (args.take (tblA 3).length).length = 2 := by rw [List.length_take]; show min 2 args.length = 2; omega
    have f6 : W.lt 0 (W.ofNat (args.take (tblA 3).length).length) = true := by rw [f4]; rfl
    rw [if_pos rfl, f6, and2_tl, br_t, if_pos rfl, if_pos rfl, szP_small (h1 (.inl rfl)), bytesM_eq _ _ _ _ hm a0, W.set_eq]
    rfl
  rw [if_neg h3]
  by_cases h4 : n = 4
  · subst h4
    have hlen : 2 ≤ args.length := hh.2
    have f4 : (args.take (tblA 4).length).length = 2 := by rw [List.length_take]; show min 2 args.length = 2; omega
    have f6 : W.lt 0 (W.ofNat (args.take (tblA 4).length).length) = true := by rw [f4]; rfl
    have hq := h1 (.inr rfl)
    obtain ⟨N, hN⟩ : ∃ N : Nat, args.getD 1 0 = (N : Int) := ⟨(args.getD 1 0).toNat, by omega⟩
    rw [if_pos rfl, f6, and2_tl, br_t, if_neg (by decide), if_pos rfl, if_neg (by decide), if_pos rfl, szP_small hq]
    simp only
    have e3 : fillB a (args.getD 1 0) = fillN a N := by unfold fillB fillN; rw [hN]; rfl
    rw [e3, hN, hfill_eq a N (by omega), fillM_eq _ _ _ _ hm a0, W.set_eq]
    rfl
  · rw [if_neg h4, if_neg h3, if_neg h4, if_neg h5]
end Go.Proofs.Ytkgoajomlglkcaa
