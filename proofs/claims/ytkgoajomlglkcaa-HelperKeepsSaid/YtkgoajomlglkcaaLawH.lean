import Derived.Test.YtkgoajomlglkcaaLawG
set_option linter.unusedVariables false
set_option linter.unusedSimpArgs false
set_option maxHeartbeats 4000000
set_option maxRecDepth 100000
namespace Go.Proofs.Ytkgoajomlglkcaa
open Go Go.Eng
variable {R : Type}
/-! ### what a helper does -/
theorem and2_tl (b : Bool) : W.and2 true b = b := by cases b <;> rfl
theorem and2_fl (b : Bool) : W.and2 false b = false := by cases b <;> rfl
theorem and2_tr (b : Bool) : W.and2 b true = b := by cases b <;> rfl
theorem and2_fr (b : Bool) : W.and2 b false = false := by cases b <;> rfl
theorem or2_tl (b : Bool) : W.or2 true b = true := by cases b <;> rfl
theorem or2_fl (b : Bool) : W.or2 false b = b := by cases b <;> rfl
theorem or2_tr (b : Bool) : W.or2 b true = true := by cases b <;> rfl
theorem pick_tl (a b : Bool) : W.pick true a b = a := rfl
theorem pick_fl (a b : Bool) : W.pick false a b = b := rfl
theorem not_tt : W.not true = false := rfl
theorem not_ff : W.not false = true := rfl
theorem not_nn (b : Bool) : W.not (W.not b) = b := by cases b <;> rfl
noncomputable def E50 : Int × Me × (Int × List Int × List Int) × Int := (0, [], (0, [], []), 50)
noncomputable def E2 : Int × Me × (Int × List Int × List Int) × Int := (0, [], (0, [], []), 2)
def fillB (a n : Int) : List Int := (List.range n.toNat).map fun i => by8 a (i % 8)
noncomputable def tlP (l : La) (m : Me) (n : Int) (args : List Int) (a : Int) : Int × Me × (Int × List Int × List Int) × Int :=
  if n = 3 then (a, m, (n, (args.take 2).set 0 0, (bytesP l m (args.getD 0 0) (args.getD 1 0)).1), 0)
  else if n = 4 then (a, (fillP l m (args.getD 0 0) (fillB a (args.getD 1 0))).1, (n, (args.take 2).set 0 0, []), 0)
  else if n = 5 then ((args.getD 0 0 + 3 * args.getD 1 0 + 5 * args.getD 2 0 + a) % 18446744073709551616, m, (n, args.take 3, []), 0)
  else (a, m, (n, args.take (tblA n).length, []), 0)
open Classical in
noncomputable def doP (l : La) (m : Me) (n : Int) (args ans : List Int) : Int × Me × (Int × List Int × List Int) × Int :=
  if ¬ okH n ∨ args.length < (tblA n).length then E50 else
  if (n = 3 ∨ n = 4) ∧ (args.getD 1 0 < 1 ∨ 64 < args.getD 1 0) then E50 else
  if (n = 3 ∧ accP l (args.getD 0 0) (args.getD 1 0) false ≠ 0) ∨ (n = 4 ∧ accP l (args.getD 0 0) (args.getD 1 0) true ≠ 0) then E50 else
  if ¬ mayP l m then E2 else tlP l m n args (ans.getD 0 0)
theorem szP_small {x : Int} (h : ¬ (x < 1 ∨ 64 < x)) : szP x = x := by unfold szP; rw [if_neg (by omega)]
theorem ans_br {ans : List Int} {f : Int → Option R} (hf : ∀ a b, a = b → f a = f b) : br (W.gt (W.ofNat (W.len ans)) 0) (br (W.and2 true (W.lt 0 (W.ofNat (W.len ans)))) (f (W.get ans 0 0)) none) (f 0) = f (ans.getD 0 0) := by
  rw [W.gt_d, W.lt_d, W.ofNat_eq, W.len_eq, and2_tl, br_d, br_d, W.get_eq]
  by_cases h : (0 : Int) < (ans.length : Int)
  · rw [if_pos h, if_pos h]
  · rw [if_neg h]
    apply hf
    have : ans = [] := List.length_eq_zero_iff.1 (by omega)
    subst this; rfl
open Classical in
theorem rdo_3 (l : La) (m : Me) (args ans : List Int) (hm : m.length ≤ 140737488351232) (hs : meSz m) (ha : U64s args) (hl : args.length * 8 ≤ 140737488351232) (k : Int × Me × (Int × List Int × List Int) × Int → Option R) :
    F_clevisref05Do R (l, m, 3, args, ans) k = k (doP l m 3 args ans) := by
  obtain ⟨⟨(c : Int), (cw : Bool)⟩, (ms : List Ar)⟩ := l
  have a0 := ha 0
  have a1 := ha 1
  have e33 : W.eq 3 3 = true := by decide
  have e34 : W.eq 3 4 = false := by decide
  simp only [F_clevisref05Do, N_clevisref05Do]
  rw [rspans_eq 3 args ha]
  by_cases h : ¬ okH 3 ∨ args.length < (tblA 3).length
  · unfold doP spanP
    rw [if_pos h, if_pos h]
    simp only [e33, e34, not_tt, not_ff, and2_tl, and2_fl, or2_tl, or2_fl, pick_tl, pick_fl, br_t, br_f]
    rfl
  have hlen : 2 ≤ args.length := by
    have : ¬ args.length < (tblA 3).length := fun h2 => h (.inr h2)
    have e : (tblA 3).length = 2 := rfl
    omega
  have es : spanP 3 args = ((args.getD 0 0, szP (args.getD 1 0)), (0, 0), true) := by unfold spanP; rw [if_neg h, if_pos rfl]
  have c0 : W.lt 0 (W.ofNat (W.len args)) = true := by rw [W.lt_d, W.ofNat_eq, W.len_eq]; exact decide_eq_true (by omega)
  have c1 : W.lt 1 (W.ofNat (W.len args)) = true := by rw [W.lt_d, W.ofNat_eq, W.len_eq]; exact decide_eq_true (by omega)
  rw [es]
  simp only [e33, e34, c0, c1, not_tt, not_ff, and2_tl, and2_fl, and2_fr, or2_tl, or2_fl, or2_tr, pick_tl, pick_fl, br_t, br_f, W.get_eq]
  have e1 : W.pick (W.pick (W.lt (args.getD 1 0) 1) true (W.gt (args.getD 1 0) 64)) true false = decide (args.getD 1 0 < 1 ∨ 64 < args.getD 1 0) := by
    rw [Bool.eq_iff_iff, W.picko_t, W.picko_t, W.lt_t, W.gt_d, decide_eq_true_iff, decide_eq_true_iff]; simp
  rw [e1, br_d]
  unfold doP
  rw [if_neg h]
  by_cases h1 : args.getD 1 0 < 1 ∨ 64 < args.getD 1 0
  · rw [if_pos h1, if_pos ⟨.inl rfl, h1⟩]; rfl
  rw [if_neg h1, if_neg (fun h2 => h1 h2.2), szP_small h1, raccess_eq _ _ _ _ a0, W.ne_d, W.not_eq, br_nd]
  by_cases h2 : accP ((c, cw), ms) (args.getD 0 0) (args.getD 1 0) false ≠ 0
  · rw [if_pos h2, if_pos (.inl ⟨rfl, h2⟩)]; rfl
  rw [if_neg h2, if_neg (fun h3 => h3.elim (fun h => h2 h.2) (fun h => absurd h.1 (by decide))), rmay_eq _ _ hm, W.not_eq, br_nd]
  by_cases h3 : mayP ((c, cw), ms) m
  rotate_left
  · rw [if_neg h3, if_pos h3]; rfl
  rw [if_pos h3, if_neg (fun h4 => h4 h3), rtable_eq, rtable_eq]
  have f1 : W.toNat (W.ofNat (W.len (tblP 3).1.2.1)) = 2 := rfl
  have f2 : W.and2 (W.le 0 (W.ofNat (W.len (tblP 3).1.2.1))) (W.le (W.ofNat (W.len (tblP 3).1.2.1)) (W.ofNat (W.len args))) = true := by
    show W.and2 (W.le 0 2) (W.le 2 (W.ofNat (W.len args))) = true
    rw [W.le_d, W.le_d, W.and2_d, W.ofNat_eq, W.len_eq]; exact decide_eq_true (by omega)
  have f3 : W.slice args 0 2 = args.take 2 := by simp [W.slice]
  have f4 : (args.take 2).length = 2 := by rw [List.length_take]; omega
  have f5 : W.leN (W.mulN (W.len (args.take 2)) 8) 140737488355328 = true := by rw [W.len_eq, f4]; rfl
  have f6 : W.lt 0 (W.ofNat (W.len (args.take 2))) = true := by rw [W.len_eq, f4]; rfl
  rw [f1, f2, f3, f5, br_t, br_t, br_t, br_t, copy_eq m hs, copy_eq m hs, f6, br_t, br_t, rbytes_eq _ _ _ _ hm a0, rbytes_eq _ _ _ _ hm a0]
  have := ans_br (R := R) (ans := ans) (f := fun a => k (a, m, (3, W.set (args.take 2) 0 0, (bytesP ((c, cw), ms) m (args.getD 0 0) (args.getD 1 0)).1), 0)) (fun a b h => by rw [h])
  rw [and2_tl] at this
  refine this.trans ?_
  unfold tlP
  rw [if_pos rfl, W.set_eq]
theorem rem8 (t : Nat) : W.rem (t : Int) 8 = ((t % 8 : Nat) : Int) := by unfold W.rem; rw [Int.tmod_eq_emod_of_nonneg (by omega)]; omega
def fillN (a : Int) (t : Nat) : List Int := (List.range t).map fun i => by8 a (i % 8)
theorem fillN_s (a : Int) (t : Nat) : fillN a (t + 1) = fillN a t ++ [by8 a (t % 8)] := by unfold fillN; rw [List.range_succ, List.map_append]; rfl
theorem bytes_loop {m : Me} {c : Int} {cw : Bool} {ms : List Ar} {a y7 y8 y10 : Int} {y11 N : Nat} {y12 : List Int} {fl : Nat} (hN : N ≤ 1000) {k : Int × Me × (Int × List Int × List Int) × Int → Option R} : ∀ (j e t : Nat), t + j = N →
    P_clevisref05Do_23_0 F_clevisref05Table F_clevisref05Spans F_clevisref02Copy F_clevisref02Access F_clevisref02May F_clevisref02Bytes F_clevisref02Fill fl (e + j + 1) R m a t (t : Int) c cw ms y7 y8 (N : Int) y10 y11 y12 (fillN a t) k =
      F_clevisref02Fill R (((c, cw), ms), m, y8, fillN a N) fun y => k (a, y.1, (y10, y12, []), 0)
  | 0, e, t, h => by
    have : t = N := by omega
    subst this
    rw [P_clevisref05Do_23_0_s, W.lt_irr, br_f]
  | j + 1, e, t, h => by
    have ih := bytes_loop (m := m) (c := c) (cw := cw) (ms := ms) (a := a) (y7 := y7) (y8 := y8) (y10 := y10) (y11 := y11) (y12 := y12) (fl := fl) hN (k := k) j e (t + 1) (by omega)
    rw [show e + (j + 1) + 1 = (e + j + 1) + 1 from by omega, P_clevisref05Do_23_0_s, W.lt_d, decide_eq_true (show (t : Int) < (N : Int) by omega), br_t]
    have g1 : W.leN (W.mulN (W.addN t 1) 1) 140737488355328 = true := decide_eq_true (show (t + 1) * 1 ≤ 140737488355328 by omega)
    rw [g1, br_t, W.succ64 (by omega), rem8, byte_of' (Nat.mod_lt _ (by omega))]
    have g2 : W.app (fillN a t) [by8 a (t % 8)] = fillN a (t + 1) := by rw [fillN_s]; rfl
    have g3 : W.addN t 1 = t + 1 := rfl
    rw [g2, g3, ih]
open Classical in
theorem rdo_4 (l : La) (m : Me) (args ans : List Int) (hm : m.length ≤ 140737488351232) (hs : meSz m) (ha : U64s args) (hl : args.length * 8 ≤ 140737488351232) (k : Int × Me × (Int × List Int × List Int) × Int → Option R) :
    F_clevisref05Do R (l, m, 4, args, ans) k = k (doP l m 4 args ans) := by
  obtain ⟨⟨(c : Int), (cw : Bool)⟩, (ms : List Ar)⟩ := l
  have a0 := ha 0
  have a1 := ha 1
  have e33 : W.eq 4 4 = true := by decide
  have e34 : W.eq 4 3 = false := by decide
  simp only [F_clevisref05Do, N_clevisref05Do]
  rw [rspans_eq 4 args ha]
  by_cases h : ¬ okH 4 ∨ args.length < (tblA 4).length
  · unfold doP spanP
    rw [if_pos h, if_pos h]
    simp only [e33, e34, not_tt, not_ff, and2_tl, and2_fl, or2_tl, or2_fl, pick_tl, pick_fl, br_t, br_f]
    rfl
  have hlen : 2 ≤ args.length := by
    have : ¬ args.length < (tblA 4).length := fun h2 => h (.inr h2)
    have e : (tblA 4).length = 2 := rfl
    omega
  have es : spanP 4 args = ((0, 0), (args.getD 0 0, szP (args.getD 1 0)), true) := by unfold spanP; rw [if_neg h, if_neg (by decide), if_pos rfl]
  have c0 : W.lt 0 (W.ofNat (W.len args)) = true := by rw [W.lt_d, W.ofNat_eq, W.len_eq]; exact decide_eq_true (by omega)
  have c1 : W.lt 1 (W.ofNat (W.len args)) = true := by rw [W.lt_d, W.ofNat_eq, W.len_eq]; exact decide_eq_true (by omega)
  rw [es]
  simp only [e33, e34, c0, c1, not_tt, not_ff, and2_tl, and2_fl, and2_fr, or2_tl, or2_fl, or2_tr, pick_tl, pick_fl, br_t, br_f, W.get_eq]
  have e1 : W.pick (W.lt (args.getD 1 0) 1) true (W.gt (args.getD 1 0) 64) = decide (args.getD 1 0 < 1 ∨ 64 < args.getD 1 0) := by
    rw [Bool.eq_iff_iff, W.picko_t, W.lt_t, W.gt_d, decide_eq_true_iff, decide_eq_true_iff]
  rw [e1, br_d]
  unfold doP
  rw [if_neg h]
  by_cases h1 : args.getD 1 0 < 1 ∨ 64 < args.getD 1 0
  · rw [if_pos h1, if_pos ⟨.inr rfl, h1⟩]; rfl
  rw [if_neg h1, if_neg (fun h2 => h1 h2.2), szP_small h1, raccess_eq _ _ _ _ a0, W.ne_d, br_d]
  by_cases h2 : accP ((c, cw), ms) (args.getD 0 0) (args.getD 1 0) true ≠ 0
  · rw [if_pos h2, if_pos (.inr ⟨rfl, h2⟩)]; rfl
  rw [if_neg h2, if_neg (fun h3 => h3.elim (fun h => absurd h.1 (by decide)) (fun h => h2 h.2)), rmay_eq _ _ hm, W.not_eq, br_nd]
  by_cases h3 : mayP ((c, cw), ms) m
  rotate_left
  · rw [if_neg h3, if_pos h3]; rfl
  rw [if_pos h3, if_neg (fun h4 => h4 h3), rtable_eq, rtable_eq]
  have f1 : W.toNat (W.ofNat (W.len (tblP 4).1.2.1)) = 2 := rfl
  have f2 : W.and2 (W.le 0 (W.ofNat (W.len (tblP 4).1.2.1))) (W.le (W.ofNat (W.len (tblP 4).1.2.1)) (W.ofNat (W.len args))) = true := by
    show W.and2 (W.le 0 2) (W.le 2 (W.ofNat (W.len args))) = true
    rw [W.le_d, W.le_d, W.and2_d, W.ofNat_eq, W.len_eq]; exact decide_eq_true (by omega)
  have f3 : W.slice args 0 2 = args.take 2 := by simp [W.slice]
  have f4 : (args.take 2).length = 2 := by rw [List.length_take]; omega
  have f5 : W.leN (W.mulN (W.len (args.take 2)) 8) 140737488355328 = true := by rw [W.len_eq, f4]; rfl
  have f6 : W.lt 0 (W.ofNat (W.len (args.take 2))) = true := by rw [W.len_eq, f4]; rfl
  rw [f1, f2, f3, f5, br_t, br_t, br_t, br_t, copy_eq m hs, copy_eq m hs, f6, br_t, br_t]
  obtain ⟨N, hN⟩ : ∃ N : Nat, args.getD 1 0 = (N : Int) := ⟨(args.getD 1 0).toNat, by omega⟩
  have hN6 : N ≤ 64 := by omega
  have go : ∀ a : Int, P_clevisref05Do_23_0 F_clevisref05Table F_clevisref05Spans F_clevisref02Copy F_clevisref02Access F_clevisref02May F_clevisref02Bytes F_clevisref02Fill W.big W.big R m a 0 0 c cw ms 0 (args.getD 0 0) (args.getD 1 0) 4 (W.len (args.take 2)) (W.set (args.take 2) 0 0) [] k =
      k (a, (fillP ((c, cw), ms) m (args.getD 0 0) (fillB a (args.getD 1 0))).1, (4, W.set (args.take 2) 0 0, []), 0) := by
    intro a
    have hb : W.big = (W.big - (N + 1)) + N + 1 := by have : N + 1 < W.big := big_lt (by omega); omega
    have := bytes_loop (R := R) (m := m) (c := c) (cw := cw) (ms := ms) (a := a) (y7 := 0) (y8 := args.getD 0 0) (y10 := 4) (y11 := W.len (args.take 2)) (y12 := W.set (args.take 2) 0 0) (fl := W.big) (N := N) (by omega) (k := k) N (W.big - (N + 1)) 0 (by omega)
    rw [← hb, ← hN, rfillM_eq _ _ _ _ hm a0] at this
    have e3 : fillB a (args.getD 1 0) = fillN a N := by unfold fillB fillN; rw [hN]; rfl
    rw [e3]
    exact this
  rw [go, go]
  have := ans_br (R := R) (ans := ans) (f := fun a => k (a, (fillP ((c, cw), ms) m (args.getD 0 0) (fillB a (args.getD 1 0))).1, (4, W.set (args.take 2) 0 0, []), 0)) (fun a b h => by rw [h])
  rw [and2_tl, W.get_eq] at this
  refine this.trans ?_
  unfold tlP
  rw [if_neg (by decide), if_pos rfl, W.set_eq]
open Classical in
theorem rdo_5 (l : La) (m : Me) (args ans : List Int) (hm : m.length ≤ 140737488351232) (hs : meSz m) (ha : U64s args) (hl : args.length * 8 ≤ 140737488351232) (k : Int × Me × (Int × List Int × List Int) × Int → Option R) :
    F_clevisref05Do R (l, m, 5, args, ans) k = k (doP l m 5 args ans) := by
  obtain ⟨⟨(c : Int), (cw : Bool)⟩, (ms : List Ar)⟩ := l
  have e33 : W.eq 5 4 = false := by decide
  have e34 : W.eq 5 3 = false := by decide
  have e35 : W.eq 5 5 = true := by decide
  simp only [F_clevisref05Do, N_clevisref05Do]
  rw [rspans_eq 5 args ha]
  by_cases h : ¬ okH 5 ∨ args.length < (tblA 5).length
  · unfold doP spanP
    rw [if_pos h, if_pos h]
    simp only [e33, e34, not_tt, not_ff, and2_tl, and2_fl, or2_tl, or2_fl, pick_tl, pick_fl, br_t, br_f]
    rfl
  have hlen : 3 ≤ args.length := by
    have : ¬ args.length < (tblA 5).length := fun h2 => h (.inr h2)
    have e : (tblA 5).length = 3 := rfl
    omega
  have es : spanP 5 args = ((0, 0), (0, 0), true) := by unfold spanP; rw [if_neg h, if_neg (by decide), if_neg (by decide)]
  have c0 : W.lt 0 (W.ofNat (W.len args)) = true := by rw [W.lt_d, W.ofNat_eq, W.len_eq]; exact decide_eq_true (by omega)
  have c1 : W.lt 1 (W.ofNat (W.len args)) = true := by rw [W.lt_d, W.ofNat_eq, W.len_eq]; exact decide_eq_true (by omega)
  have c2 : W.lt 2 (W.ofNat (W.len args)) = true := by rw [W.lt_d, W.ofNat_eq, W.len_eq]; exact decide_eq_true (by omega)
  rw [es]
  simp only [e33, e34, e35, c0, c1, c2, not_tt, not_ff, and2_tl, and2_fl, and2_fr, or2_tl, or2_fl, or2_tr, pick_tl, pick_fl, br_t, br_f, W.get_eq]
  unfold doP
  rw [if_neg h, if_neg (fun h2 => h2.1.elim (by decide) (by decide)), if_neg (fun h3 => h3.elim (fun h => absurd h.1 (by decide)) (fun h => absurd h.1 (by decide))), rmay_eq _ _ hm, W.not_eq, br_nd]
  by_cases h3 : mayP ((c, cw), ms) m
  rotate_left
  · rw [if_neg h3, if_pos h3]; rfl
  rw [if_pos h3, if_neg (fun h4 => h4 h3), rtable_eq, rtable_eq]
  have f1 : W.toNat (W.ofNat (W.len (tblP 5).1.2.1)) = 3 := rfl
  have f2 : W.and2 (W.le 0 (W.ofNat (W.len (tblP 5).1.2.1))) (W.le (W.ofNat (W.len (tblP 5).1.2.1)) (W.ofNat (W.len args))) = true := by
    show W.and2 (W.le 0 3) (W.le 3 (W.ofNat (W.len args))) = true
    rw [W.le_d, W.le_d, W.and2_d, W.ofNat_eq, W.len_eq]; exact decide_eq_true (by omega)
  have f3 : W.slice args 0 3 = args.take 3 := by simp [W.slice]
  have f4 : (args.take 3).length = 3 := by rw [List.length_take]; omega
  have f5 : W.leN (W.mulN (W.len (args.take 3)) 8) 140737488355328 = true := by rw [W.len_eq, f4]; rfl
  rw [f1, f2, f3, f5, br_t, br_t, br_t, br_t, copy_eq m hs, copy_eq m hs]
  have g : ∀ a : Int, W.wrap IntKind.u64 (W.add (W.wrap IntKind.u64 (W.add (W.wrap IntKind.u64 (W.add (args.getD 0 0) (W.wrap IntKind.u64 (W.mul (args.getD 1 0) 3)))) (W.wrap IntKind.u64 (W.mul (args.getD 2 0) 5)))) a) = (args.getD 0 0 + 3 * args.getD 1 0 + 5 * args.getD 2 0 + a) % 18446744073709551616 := by
    intro a
    simp only [W.add_eq, W.mul_eq, W.wu64]; omega
  rw [g, g]
  have := ans_br (R := R) (ans := ans) (f := fun a => k ((args.getD 0 0 + 3 * args.getD 1 0 + 5 * args.getD 2 0 + a) % 18446744073709551616, m, (5, args.take 3, []), 0)) (fun a b h => by rw [h])
  rw [and2_tl, W.get_eq] at this
  refine this.trans ?_
  unfold tlP
  rw [if_neg (by decide), if_neg (by decide), if_pos rfl]
open Classical in
theorem rdo_x (l : La) (m : Me) (n : Int) (hn : n ≠ 3 ∧ n ≠ 4 ∧ n ≠ 5) (args ans : List Int) (hm : m.length ≤ 140737488351232) (hs : meSz m) (ha : U64s args) (hl : args.length * 8 ≤ 140737488351232) (k : Int × Me × (Int × List Int × List Int) × Int → Option R) :
    F_clevisref05Do R (l, m, n, args, ans) k = k (doP l m n args ans) := by
  obtain ⟨⟨(c : Int), (cw : Bool)⟩, (ms : List Ar)⟩ := l
  have e33 : W.eq n 4 = false := by rw [W.eq_d]; exact decide_eq_false hn.2.1
  have e34 : W.eq n 3 = false := by rw [W.eq_d]; exact decide_eq_false hn.1
  have e35 : W.eq n 5 = false := by rw [W.eq_d]; exact decide_eq_false hn.2.2
  simp only [F_clevisref05Do, N_clevisref05Do]
  rw [rspans_eq n args ha]
  by_cases h : ¬ okH n ∨ args.length < (tblA n).length
  · unfold doP spanP
    rw [if_pos h, if_pos h]
    simp only [e33, e34, not_tt, not_ff, and2_tl, and2_fl, or2_tl, or2_fl, pick_tl, pick_fl, br_t, br_f]
    rfl
  have hlen : (tblA n).length ≤ args.length := by
    have : ¬ args.length < (tblA n).length := fun h2 => h (.inr h2)
    omega
  have es : spanP n args = ((0, 0), (0, 0), true) := by unfold spanP; rw [if_neg h, if_neg hn.1, if_neg hn.2.1]
  rw [es]
  simp only [e33, e34, e35, not_tt, not_ff, and2_tl, and2_fl, and2_fr, or2_tl, or2_fl, or2_tr, pick_tl, pick_fl, br_t, br_f, W.get_eq]
  unfold doP
  rw [if_neg h, if_neg (fun h2 => h2.1.elim hn.1 hn.2.1), if_neg (fun h3 => h3.elim (fun h => hn.1 h.1) (fun h => hn.2.1 h.1)), rmay_eq _ _ hm, W.not_eq, br_nd]
  by_cases h3 : mayP ((c, cw), ms) m
  rotate_left
  · rw [if_neg h3, if_pos h3]; rfl
  rw [if_pos h3, if_neg (fun h4 => h4 h3), rtable_eq, rtable_eq]
  have f0 : (tblP n).1.2.1 = tblA n := rfl
  have f1 : W.toNat (W.ofNat (W.len (tblA n))) = (tblA n).length := by rw [W.ofNat_eq, W.len_eq, W.toNat_nat]
  have f2 : W.and2 (W.le 0 (W.ofNat (W.len (tblA n)))) (W.le (W.ofNat (W.len (tblA n))) (W.ofNat (W.len args))) = true := by
    rw [W.le_d, W.le_d, W.and2_d, W.ofNat_eq, W.len_eq, W.ofNat_eq, W.len_eq]; exact decide_eq_true (by omega)
  have f3 : W.slice args 0 (tblA n).length = args.take (tblA n).length := by simp [W.slice]
  have f5 : W.leN (W.mulN (W.len (args.take (tblA n).length)) 8) 140737488355328 = true := by
    rw [W.len_eq, List.length_take]; exact decide_eq_true (show min (tblA n).length args.length * 8 ≤ 140737488355328 by omega)
  rw [f0, f1, f2, f3, f5, br_t, br_t, br_t, br_t, copy_eq m hs, copy_eq m hs]
  have := ans_br (R := R) (ans := ans) (f := fun a => k (a, m, (n, args.take (tblA n).length, []), 0)) (fun a b h => by rw [h])
  rw [and2_tl, W.get_eq] at this
  refine this.trans ?_
  unfold tlP
  rw [if_neg hn.1, if_neg hn.2.1, if_neg hn.2.2]
/-- The document's answer. -/
theorem rdo_eq (l : La) (m : Me) (n : Int) (args ans : List Int) (hm : m.length ≤ 140737488351232) (hs : meSz m) (ha : U64s args) (hl : args.length * 8 ≤ 140737488351232) (k : Int × Me × (Int × List Int × List Int) × Int → Option R) :
    F_clevisref05Do R (l, m, n, args, ans) k = k (doP l m n args ans) := by
  by_cases h3 : n = 3
  · subst h3; exact rdo_3 l m args ans hm hs ha hl k
  by_cases h4 : n = 4
  · subst h4; exact rdo_4 l m args ans hm hs ha hl k
  by_cases h5 : n = 5
  · subst h5; exact rdo_5 l m args ans hm hs ha hl k
  exact rdo_x l m n ⟨h3, h4, h5⟩ args ans hm hs ha hl k
end Go.Proofs.Ytkgoajomlglkcaa
