import Derived.Test.YtkgoajomlglkcaaLawE
set_option linter.unusedVariables false
set_option linter.unusedSimpArgs false
set_option maxHeartbeats 4000000
set_option maxRecDepth 100000
namespace Go.Proofs.Ytkgoajomlglkcaa
open Go Go.Eng
variable {R : Type}
/-! ### helpers: the table, what they read and write -/
noncomputable def nmP (n : Int) : ByteArray := match F_helper_Table ((ByteArray × List Int × Int) × Bool) n some with
  | some y => y.1.1
  | none => ByteArray.empty
def tblA (n : Int) : List Int := if n = 2 then [1] else if n = 3 then [2, 4] else if n = 4 then [3, 4] else if n = 5 then [1, 1, 1] else []
def mstP (n : Int) : Int := if n = 3 ∨ n = 4 then 64 else 0
def okH (n : Int) : Prop := 1 ≤ n ∧ n ≤ 5
noncomputable def tblP (n : Int) : (ByteArray × List Int × Int) × Bool := ((nmP n, tblA n, mstP n), @decide (okH n) (Classical.propDecidable _))
theorem h_cases (n : Int) : n = 1 ∨ n = 2 ∨ n = 3 ∨ n = 4 ∨ n = 5 ∨ (n ≠ 1 ∧ n ≠ 2 ∧ n ≠ 3 ∧ n ≠ 4 ∧ n ≠ 5) := by omega
open Classical in
theorem okH_t {n : Int} (h : n = 1 ∨ n = 2 ∨ n = 3 ∨ n = 4 ∨ n = 5) : @decide (okH n) (Classical.propDecidable _) = true := by
  rw [decide_eq_true_iff]; unfold okH; omega
open Classical in
theorem okH_f {n : Int} (h : n ≠ 1 ∧ n ≠ 2 ∧ n ≠ 3 ∧ n ≠ 4 ∧ n ≠ 5) : @decide (okH n) (Classical.propDecidable _) = false := by
  rw [decide_eq_false_iff_not]; unfold okH; omega
open Classical in
theorem table_eq (n : Int) (k : (ByteArray × List Int × Int) × Bool → Option R) : F_helper_Table R n k = k (tblP n) := by
  unfold tblP
  rcases h_cases n with h | h | h | h | h | h
  · rw [okH_t (by omega)]; subst h; rfl
  · rw [okH_t (by omega)]; subst h; rfl
  · rw [okH_t (by omega)]; subst h; rfl
  · rw [okH_t (by omega)]; subst h; rfl
  · rw [okH_t (by omega)]; subst h; rfl
  · rw [okH_f h]
    have e : ∀ {m : Int}, n ≠ m → W.eq n m = false := fun h => by rw [W.eq_d]; exact decide_eq_false h
    unfold nmP tblA mstP
    rw [if_neg h.2.1, if_neg h.2.2.1, if_neg h.2.2.2.1, if_neg h.2.2.2.2, if_neg (by omega)]
    simp only [F_helper_Table, N_helper_Table, e h.1, e h.2.1, e h.2.2.1, e h.2.2.2.1, e h.2.2.2.2, br_f]
theorem rtable_eq (n : Int) (k : (ByteArray × List Int × Int) × Bool → Option R) : F_clevisref05Table R n k = k (tblP n) := by
  exact (show F_clevisref05Table R n k = F_helper_Table R n k from rfl).trans (table_eq n k)
def szP (x : Int) : Int := if 65 < x then 65 else x
open Classical in
noncomputable def spanP (n : Int) (args : List Int) : (Int × Int) × (Int × Int) × Bool :=
  if ¬ okH n ∨ args.length < (tblA n).length then ((0, 0), (0, 0), false) else
  if n = 3 then ((args.getD 0 0, szP (args.getD 1 0)), (0, 0), true) else
  if n = 4 then ((0, 0), (args.getD 0 0, szP (args.getD 1 0)), true) else ((0, 0), (0, 0), true)
def U64s (l : List Int) : Prop := ∀ i : Nat, p64 (l.getD i 0)
theorem szP_min {x : Int} (h : p64 x) : W.wrap .i64 (W.min x 65) = szP x := by
  unfold p64 at h; unfold W.min szP
  by_cases h2 : 65 < x
  · rw [if_pos h2]; decide
  · rw [if_neg h2, W.wi64_id (by omega) (by omega)]
open Classical in
theorem span_test (n : Int) (args : List Int) : W.pick (W.not (tblP n).2) true (W.lt (W.ofNat (W.len args)) (W.ofNat (W.len (tblP n).1.2.1))) = decide (¬ okH n ∨ args.length < (tblA n).length) := by
  rw [Bool.eq_iff_iff, W.picko_t, W.lt_t, W.not_eq, decide_eq_true_iff, W.ofNat_eq, W.ofNat_eq, W.len_eq, W.len_eq]
  show (!decide (okH n)) = true ∨ (args.length : Int) < ((tblA n).length : Int) ↔ _
  by_cases h : okH n <;> simp [h]
theorem big_s : ∃ b, W.big = b + 1 + 1 + 1 + 1 + 1 := ⟨W.big - 5, by have : 5 < W.big := big_lt (by omega); omega⟩
theorem sp_step {kinds args : List Int} {b fl i : Nat} (hi : i < kinds.length) (hk : kinds.length < 1000) (ha : U64s args) {y4 y5 y6 y7 : Int} {k : (Int × Int) × (Int × Int) × Bool → Option R} :
    P_helper_Spans_5_0 F_helper_Table fl (b + 1) R args kinds (kinds.length : Int) (i : Int) y4 y5 y6 y7 k =
      if kinds.getD i 0 = 2 then (if i + 1 < args.length then P_helper_Spans_5_0 F_helper_Table fl b R args kinds (kinds.length : Int) ((i + 1 : Nat) : Int) (args.getD i 0) (szP (args.getD (i + 1) 0)) y6 y7 k else none)
      else if kinds.getD i 0 = 3 then (if i + 1 < args.length then P_helper_Spans_5_0 F_helper_Table fl b R args kinds (kinds.length : Int) ((i + 1 : Nat) : Int) y4 y5 (args.getD i 0) (szP (args.getD (i + 1) 0)) k else none)
      else P_helper_Spans_5_0 F_helper_Table fl b R args kinds (kinds.length : Int) ((i + 1 : Nat) : Int) y4 y5 y6 y7 k := by
  rw [P_helper_Spans_5_0_s, W.succ64 (by omega)]
  simp only [W.ofNat_eq, W.len_eq, W.get_eq, W.toNat_nat]
  rw [szP_min (ha (i + 1)), W.eq_d, W.eq_d, br_d, br_d]
  have c1 : W.lt (i : Int) (kinds.length : Int) = true := by rw [W.lt_d]; exact decide_eq_true (by omega)
  have c2 : W.and2 (W.le 0 (i : Int)) (W.lt (i : Int) (kinds.length : Int)) = true := by rw [W.le_d, W.lt_d, W.and2_d]; exact decide_eq_true (by omega)
  rw [c2, c1, br_t, br_t]
  have c3 : W.and2 (W.le 0 ((i + 1 : Nat) : Int)) (W.lt ((i + 1 : Nat) : Int) (args.length : Int)) = decide (i + 1 < args.length) := by
    rw [W.le_d, W.lt_d, W.and2_d, decide_eq_decide]; omega
  rw [c3, br_d, br_d]
  by_cases h : i + 1 < args.length
  · have c4 : W.and2 (W.le 0 (i : Int)) (W.lt (i : Int) (args.length : Int)) = true := by rw [W.le_d, W.lt_d, W.and2_d]; exact decide_eq_true (by omega)
    rw [c4, br_t, br_t]
  · simp only [if_neg h]
    have hb : ∀ c : Bool, br c (none : Option R) none = none := fun c => by cases c <;> rfl
    rw [hb]
theorem sp_end {kinds args : List Int} {b fl : Nat} {y4 y5 y6 y7 : Int} {k : (Int × Int) × (Int × Int) × Bool → Option R} :
    P_helper_Spans_5_0 F_helper_Table fl (b + 1) R args kinds (kinds.length : Int) (kinds.length : Int) y4 y5 y6 y7 k = k ((y4, y5), (y6, y7), true) := by
  rw [P_helper_Spans_5_0_s, W.lt_irr, br_f]
open Classical in
theorem spans_eq (n : Int) (args : List Int) (ha : U64s args) (hl : args.length < 1000000000000000) (k : (Int × Int) × (Int × Int) × Bool → Option R) : F_helper_Spans R (n, args) k = k (spanP n args) := by
  simp only [F_helper_Spans, N_helper_Spans]
  rw [table_eq, span_test, br_d]
  unfold spanP
  by_cases h : ¬ okH n ∨ args.length < (tblA n).length
  · rw [if_pos h, if_pos h]
  rw [if_neg h, if_neg h]
  have hok : okH n := Classical.byContradiction fun h2 => h (.inl h2)
  have hlen : (tblA n).length ≤ args.length := by omega
  obtain ⟨b, hb⟩ := big_s
  have go : ∀ fl, P_helper_Spans_5_0 F_helper_Table fl (b + 1 + 1 + 1 + 1 + 1) R args (tblA n) ((tblA n).length : Int) ((0 : Nat) : Int) 0 0 0 0 k =
      k (if n = 3 then ((args.getD 0 0, szP (args.getD 1 0)), (0, 0), true) else if n = 4 then ((0, 0), (args.getD 0 0, szP (args.getD 1 0)), true) else ((0, 0), (0, 0), true)) := by
    intro fl
    rcases h_cases n with h | h | h | h | h | h
    · subst h
      exact sp_end (kinds := [])
    · subst h
      show P_helper_Spans_5_0 F_helper_Table fl (b + 1 + 1 + 1 + 1 + 1) R args [1] (([1] : List Int).length : Int) ((0 : Nat) : Int) 0 0 0 0 k = _
      rw [sp_step (by decide) (by decide) ha]
      exact sp_end (kinds := [1])
    · subst h
      have hlen : 2 ≤ args.length := hlen
      show P_helper_Spans_5_0 F_helper_Table fl (b + 1 + 1 + 1 + 1 + 1) R args [2, 4] (([2, 4] : List Int).length : Int) ((0 : Nat) : Int) 0 0 0 0 k = _
      rw [sp_step (by decide) (by decide) ha, if_pos (by decide), if_pos (by omega), sp_step (by decide) (by decide) ha, if_neg (by decide), if_neg (by decide)]
      exact sp_end (kinds := [2, 4])
    · subst h
      have hlen : 2 ≤ args.length := hlen
      show P_helper_Spans_5_0 F_helper_Table fl (b + 1 + 1 + 1 + 1 + 1) R args [3, 4] (([3, 4] : List Int).length : Int) ((0 : Nat) : Int) 0 0 0 0 k = _
      rw [sp_step (by decide) (by decide) ha, if_neg (by decide), if_pos (by decide), if_pos (by omega), sp_step (by decide) (by decide) ha, if_neg (by decide), if_neg (by decide)]
      exact sp_end (kinds := [3, 4])
    · subst h
      show P_helper_Spans_5_0 F_helper_Table fl (b + 1 + 1 + 1 + 1 + 1) R args [1, 1, 1] (([1, 1, 1] : List Int).length : Int) ((0 : Nat) : Int) 0 0 0 0 k = _
      rw [sp_step (by decide) (by decide) ha, if_neg (by decide), if_neg (by decide), sp_step (by decide) (by decide) ha, if_neg (by decide), if_neg (by decide), sp_step (by decide) (by decide) ha, if_neg (by decide), if_neg (by decide)]
      exact sp_end (kinds := [1, 1, 1])
    · exact absurd hok (by unfold okH; omega)
  have := go W.big
  rw [← hb] at this
  exact this
theorem rsize5_eq (x : Int) (h : p64 x) (k : Int → Option R) : F_clevisref05size R x k = k (szP x) := by
  simp only [F_clevisref05size, N_clevisref05size]
  rw [W.gt_d, br_d]; unfold szP
  by_cases h2 : 65 < x
  · rw [if_pos h2, if_pos h2]
  · rw [if_neg h2, if_neg h2, W.wi64_id (by unfold p64 at h; omega) (by unfold p64 at h; omega)]
open Classical in
theorem rspans_eq (n : Int) (args : List Int) (ha : U64s args) (k : (Int × Int) × (Int × Int) × Bool → Option R) : F_clevisref05Spans R (n, args) k = k (spanP n args) := by
  simp only [F_clevisref05Spans, N_clevisref05Spans]
  rw [rtable_eq, span_test, br_d]
  unfold spanP
  by_cases h : ¬ okH n ∨ args.length < (tblA n).length
  · rw [if_pos h, if_pos h]
  rw [if_neg h, if_neg h, W.eq_d, br_d, W.eq_d, br_d]
  have hok : okH n := Classical.byContradiction fun h2 => h (.inl h2)
  have hlen : (tblA n).length ≤ args.length := by omega
  by_cases h3 : n = 3
  · subst h3
    have hlen : 2 ≤ args.length := hlen
    rw [if_pos rfl, if_pos rfl, W.lt_d, W.lt_d, W.ofNat_eq, W.len_eq, decide_eq_true (show (0 : Int) < (args.length : Int) by omega), decide_eq_true (show (1 : Int) < (args.length : Int) by omega)]
    have tt : W.and2 true true = true := rfl
    rw [tt, br_t, br_t, W.get_eq, rsize5_eq _ (ha 1), W.get_eq]
  · rw [if_neg h3, if_neg h3]
    by_cases h4 : n = 4
    · subst h4
      have hlen : 2 ≤ args.length := hlen
      rw [if_pos rfl, if_pos rfl, W.lt_d, W.lt_d, W.ofNat_eq, W.len_eq, decide_eq_true (show (0 : Int) < (args.length : Int) by omega), decide_eq_true (show (1 : Int) < (args.length : Int) by omega)]
      have tt : W.and2 true true = true := rfl
      rw [tt, br_t, br_t, W.get_eq, rsize5_eq _ (ha 1), W.get_eq]
    · rw [if_neg h4, if_neg h4]
open Classical in
theorem kinds_eq (a b : List Int) (ha : a.length < 1000000000000000) (hb : b.length < 1000000000000000) (k : Bool → Option R) : F_clevisref05Kinds R (a, b) k = k (decide (a = b)) := by
  simp only [F_clevisref05Kinds, N_clevisref05Kinds, W.ofNat_eq, W.len_eq]
  rw [W.ne_d, br_d]
  by_cases h : (a.length : Int) ≠ (b.length : Int)
  · rw [if_pos h, decide_eq_false]; rintro rfl; exact h rfl
  rw [if_neg h]
  have hlen : a.length = b.length := by omega
  have := loop_all (P := fun n (t : Int) => P_clevisref05Kinds_4_0 W.big n R a b t k) (N := a.length) (c := fun i => a.getD i 0 = b.getD i 0) (kt := k true) (kf := k false)
    (by
      intro n t ht
      simp only [P_clevisref05Kinds_4_0_s, W.ofNat_eq, W.len_eq, W.get_eq, W.toNat_nat]
      rw [W.lt_d, W.le_d, W.and2_d, decide_eq_true (show (t : Int) < (a.length : Int) by omega), br_t, decide_eq_true (show (0 : Int) ≤ (t : Int) ∧ (t : Int) < (a.length : Int) by omega), br_t,
        W.lt_d, W.and2_d, decide_eq_true (show (0 : Int) ≤ (t : Int) ∧ (t : Int) < (b.length : Int) by omega), br_t, W.ne_d, W.succ64 (by omega), br_d]
      by_cases h : a.getD t 0 = b.getD t 0
      · rw [if_pos h, if_neg (by simpa using h)]
      · rw [if_neg h, if_pos h])
    (by
      intro n
      simp only [P_clevisref05Kinds_4_0_s, W.ofNat_eq, W.len_eq]
      rw [W.lt_irr, br_f]) a.length W.big 0 (by omega) (big_lt (by omega))
  refine this.trans ?_
  by_cases h : a = b
  · rw [decide_eq_true h, if_pos (fun i _ h2 => by rw [h])]
  · rw [decide_eq_false h, if_neg]
    intro h2; apply h
    apply List.ext_getElem hlen
    intro i h3 h4
    have := h2 i (by omega) h3
    simpa [List.getD_eq_getElem?_getD, List.getElem?_eq_getElem h3, List.getElem?_eq_getElem h4] using this
end Go.Proofs.Ytkgoajomlglkcaa
