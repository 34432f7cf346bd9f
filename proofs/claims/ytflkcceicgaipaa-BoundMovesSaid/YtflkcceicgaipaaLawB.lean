import Derived.Test.YtflkcceicgaipaaLawA
set_option linter.unusedVariables false
set_option linter.unusedSimpArgs false
namespace Go.Proofs.Ytflkcceicgaipaa
open Go Go.Eng

noncomputable def wfB (b : Bd) : Prop := wfI .u64 b.1 ∧ wfI .u64 b.2.1 ∧ wfI .i64 b.2.2.1 ∧ wfI .i64 b.2.2.2.1 ∧ wfI .u64 b.2.2.2.2.1 ∧ wfI .u64 b.2.2.2.2.2
theorem bitsB_eq (a b c d v m : Int) : bitsB (a, b, c, d, v, m) = (W.max a v, W.min b (U (B64 v ||| B64 m)), W.max c (I (B64 v ||| (B64 m &&& top))), W.min d (I (B64 v ||| (B64 m &&& ~~~top))), v, m) := by
  simp only [bitsB, W.wrap_u64, W.wrap_i64, W.or_u64, W.and_u64, W.andNot_u64, B64_U, B64_top]
theorem wf_bits {b : Bd} (h : wfB b) : wfB (bitsB b) := by
  obtain ⟨a, b, c, d, v, m⟩ := b
  obtain ⟨h1, h2, h3, h4, h5, h6⟩ := h
  rw [bitsB_eq]
  exact ⟨wf_max h1 h5, wf_min h2 (wf_U _), wf_max h3 (wf_I _), wf_min h4 (wf_I _), h5, h6⟩
/-- The bits' part loses no number, and lets none in. -/
theorem bits_in {b : Bd} {x : Int} (h : wfB b) (hx : wfI .u64 x) : inP (bitsB b) x ↔ inP b x := by
  obtain ⟨a, b, c, d, v, m⟩ := b
  rw [bitsB_eq]
  simp only [inP, W.max_le, W.le_min]
  constructor
  · rintro ⟨⟨⟨h1, h2⟩, h3, h4⟩, ⟨⟨h5, h6⟩, h7, h8⟩, h9⟩; exact ⟨⟨h1, h3⟩, ⟨h5, h7⟩, h9⟩
  · rintro ⟨⟨h1, h3⟩, ⟨h5, h7⟩, h9⟩
    have e : B64 v = B64 x &&& ~~~(B64 m) := by rw [← h9, B64_U]
    have hv : v = U (B64 x &&& ~~~(B64 m)) := h9.symm
    have k1 := bits_lo (B64 x) (B64 m)
    have k2 := bits_hi (B64 x) (B64 m)
    have k3 := bits_slo (B64 x) (B64 m)
    have k4 := bits_shi (B64 x) (B64 m)
    rw [U_B64 hx] at k1 k2
    rw [e]
    exact ⟨⟨⟨h1, by omega⟩, h3, by omega⟩, ⟨⟨h5, by omega⟩, h7, by omega⟩, h9⟩
noncomputable def signsB (b : Bd) : Bd :=
  if b.2.2.1 ≥ 0 ∨ b.2.2.2.1 < 0 then
    (W.max b.1 (U (B64 b.2.2.1)), W.min b.2.1 (U (B64 b.2.2.2.1)), I (B64 (W.max b.1 (U (B64 b.2.2.1)))), I (B64 (W.min b.2.1 (U (B64 b.2.2.2.1)))), b.2.2.2.2.1, b.2.2.2.2.2)
  else if I (B64 b.2.1) ≥ 0 then (b.1, U (B64 (W.min b.2.2.2.1 (I (B64 b.2.1)))), I (B64 b.1), W.min b.2.2.2.1 (I (B64 b.2.1)), b.2.2.2.2.1, b.2.2.2.2.2)
  else if I (B64 b.1) < 0 then (U (B64 (W.max b.2.2.1 (I (B64 b.1)))), b.2.1, W.max b.2.2.1 (I (B64 b.1)), I (B64 b.2.1), b.2.2.2.2.1, b.2.2.2.2.2)
  else b
theorem signsK_eq {R : Type} (b : Bd) (k : Bd → Option R) : signsK b k = k (signsB b) := by
  obtain ⟨a, b, c, d, v, m⟩ := b
  simp only [signsK, signsB, W.wrap_u64, W.wrap_i64, pick_o, W.ge, W.lt]
  by_cases h1 : c ≥ 0 ∨ d < 0
  · rw [if_pos h1]; simp only [← Bool.decide_or, h1, decide_true, br, cond_true]
  · rw [if_neg h1]; simp only [← Bool.decide_or, h1, decide_false, br, cond_false]
    by_cases h2 : I (B64 b) ≥ 0
    · rw [if_pos h2]; simp only [h2, decide_true, cond_true]
    · rw [if_neg h2]; simp only [h2, decide_false, cond_false]
      by_cases h3 : I (B64 a) < 0
      · rw [if_pos h3]; simp only [h3, decide_true, cond_true]
      · rw [if_neg h3]; simp only [h3, decide_false, cond_false]
theorem wf_signs {b : Bd} (h : wfB b) : wfB (signsB b) := by
  obtain ⟨a, b, c, d, v, m⟩ := b
  obtain ⟨h1, h2, h3, h4, h5, h6⟩ := h
  simp only [signsB]
  split
  · exact ⟨wf_max h1 (wf_U _), wf_min h2 (wf_U _), wf_I _, wf_I _, h5, h6⟩
  split
  · exact ⟨h1, wf_U _, wf_I _, wf_min h4 (wf_I _), h5, h6⟩
  split
  · exact ⟨wf_U _, h2, wf_max h3 (wf_I _), wf_I _, h5, h6⟩
  · exact ⟨h1, h2, h3, h4, h5, h6⟩
theorem signs_in {b : Bd} {x : Int} (h : wfB b) (hx : wfI .u64 x) (he : b.1 ≤ b.2.1 ∧ b.2.2.1 ≤ b.2.2.2.1) : inP (signsB b) x ↔ inP b x := by
  obtain ⟨a, b, c, d, v, m⟩ := b
  obtain ⟨h1, h2, h3, h4, h5, h6⟩ := h
  obtain ⟨he1, he2⟩ := he
  simp only at h1 h2 h3 h4 h5 h6 he1 he2
  have r1 := u64_lo h1; have r2 := u64_lo h2; have r3 := i64_lo h3; have r4 := i64_lo h4; have rx := u64_lo hx
  simp only [signsB]
  split
  · rename_i hc
    have w1 := wf_max h1 (wf_U (B64 c)); have w2 := wf_min h2 (wf_U (B64 d))
    simp only [inP, ← and_assoc]
    rw [I_of_u w1, I_of_u w2, I_of_u hx, U_of_i h3, U_of_i h4]
    apply and_congr_left; intro _
    simp only [W.max, W.min]
    grind
  split
  · rename_i hc hb
    have w1 := wf_min h4 (wf_I (B64 b))
    simp only [inP, ← and_assoc]
    rw [U_of_i w1]
    rw [I_of_u h2] at hb ⊢
    rw [I_of_u h1, I_of_u hx]
    apply and_congr_left; intro _
    simp only [W.max, W.min]
    grind
  split
  · rename_i hc hb ha
    have w1 := wf_max h3 (wf_I (B64 a))
    simp only [inP, ← and_assoc]
    rw [U_of_i w1]
    rw [I_of_u h1] at ha ⊢
    rw [I_of_u h2] at hb ⊢
    rw [I_of_u hx]
    apply and_congr_left; intro _
    simp only [W.max, W.min]
    grind
  · rfl
end Go.Proofs.Ytflkcceicgaipaa
