import Derived.Test.YtflkcceicgaipaaLawD
set_option linter.unusedVariables false
set_option linter.unusedSimpArgs false
set_option maxRecDepth 100000
namespace Go.Proofs.Ytflkcceicgaipaa
open Go Go.Eng

noncomputable def chkT (b : Bd) : Prop := b.2.2.2.2.1 = U (B64 b.2.2.2.2.1 &&& ~~~(B64 b.2.2.2.2.2))
theorem signs_bits (b : Bd) : (signsB b).2.2.2.2 = b.2.2.2.2 := by
  unfold signsB; split; · rfl
  split; · rfl
  split <;> rfl
theorem meet_bits {x v m v' m' : BitVec 64} (h1 : v &&& m = 0#64) (h2 : v' &&& m' = 0#64) :
    (x &&& ~~~m = v ∧ x &&& ~~~m' = v') ↔ ((v ^^^ v') &&& ~~~m &&& ~~~m' = 0#64 ∧ x &&& ~~~(m &&& m') = (v ||| v') &&& ~~~(m &&& m')) := by
  have b {p q : BitVec 64} : p = q ↔ ∀ i, i < 64 → p.getLsbD i = q.getLsbD i := ⟨fun h i _ => by rw [h], fun h => BitVec.eq_of_getLsbD_eq h⟩
  constructor
  · rintro ⟨rfl, rfl⟩
    refine ⟨b.2 fun i hi => ?_, b.2 fun i hi => ?_⟩ <;>
      simp only [BitVec.getLsbD_and, BitVec.getLsbD_xor, BitVec.getLsbD_or, BitVec.getLsbD_not, BitVec.getLsbD_zero, decide_eq_true hi, Bool.true_and] <;>
      cases x.getLsbD i <;> cases m.getLsbD i <;> cases m'.getLsbD i <;> rfl
  · rintro ⟨h3, h4⟩
    rw [b] at h1 h2 h3 h4
    refine ⟨b.2 fun i hi => ?_, b.2 fun i hi => ?_⟩
    all_goals
      have g1 := h1 i hi; have g2 := h2 i hi; have g3 := h3 i hi; have g4 := h4 i hi
      simp only [BitVec.getLsbD_and, BitVec.getLsbD_xor, BitVec.getLsbD_or, BitVec.getLsbD_not, BitVec.getLsbD_zero, decide_eq_true hi, Bool.true_and] at g1 g2 g3 g4 ⊢
      revert g1 g2 g3 g4
      cases x.getLsbD i <;> cases m.getLsbD i <;> cases m'.getLsbD i <;> cases v.getLsbD i <;> cases v'.getLsbD i <;> simp
theorem chk_zero {v m : Int} (h : v = U (B64 v &&& ~~~(B64 m))) : B64 v &&& B64 m = 0#64 := by
  have h1 : B64 v = B64 v &&& ~~~(B64 m) := by conv => lhs; rw [h, B64_U]
  generalize B64 v = a at h1 ⊢
  generalize B64 m = b at h1 ⊢
  have e : ∀ i, i < 64 → (a &&& b).getLsbD i = (0#64).getLsbD i := by
    intro i hi
    have h2 := congrArg (fun z => z.getLsbD i) h1
    simp only [BitVec.getLsbD_and, BitVec.getLsbD_not, BitVec.getLsbD_zero, decide_eq_true hi, Bool.true_and] at h2 ⊢
    revert h2; cases a.getLsbD i <;> cases b.getLsbD i <;> simp
  exact BitVec.eq_of_getLsbD_eq e
theorem empty_f {b : Bd} : emptyB b = false ↔ (b.1 ≤ b.2.1 ∧ b.2.2.1 ≤ b.2.2.2.1) := by
  unfold emptyB; rw [decide_eq_false_iff_not, Classical.not_not]
theorem not_in_empty {b : Bd} {x : Int} (h : emptyB b = true) : ¬inP b x := by
  unfold emptyB at h; rw [decide_eq_true_iff] at h
  rintro ⟨⟨h1, h2⟩, ⟨h3, h4⟩, _⟩
  exact h ⟨by omega, by omega⟩
theorem in_range {a b x : Int} (ha : wfI .u64 a) (hb : wfI .u64 b) (hx : wfI .u64 x) (h1 : a ≤ x) (h2 : x ≤ b) :
    B64 x &&& ~~~(B64 (rangeT a b).2) = B64 (rangeT a b).1 := by
  simp only [rangeT, B64_U]
  have e1 : ((B64 a).toNat : Int) = a := U_B64 ha
  have e2 : ((B64 b).toNat : Int) = b := U_B64 hb
  have e3 : ((B64 x).toNat : Int) = x := U_B64 hx
  exact range_keeps (by omega) (by omega)
theorem range_chk (a b : Int) : B64 (rangeT a b).1 &&& B64 (rangeT a b).2 = 0#64 := by
  simp only [rangeT, B64_U]
  generalize rangeV (B64 a) (B64 b) = r
  generalize B64 a = p
  ext i hi; simp

theorem round_none {b : Bd} (hw : wfB b) (hc : chkT b) (h : roundB b = none) {x : Int} (hx : wfI .u64 x) : ¬inP b x := by
  intro hin
  have h1 := (bits_in hw hx).2 hin
  unfold roundB at h
  cases he : emptyB (bitsB b) with
  | true => exact not_in_empty he h1
  | false =>
    rw [he] at h
    simp only [cond_false] at h
    have h2 := (signs_in (wf_bits hw) hx (empty_f.1 he)).2 h1
    have hs := wf_signs (wf_bits hw)
    have hb : (signsB (bitsB b)).2.2.2.2 = b.2.2.2.2 := by rw [signs_bits]; rfl
    generalize signsB (bitsB b) = d at h h2 hs hb
    have he2 : emptyB d = false := by
      cases he2 : emptyB d with
      | false => rfl
      | true => exact absurd h2 (not_in_empty he2)
    obtain ⟨w1, w2, w3, w4, w5, w6⟩ := hs
    obtain ⟨⟨i1, i2⟩, i3, i4⟩ := h2
    have hr := in_range w1 w2 hx i1 i2
    have i5 : B64 x &&& ~~~(B64 d.2.2.2.2.2) = B64 d.2.2.2.2.1 := by rw [← i4, B64_U]
    have hcz : B64 d.2.2.2.2.1 &&& B64 d.2.2.2.2.2 = 0#64 := by rw [hb]; exact chk_zero hc
    have hm := (meet_bits hcz (range_chk d.1 d.2.1)).1 ⟨i5, hr⟩
    simp only [meetT, decide_eq_true hm.1, he2, Bool.not_false, Bool.and_self, cond_true] at h
    cases h
theorem round_some {b c : Bd} (hw : wfB b) (hc : chkT b) (h : roundB b = some c) : wfB c ∧ chkP c ∧ ∀ {x : Int}, wfI .u64 x → (inP c x ↔ inP b x) := by
  unfold roundB at h
  cases he : emptyB (bitsB b) with
  | true => rw [he] at h; cases h
  | false =>
    rw [he] at h
    simp only [cond_false] at h
    have h2 : ∀ {x : Int}, wfI .u64 x → (inP (signsB (bitsB b)) x ↔ inP b x) := fun hx => (signs_in (wf_bits hw) hx (empty_f.1 he)).trans (bits_in hw hx)
    have hs := wf_signs (wf_bits hw)
    have hb : (signsB (bitsB b)).2.2.2.2 = b.2.2.2.2 := by rw [signs_bits]; rfl
    generalize signsB (bitsB b) = d at h h2 hs hb
    cases he2 : emptyB d with
    | true => rw [he2] at h; simp at h
    | false =>
      rw [he2] at h
      obtain ⟨w1, w2, w3, w4, w5, w6⟩ := hs
      have hcz : B64 d.2.2.2.2.1 &&& B64 d.2.2.2.2.2 = 0#64 := by rw [hb]; exact chk_zero hc
      simp only [meetT, Bool.not_false, Bool.and_true] at h
      cases hd : decide ((B64 d.2.2.2.2.1 ^^^ B64 (rangeT d.1 d.2.1).1) &&& ~~~(B64 d.2.2.2.2.2) &&& ~~~(B64 (rangeT d.1 d.2.1).2) = 0#64) with
      | false => rw [hd] at h; cases h
      | true =>
        rw [hd] at h
        simp only [cond_true, Option.some.injEq] at h
        subst h
        have he3 := empty_f.1 he2
        refine ⟨⟨w1, w2, w3, w4, wf_U _, wf_U _⟩, ⟨he3.1, he3.2, ?_⟩, fun {x} hx => ?_⟩
        · simp only [B64_U]; rw [BitVec.and_assoc, BitVec.and_self]
        · rw [← h2 hx]
          simp only [inP, B64_U]
          constructor
          · rintro ⟨i1, i2, i3⟩
            rw [U_inj] at i3
            have hm := (meet_bits hcz (range_chk d.1 d.2.1)).2 ⟨of_decide_eq_true hd, i3⟩
            exact ⟨i1, i2, by rw [hm.1, U_B64 w5]⟩
          · rintro ⟨⟨i1, i2⟩, i3, i4⟩
            have hr := in_range w1 w2 hx i1 i2
            have i5 : B64 x &&& ~~~(B64 d.2.2.2.2.2) = B64 d.2.2.2.2.1 := by rw [← i4, B64_U]
            have hm := (meet_bits hcz (range_chk d.1 d.2.1)).1 ⟨i5, hr⟩
            exact ⟨⟨i1, i2⟩, i3, by rw [hm.2]⟩
theorem tidy_none {b : Bd} (hw : wfB b) (hc : chkT b) (h : tidyB b = none) {x : Int} (hx : wfI .u64 x) : ¬inP b x := by
  unfold tidyB at h
  cases h1 : roundB b with
  | none => exact round_none hw hc h1 hx
  | some c =>
    rw [h1] at h
    obtain ⟨h2, h3, h4⟩ := round_some hw hc h1
    rw [← h4 hx]
    exact round_none h2 h3.2.2 h hx
theorem tidy_some {b c : Bd} (hw : wfB b) (hc : chkT b) (h : tidyB b = some c) : wfB c ∧ chkP c ∧ ∀ {x : Int}, wfI .u64 x → (inP c x ↔ inP b x) := by
  unfold tidyB at h
  cases h1 : roundB b with
  | none => rw [h1] at h; cases h
  | some e =>
    rw [h1] at h
    obtain ⟨h2, h3, h4⟩ := round_some hw hc h1
    obtain ⟨h5, h6, h7⟩ := round_some h2 h3.2.2 h
    exact ⟨h5, h6, fun hx => (h7 hx).trans (h4 hx)⟩
theorem wfB_of {x : Bd} (h : WfP (.agg (.prod (.int .u64) (.prod (.int .u64) (.prod (.int .i64) (.prod (.int .i64) (.prod (.int .u64) (.int .u64))))))) x) : wfB x := h
open Classical in
theorem tidies_pure (x : PTs.D ps_clevislaw08BoundTidies) (hw : WfL ps_clevislaw08BoundTidies x) :
    L_clevislaw08BoundTidies F_bound_Check F_bound_Tidy F_bound_In F_clevislaw08heads x = some () := by
  obtain ⟨⟨a, b, c, d, v, m⟩, y⟩ := x
  obtain ⟨hw1, hy⟩ := hw
  have hw2 : wfB (a, b, c, d, v, m) := hw1
  have hy2 : wfI .u64 y := hy
  simp only [L_clevislaw08BoundTidies, Check_eq, In_eq, heads_eq, Tidy_eq]
  by_cases hc : chkP (a, b, c, d, v, m)
  · have ht : chkT (a, b, c, d, v, m) := hc.2.2
    cases h : tidyB (a, b, c, d, v, m) with
    | none =>
      have := tidy_none hw2 ht h hy2
      simp [hc, this, W.not, W.pick, br, opt]
    | some e =>
      obtain ⟨h1, h2, h3⟩ := tidy_some hw2 ht h
      have h4 := h3 hy2
      by_cases hi : inP (a, b, c, d, v, m) y
      · simp [hc, hi, h4.2 hi, h2, W.not, W.pick, br, opt, W.eqB]
      · have hj : ¬inP e y := fun hj => hi (h4.1 hj)
        simp [hc, hi, hj, h2, W.not, W.pick, br, opt, W.eqB]
  · simp [hc, W.not, W.pick, br]
theorem boundTidies_law (x : PTs.D ps_clevislaw08BoundTidies) (hw : WfL ps_clevislaw08BoundTidies x) :
    ∃ (C : Cfg) (fl d : Nat), CfgOk C ∧ C.P = Try.prog ∧ call C fl d 3 (encL false ps_clevislaw08BoundTidies x) [] getL = some () :=
  E_clevislaw08BoundTidies ok_bound_Check ok_bound_Tidy ok_bound_In ok_clevislaw08heads x (tidies_pure x hw)
end Go.Proofs.Ytflkcceicgaipaa
