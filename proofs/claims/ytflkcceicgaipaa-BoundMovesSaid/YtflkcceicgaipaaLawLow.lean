import Derived.Test.YtflkcceicgaipaaLawF
import Derived.Test.YtflkcceicgaipaaEnwWords
set_option linter.unusedVariables false
set_option linter.unusedSimpArgs false
set_option maxRecDepth 100000
namespace Go.Proofs.Ytflkcceicgaipaa
open Go Go.Eng

abbrev M32 : BitVec 64 := 4294967295#64
theorem u32_bits (z : Int) : W.wrap .u32 z = U (B64 z &&& M32) := by
  have h1 : W.wrap .u32 z = z % 4294967296 := by simp [W.wrap, IntKind.wrap, IntKind.bits, IntKind.signed]
  have h2 : (B64 z &&& M32).toNat = (B64 z).toNat % 4294967296 := by
    rw [BitVec.toNat_and]
    exact Nat.and_two_pow_sub_one_eq_mod _ 32
  have h3 : ((B64 z).toNat : Int) = z % 18446744073709551616 := by
    simp only [B64, BitVec.toNat_ofInt]; omega
  rw [h1]; simp only [U]; rw [h2]; omega
noncomputable def wholeB : Bd := (0, 4294967295, 0, 4294967295, 0, 4294967295)
theorem Size4 {R : Type} (k : PTs.D qs_bound_Size → Option R) : F_bound_Size R (4 : Int) k = k wholeB := Eq.trans (by rfl) (Eq.refl _)
noncomputable def cutB' (b : Bd) : Bd := (0, 4294967295, 0, 4294967295, U (B64 b.2.2.2.2.1 &&& M32), U (B64 b.2.2.2.2.2 &&& M32))
noncomputable def lowC (p q : Int) (o : Option Bd) : Bd :=
  match o with
  | none => wholeB
  | some x => if p = 0 ∧ q = 4294967295 then wholeB else x
noncomputable def lowP (v : Int) : Int := U (B64 v &&& M32)
noncomputable def lowB (b : Bd) : Bd := if b.2.1 ≤ 4294967295 then b else lowC (lowP b.2.2.2.2.1) (lowP b.2.2.2.2.2) (tidyB (cutB' b))
theorem low_small {b : Bd} (h : b.2.1 ≤ 4294967295) : lowB b = b := if_pos h
theorem low_big {b : Bd} (h : ¬ b.2.1 ≤ 4294967295) : lowB b = lowC (lowP b.2.2.2.2.1) (lowP b.2.2.2.2.2) (tidyB (cutB' b)) := if_neg h
theorem lowC_cases (p q : Int) (o : Option Bd) : lowC p q o = wholeB ∨ ∃ x, o = some x ∧ lowC p q o = x := by
  cases o with
  | none => exact .inl rfl
  | some x =>
    simp only [lowC]
    split
    · exact .inl rfl
    · exact .inr ⟨x, rfl, rfl⟩
theorem whole_max : wholeB.2.1 = 4294967295 := by simp only [wholeB]
theorem low_tail {R : Type} (k : Bd → Option R) (o : Option Bd) (p q : Int) (x : Bd × Bool) (hx : x = opt o ((0, 0, 0, 0, 0, 0), false) fun c => (c, true)) :
    (br (W.pick x.2 (W.not (W.and2 true (W.and2 true (W.and2 true (W.and2 true (W.and2 (W.eq p 0) (W.and2 (W.eq q 4294967295) true))))))) false)
      (k (x.1.1, x.1.2.1, x.1.2.2.1, x.1.2.2.2.1, x.1.2.2.2.2.1, x.1.2.2.2.2.2)) (k wholeB)) = k (lowC p q o) := by
  cases o with
  | none => subst hx; rfl
  | some y =>
    have hy : x = (y, true) := hx
    subst hy
    simp only [lowC]
    by_cases hz : p = 0 ∧ q = 4294967295
    · rw [if_pos hz, W.eq_t.2 hz.1, W.eq_t.2 hz.2]; rfl
    · rw [if_neg hz]
      cases h1 : W.eq p 0 with
      | false => rfl
      | true =>
        cases h2 : W.eq q 4294967295 with
        | false => rfl
        | true => exact absurd ⟨W.eq_t.1 h1, W.eq_t.1 h2⟩ hz
theorem Low_s {R : Type} (a b c d v m : Int) (k : Bd → Option R) (h : b ≤ 4294967295) : F_bound_Low R (a, b, c, d, v, m) k = k (a, b, c, d, v, m) := by
  simp only [F_bound_Low, N_bound_Low, Size4, F_tnum_Low, N_tnum_Low, W.wrap_u64, u32_bits, B64_U, Tidy_eq, whole_max]
  have : W.le b 4294967295 = true := W.le_t.2 h
  rw [this]; rfl
theorem lowP_eq (v : Int) : U (B64 v &&& M32) = lowP v := by simp only [lowP]
theorem lowP_id (v : Int) : U (B64 (lowP v)) = lowP v := by simp only [lowP, B64_U]
theorem cut_eq (a b c d v m : Int) : (wholeB.1, 4294967295, wholeB.2.2.1, wholeB.2.2.2.1, lowP v, lowP m) = cutB' (a, b, c, d, v, m) := by simp only [wholeB, cutB', lowP]
theorem whole_v : wholeB.2.2.2.2.1 = 0 := by simp only [wholeB]
theorem whole_m : wholeB.2.2.2.2.2 = 4294967295 := by simp only [wholeB]
theorem whole_eta : (wholeB.1, 4294967295, wholeB.2.2.1, wholeB.2.2.2.1, 0, 4294967295) = wholeB := by simp only [wholeB]
theorem Low_b {R : Type} (a b c d v m : Int) (k : Bd → Option R) (h : W.le b 4294967295 = false) : F_bound_Low R (a, b, c, d, v, m) k = k (lowC (lowP v) (lowP m) (tidyB (cutB' (a, b, c, d, v, m)))) := by
  have e3 : ∀ z : Int, W.eq z z = true := fun z => W.eq_t.2 rfl
  simp only [F_bound_Low, N_bound_Low, Size4, F_tnum_Low, N_tnum_Low, W.wrap_u64, u32_bits, B64_U, lowP_eq, lowP_id, Tidy_eq, whole_max, h, br_f, e3, cut_eq a b c d v m, whole_v, whole_m, whole_eta]
  generalize hx : (opt (tidyB (cutB' (a, b, c, d, v, m))) ((0, 0, 0, 0, 0, 0), false) fun c => (c, true)) = x
  exact low_tail k _ _ _ x hx.symm
theorem Low_eq {R : Type} (x : Bd) (k : Bd → Option R) : F_bound_Low R x k = k (lowB x) := by
  obtain ⟨a, b, c, d, v, m⟩ := x
  cases h : W.le b 4294967295 with
  | true => rw [Low_s a b c d v m k (W.le_t.1 h), low_small (W.le_t.1 h)]
  | false => rw [Low_b a b c d v m k h, low_big (fun e => by rw [W.le_t.2 e] at h; cases h)]
theorem signs_umax {b : Bd} (h : wfB b) (he : b.1 ≤ b.2.1 ∧ b.2.2.1 ≤ b.2.2.2.1) : (signsB b).2.1 ≤ b.2.1 := by
  obtain ⟨a, b, c, d, v, m⟩ := b
  obtain ⟨h1, h2, h3, h4, h5, h6⟩ := h
  simp only [signsB]
  have r2 := u64_lo h2; have r4 := i64_lo h4
  split
  · simp only [W.min]; split <;> omega
  split
  · rename_i hc hb
    have w1 := wf_min h4 (wf_I (B64 b))
    simp only [U_of_i w1]
    simp only [W.min]
    rw [I_of_u h2] at hb ⊢
    simp only at *
    grind
  split
  · exact Int.le_refl _
  · exact Int.le_refl _
theorem round_umax {b c : Bd} (hw : wfB b) (h : roundB b = some c) : c.2.1 ≤ b.2.1 := by
  unfold roundB at h
  cases he : emptyB (bitsB b) with
  | true => rw [he] at h; cases h
  | false =>
    rw [he] at h
    simp only [cond_false] at h
    have h1 := signs_umax (wf_bits hw) (empty_f.1 he)
    have h2 : (bitsB b).2.1 ≤ b.2.1 := by
      simp only [bitsB, W.min]; split <;> omega
    generalize signsB (bitsB b) = d at h h1
    cases hb : ((meetT d.2.2.2.2.1 d.2.2.2.2.2 (rangeT d.1 d.2.1).1 (rangeT d.1 d.2.1).2).2 && !emptyB d) with
    | false => rw [hb] at h; cases h
    | true =>
      rw [hb] at h
      simp only [cond_true, Option.some.injEq] at h
      subst h
      exact Int.le_trans h1 h2
theorem tidy_umax {b c : Bd} (hw : wfB b) (hc : chkT b) (h : tidyB b = some c) : c.2.1 ≤ b.2.1 := by
  unfold tidyB at h
  cases h1 : roundB b with
  | none => rw [h1] at h; cases h
  | some e =>
    rw [h1] at h
    exact Int.le_trans (round_umax (round_some hw hc h1).1 h) (round_umax hw h1)
theorem low_in {b : Bd} (hw : wfB b) (hc : chkP b) {x : Int} (hx : wfI .u64 x) (h : inP b x) : inP (lowB b) (U (B64 x &&& M32)) ∧ (lowB b).2.1 ≤ 4294967295 := by
  have hm : U (B64 x &&& M32) = x % 4294967296 := by
    rw [← u32_bits]; simp [W.wrap, IntKind.wrap, IntKind.bits, IntKind.signed]
  by_cases h1 : b.2.1 ≤ 4294967295
  · rw [low_small h1]
    have : x % 4294967296 = x := by
      obtain ⟨⟨h2, h3⟩, _⟩ := h
      have := u64_lo hx; omega
    rw [hm, this]; exact ⟨h, h1⟩
  · rw [low_big h1]
    have hy : wfI .u64 (U (B64 x &&& M32)) := wf_U _
    have hI : I (B64 x &&& M32) = U (B64 x &&& M32) := by rw [I_eq, if_pos (by rw [hm]; omega)]
    have hr : 0 ≤ U (B64 x &&& M32) ∧ U (B64 x &&& M32) ≤ 4294967295 := by rw [hm]; omega
    have hwhole : inP wholeB (U (B64 x &&& M32)) := by
      refine ⟨hr, ?_, ?_⟩
      · simp only [B64_U, wholeB]; rw [hI]; exact hr
      · simp only [B64_U, wholeB]
        have : B64 x &&& M32 &&& ~~~(B64 4294967295) = 0#64 := by
          show B64 x &&& M32 &&& ~~~M32 = 0#64
          rw [BitVec.and_assoc]; simp
        rw [this]; rfl
    generalize hcut : cutB' b = c
    have w1 : wfB c := by
      subst hcut
      unfold cutB'
      exact ⟨by rfl, by rfl, by rfl, by rfl, wf_U _, wf_U _⟩
    have c1 : chkT c := by
      subst hcut
      unfold cutB'
      simp only [chkT, B64_U]
      rw [U_inj]
      have := chk_zero hc.2.2
      generalize B64 b.2.2.2.2.1 = p at this ⊢
      generalize B64 b.2.2.2.2.2 = q at this ⊢
      apply BitVec.eq_of_getLsbD_eq; intro i hi
      have h2 := congrArg (fun z => z.getLsbD i) this
      simp only [BitVec.getLsbD_and, BitVec.getLsbD_not, BitVec.getLsbD_zero, decide_eq_true hi, Bool.true_and] at h2 ⊢
      revert h2; cases p.getLsbD i <;> cases q.getLsbD i <;> cases M32.getLsbD i <;> simp
    have i1 : inP c (U (B64 x &&& M32)) := by
      subst hcut
      unfold cutB'
      refine ⟨hr, ?_, ?_⟩
      · simp only [B64_U]; rw [hI]; exact hr
      · simp only [B64_U]; rw [U_inj]
        have h5 := h.2.2
        rw [← h5, B64_U]
        generalize B64 x = p
        generalize B64 b.2.2.2.2.2 = q
        apply BitVec.eq_of_getLsbD_eq; intro i hi
        simp only [BitVec.getLsbD_and, BitVec.getLsbD_not, decide_eq_true hi, Bool.true_and]
        cases p.getLsbD i <;> cases q.getLsbD i <;> cases M32.getLsbD i <;> rfl
    have hmax : c.2.1 = 4294967295 := by subst hcut; rfl
    rcases lowC_cases (lowP b.2.2.2.2.1) (lowP b.2.2.2.2.2) (tidyB c) with e | ⟨y, e1, e2⟩
    · rw [e]; exact ⟨hwhole, Int.le_of_eq whole_max⟩
    · rw [e2]
      refine ⟨((tidy_some w1 c1 e1).2.2 hy).2 i1, ?_⟩
      have := tidy_umax w1 c1 e1
      rw [hmax] at this
      exact this
open Classical in
theorem lows_pure (x : PTs.D ps_clevislaw08BoundLows) (hw : WfL ps_clevislaw08BoundLows x) :
    L_clevislaw08BoundLows F_bound_Check F_bound_In F_clevislaw08heads F_bound_Low x = some () := by
  obtain ⟨⟨a, b, c, d, v, m⟩, y⟩ := x
  obtain ⟨hw1, hy⟩ := hw
  have hp : wfB (a, b, c, d, v, m) := hw1
  have hy2 : wfI .u64 y := hy
  have e1 : ∀ (z : Bd), (z.1, z.2.1, z.2.2.1, z.2.2.2.1, z.2.2.2.2.1, z.2.2.2.2.2) = z := fun z => rfl
  simp only [L_clevislaw08BoundLows, Check_eq, In_eq, heads_eq, Low_eq, W.wrap_u64, W.and_u64, B64_U, e1, show B64 4294967295 = M32 from rfl]
  generalize (a, b, c, d, v, m) = p at hp ⊢
  by_cases hc : chkP p <;> by_cases hi : inP p y
  · obtain ⟨h1, h2⟩ := low_in hp hc hy2 hi
    have h3 : W.le (lowB p).2.1 4294967295 = true := W.le_t.2 h2
    simp [hc, hi, h1, h3, W.not, W.pick, br]
  all_goals simp [hc, hi, W.not, W.pick, br]
theorem boundLows_law (x : PTs.D ps_clevislaw08BoundLows) (hw : WfL ps_clevislaw08BoundLows x) :
    ∃ (C : Cfg) (fl d : Nat), CfgOk C ∧ C.P = Try.prog ∧ call C fl d 8 (encL false ps_clevislaw08BoundLows x) [] getL = some () :=
  E_clevislaw08BoundLows ok_bound_Check ok_bound_In ok_clevislaw08heads ok_bound_Low x (lows_pure x hw)
end Go.Proofs.Ytflkcceicgaipaa
