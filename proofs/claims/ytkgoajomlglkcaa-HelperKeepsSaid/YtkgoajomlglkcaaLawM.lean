import Derived.Test.YtkgoajomlglkcaaLawL
set_option linter.unusedVariables false
set_option linter.unusedSimpArgs false
set_option maxHeartbeats 4000000
set_option maxRecDepth 100000
namespace Go.Proofs.Ytkgoajomlglkcaa
open Go Go.Eng
open Classical
theorem do_free {l : La} {m : Me} {n : Int} {args ans : List Int} (h : n = 1 ∨ n = 2 ∨ n = 5) (ha : (tblA n).length ≤ args.length) (hm : mayP l m) : doP l m n args ans = tlP l m n args (ans.getD 0 0) := by
  unfold doP
  rw [if_neg, if_neg, if_neg, if_neg]
  · exact fun d => d hm
  · rintro (⟨d, _⟩ | ⟨d, _⟩) <;> omega
  · rintro ⟨d, _⟩; omega
  · rintro (d | d)
    · apply d; unfold okH; omega
    · omega
theorem HelperMixes_pure (x : PTs.D ps_clevislaw05HelperMixes) (hw : WfL ps_clevislaw05HelperMixes x) (hz : SzL ps_clevislaw05HelperMixes x) :
    L_clevislaw05HelperMixes F_clevisref02Fresh F_helper_Do F_clevislaw05heads x = some () := by
  obtain ⟨(a : Int), (b : Int), (c : Int), (w : Int)⟩ := x
  have ha : p64 a := u64_lo hw.1
  have hb : p64 b := u64_lo hw.2.1
  have hc : p64 c := u64_lo hw.2.2.1
  have hw : p64 w := u64_lo hw.2.2.2
  have hlay : layOK ((0, false), []) := ⟨⟨by decide, by decide⟩, by simp, fun i hi => absurd hi (by simp)⟩
  have hmay := may_fresh hlay
  have hs := meSz_fresh ((0, false), [])
  have hm := meSz_le hs
  simp only [L_clevislaw05HelperMixes]
  rw [rfreshM_eq]
  show F_helper_Do Unit (((0, false), []), freshP ((0, false), []), 5, [a, b, c], [w, 1]) _ = _
  rw [do_eq _ _ 5 [a, b, c] [w, 1] hm hs (u64s_3 ha hb hc) (by simp)]
  show F_helper_Do Unit (((0, false), []), freshP ((0, false), []), 1, [], [w]) _ = _
  rw [do_eq _ _ 1 [] [w] hm hs u64s_0 (by simp)]
  show F_helper_Do Unit (((0, false), []), freshP ((0, false), []), 2, [a], []) _ = _
  rw [do_eq _ _ 2 [a] [] hm hs (u64s_1 ha) (by simp)]
  have t5 : doP ((0, false), []) (freshP ((0, false), [])) 5 [a, b, c] [w, 1] = ((a + 3 * b + 5 * c + w) % 18446744073709551616, freshP ((0, false), []), (5, [a, b, c], []), 0) := do_free (.inr (.inr rfl)) (Nat.le_refl 3) hmay
  have t1 : doP ((0, false), []) (freshP ((0, false), [])) 1 [] [w] = (w, freshP ((0, false), []), (1, [], []), 0) := do_free (.inl rfl) (Nat.le_refl 0) hmay
  have t2 : doP ((0, false), []) (freshP ((0, false), [])) 2 [a] [] = (0, freshP ((0, false), []), (2, [a], []), 0) := do_free (.inr (.inl rfl)) (Nat.le_refl 1) hmay
  rw [t5, t1, t2]
  have g : W.wrap IntKind.u64 (W.add (W.wrap IntKind.u64 (W.add (W.wrap IntKind.u64 (W.add a (W.wrap IntKind.u64 (W.mul 3 b)))) (W.wrap IntKind.u64 (W.mul 5 c)))) w) = (a + 3 * b + 5 * c + w) % 18446744073709551616 := by
    simp only [W.add_eq, W.mul_eq, W.wu64]; omega
  have g0 : W.eq (W.ofNat (W.len [a, b, c])) 3 = true := W.eq_t.2 rfl
  have g1 : W.eq (W.ofNat (W.len ([] : List Int))) 0 = true := W.eq_t.2 rfl
  have g2 : W.eq (W.ofNat (W.len [a])) 1 = true := W.eq_t.2 rfl
  have g3 : W.lt 2 (W.ofNat (W.len [a, b, c])) = true := rfl
  have g4 : W.lt 0 (W.ofNat (W.len [a])) = true := rfl
  have g5 : W.eq (W.get [a, b, c] 2 0) c = true := W.eq_t.2 rfl
  have g6 : W.eq (W.get [a] 0 0) a = true := W.eq_t.2 rfl
  have g9 : W.eq 0 0 = true := by decide
  simp only [g, g0, g1, g2, g3, g4, g5, g6, g9, eqs5, pick_tl, and2_tl, or2_tr, br_t]
  rw [heads5_eq, br_t]
theorem HelperMixes_law (x : PTs.D ps_clevislaw05HelperMixes) (hw : WfL ps_clevislaw05HelperMixes x) (hz : SzL ps_clevislaw05HelperMixes x) :
    ∃ (C : Cfg) (fl d : Nat), CfgOk C ∧ C.P = Try.prog ∧ call C fl d 3 (encL false ps_clevislaw05HelperMixes x) [] getL = some () :=
  E_clevislaw05HelperMixes ok_clevisref02Fresh ok_helper_Do ok_clevislaw05heads x (HelperMixes_pure x hw hz)
end Go.Proofs.Ytkgoajomlglkcaa
