import Derived.Test.YtkgoajomlglkcaaLawM
set_option linter.unusedVariables false
set_option linter.unusedSimpArgs false
set_option maxHeartbeats 4000000
set_option maxRecDepth 100000
namespace Go.Proofs.Ytkgoajomlglkcaa
open Go Go.Eng
open Classical
variable {R : Type}
theorem fillB_ok (a n : Int) : BtOk (fillB a n) := by
  intro i
  unfold bt fillB
  rw [List.getD_eq_getElem?_getD, List.getElem?_map]
  cases (List.range n.toNat)[i]? with
  | none => exact ⟨by simp, by simp⟩
  | some j => simp only [Option.map_some, Option.getD_some]; unfold by8; omega
theorem fillB_len (a n : Int) : (fillB a n).length = n.toNat := by unfold fillB; simp
theorem do_me (l : La) (m : Me) (n : Int) (args ans : List Int) (hs : meSz m) (ho : meOk m) (ha : U64s args) : meSz (doP l m n args ans).2.1 ∧ meOk (doP l m n args ans).2.1 := by
  rw [doP_fit]
  split
  · exact ⟨meSz_nil, meOk_nil⟩
  split
  · exact ⟨meSz_nil, meOk_nil⟩
  unfold tlP
  split
  · exact ⟨hs, ho⟩
  split
  · exact ⟨meSz_fill (ha 0).1, meOk_fill (ha 0).1 ho (fillB_ok _ _)⟩
  split <;> exact ⟨hs, ho⟩
theorem do_told (l : La) (m : Me) (n : Int) (args ans : List Int) (hs : meSz m) (ho : meOk m) (hl : args.length * 8 ≤ 140737488351232) :
    BtOk (doP l m n args ans).2.2.1.2.2 ∧ (doP l m n args ans).2.2.1.2.2.length ≤ 140737488355328 ∧ (doP l m n args ans).2.2.1.2.1.length ≤ args.length := by
  rw [doP_fit]
  split
  · exact ⟨btOk_nil, by simp [E50], by simp [E50]⟩
  split
  · exact ⟨btOk_nil, by simp [E2], by simp [E2]⟩
  unfold tlP
  split
  · refine ⟨bytesP_ok ho, ?_, by simp; omega⟩
    unfold bytesP
    split
    · simp
    split
    · simp
    · have h3 : (rowOf m (args.getD 0 0)).length ≤ 140737488351232 := hs.2 _
      simp only [List.length_take, List.length_drop]; omega
  split
  · exact ⟨btOk_nil, by simp, by simp; omega⟩
  split
  · exact ⟨btOk_nil, by simp, by simp; omega⟩
  · exact ⟨btOk_nil, by simp, by simp; omega⟩
theorem args_loop {t : Int × List Int × List Int} {fl o0 : Nat} {k : Bool → Option R} (ht : t.2.1.length ≤ 140737488355328) : ∀ (j e i : Nat), i + j = t.2.1.length →
    P_clevisref05Same_9_0 F_clevisref01Same fl o0 (e + j + 1) R [t] [t] 0 (i : Int) k = P_clevisref05Same_4_0 F_clevisref01Same fl o0 R [t] [t] 1 k
  | 0, e, i, h => by
    have : i = t.2.1.length := by omega
    rw [P_clevisref05Same_9_0_s]
    show br true (br (W.lt (i : Int) (W.ofNat (W.len t.2.1))) _ _) _ = _
    rw [W.lt_d, W.ofNat_eq, W.len_eq, br_t, this, decide_eq_false (by omega), br_f]
    rfl
  | j + 1, e, i, h => by
    have ih := args_loop (fl := fl) (o0 := o0) (k := k) ht j e (i + 1) (by omega)
    rw [show e + (j + 1) + 1 = (e + j + 1) + 1 from by omega, P_clevisref05Same_9_0_s]
    show br true (br (W.lt (i : Int) (W.ofNat (W.len t.2.1))) (br true (br (W.and2 (W.le 0 (i : Int)) (W.lt (i : Int) (W.ofNat (W.len t.2.1)))) (br true (br (W.and2 (W.le 0 (i : Int)) (W.lt (i : Int) (W.ofNat (W.len t.2.1)))) (br (W.ne (W.get t.2.1 (W.toNat (i : Int)) 0) (W.get t.2.1 (W.toNat (i : Int)) 0)) _ _) _) _) _) _) _) _ = _
    have c0 : W.lt (i : Int) (W.ofNat (W.len t.2.1)) = true := by rw [W.lt_d, W.ofNat_eq, W.len_eq]; exact decide_eq_true (by omega)
    have c1 : W.le 0 (i : Int) = true := by rw [W.le_d]; exact decide_eq_true (by omega)
    rw [c0, c1, W.ne_self, W.succ64 (by omega), ih]
    rfl
theorem same5_eq (t : Int × List Int × List Int) (h1 : BtOk t.2.2) (h2 : t.2.2.length ≤ 140737488355328) (h3 : t.2.1.length * 8 ≤ 140737488351232) (k : Bool → Option R) : F_clevisref05Same R ([t], [t]) k = k true := by
  have e : (W.big : Nat) = (W.big - 1) + 1 := by decide
  simp only [F_clevisref05Same, N_clevisref05Same]
  show P_clevisref05Same_4_0 F_clevisref01Same W.big W.big R [t] [t] 0 k = _
  rw [show P_clevisref05Same_4_0 F_clevisref01Same W.big W.big R [t] [t] 0 k = P_clevisref05Same_4_0 F_clevisref01Same W.big ((W.big - 1) + 1) R [t] [t] 0 k from by rw [← e], P_clevisref05Same_4_0_s]
  have n1 : W.ne t.1 t.1 = false := W.ne_self _
  have n2 : W.ne (W.ofNat (W.len t.2.1)) (W.ofNat (W.len t.2.1)) = false := W.ne_self _
  have n3 : W.lt 0 (W.ofNat (W.len [t])) = true := rfl
  have n4 : W.le 0 0 = true := by decide
  have n5 : W.get [t] (W.toNat 0) (0, [], []) = t := rfl
  simp only [n5, n1, n2, n3, n4, pick_fl, not_ff, not_tt, and2_tl, or2_tr, br_t, br_f]
  rw [same_eq _ _ h2 h2 h1 h1, decide_eq_true (Eq.refl t.2.2), not_tt, br_f]
  have := args_loop (R := R) (t := t) (fl := W.big) (o0 := W.big - 1) (k := k) (by omega) t.2.1.length (W.big - t.2.1.length - 1) 0 (by omega)
  rw [show W.big - t.2.1.length - 1 + t.2.1.length + 1 = W.big from by unfold W.big; omega] at this
  refine this.trans ?_
  rw [show W.big - 1 = (W.big - 2) + 1 from by decide, P_clevisref05Same_4_0_s]
  rfl
theorem HelperDoes_pure (x : PTs.D ps_clevislaw05HelperDoes) (hw : WfL ps_clevislaw05HelperDoes x) (hz : SzL ps_clevislaw05HelperDoes x) :
    L_clevislaw05HelperDoes F_helper_Do F_clevislaw05heads F_clevisref02Copy F_clevisref05Do F_clevisref02Same F_clevisref05Same x = some () := by
  obtain ⟨⟨⟨(c : Int), (cw : Bool)⟩, (ms : List Ar)⟩, (m : Me), (n : Int), (args : List Int), (ans : List Int)⟩ := x
  have hs : meSz m := meSz_of hz.2.1
  have hm := meSz_le hs
  have ho : meOk m := meOk_of hw.2.1
  have ha : U64s args := u64s_of hw.2.2.2.1
  have hl : args.length * 8 ≤ 140737488351232 := len64 hz.2.2.2.1
  obtain ⟨d1, d2⟩ := do_me ((c, cw), ms) m n args ans hs ho ha
  obtain ⟨e1, e2, e3⟩ := do_told ((c, cw), ms) m n args ans hs ho hl
  simp only [L_clevislaw05HelperDoes]
  rw [copy_eq m hs, do_eq _ m n args ans hm hs ha hl, rdo_eq _ m n args ans hm hs ha hl, eqs5, br_t, sameM_eq _ _ d1 d1 d2 d2, decide_eq_true (Eq.refl _), pick_tl, br_t]
  show F_clevisref05Same Unit ([(doP ((c, cw), ms) m n args ans).2.2.1], [(doP ((c, cw), ms) m n args ans).2.2.1]) _ = _
  rw [same5_eq _ e1 e2 (by omega), eqs5, pick_tl, pick_tl, br_t, sameM_eq m m hs hs ho ho, decide_eq_true (Eq.refl m), pick_tl, br_t, heads5_eq, pick_tl, br_t]
theorem HelperDoes_law (x : PTs.D ps_clevislaw05HelperDoes) (hw : WfL ps_clevislaw05HelperDoes x) (hz : SzL ps_clevislaw05HelperDoes x) :
    ∃ (C : Cfg) (fl d : Nat), CfgOk C ∧ C.P = Try.prog ∧ call C fl d 5 (encL false ps_clevislaw05HelperDoes x) [] getL = some () :=
  E_clevislaw05HelperDoes ok_helper_Do ok_clevislaw05heads ok_clevisref02Copy ok_clevisref05Do ok_clevisref02Same ok_clevisref05Same x (HelperDoes_pure x hw hz)
end Go.Proofs.Ytkgoajomlglkcaa
