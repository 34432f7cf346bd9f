import Derived.Test.YtkgoajomlglkcaaLawN
set_option linter.unusedVariables false
set_option linter.unusedSimpArgs false
set_option maxHeartbeats 4000000
set_option maxRecDepth 100000
namespace Go.Proofs.Ytkgoajomlglkcaa
open Go Go.Eng
open Classical
theorem tl_not4 {l : La} {m : Me} {n : Int} {args : List Int} {a : Int} (h : n ≠ 4) : (tlP l m n args a).2.1 = m ∧ (tlP l m n args a).2.2.1.1 = n := by
  unfold tlP
  split
  · exact ⟨rfl, rfl⟩
  split <;> exact ⟨rfl, rfl⟩
theorem HelperKeeps_pure (x : PTs.D ps_clevislaw05HelperKeeps) (hw : WfL ps_clevislaw05HelperKeeps x) (hz : SzL ps_clevislaw05HelperKeeps x) :
    L_clevislaw05HelperKeeps F_helper_Spans F_helper_Do F_clevislaw05heads F_clevisref02Same F_clevisref02Load x = some () := by
  obtain ⟨⟨⟨(c : Int), (cw : Bool)⟩, (ms : List Ar)⟩, (m : Me), (n : Int), (args : List Int), (ans : List Int), (t : Int)⟩ := x
  have hs : meSz m := meSz_of hz.2.1
  have hm := meSz_le hs
  have ho : meOk m := meOk_of hw.2.1
  have ha : U64s args := u64s_of hw.2.2.2.1
  have hl : args.length * 8 ≤ 140737488351232 := len64 hz.2.2.2.1
  have ht : p64 t := u64_lo hw.2.2.2.2.2
  obtain ⟨d1, d2⟩ := do_me ((c, cw), ms) m n args ans hs ho ha
  simp only [L_clevislaw05HelperKeeps]
  rw [do_eq _ m n args ans hm hs ha hl]
  by_cases h : (doP ((c, cw), ms) m n args ans).2.2.2 = 0
  · obtain ⟨k1, k2, k3, k4, k5, k6, k7⟩ := do_ok h
    have hw0 : W.ne (doP ((c, cw), ms) m n args ans).2.2.2 0 = false := by rw [h]; decide
    rw [hw0, br_f, spans_eq n args ha (by omega), rload_eq _ m t 1 hm ho ht, rload_eq _ _ t 1 (meSz_le d1) d2 ht]
    by_cases h4 : n = 4
    · subst h4
      have q3 := k3 (.inr rfl)
      have q5 := k5 rfl
      have e0 : ((fillB (ans.getD 0 0) (args.getD 1 0)).length : Int) = args.getD 1 0 := by rw [fillB_len]; omega
      have em : (doP ((c, cw), ms) m 4 args ans).2.1 = putRow m (args.getD 0 0) (fillB (ans.getD 0 0) (args.getD 1 0)) := by
        rw [k7]
        show (fillP ((c, cw), ms) m (args.getD 0 0) (fillB (ans.getD 0 0) (args.getD 1 0))).1 = _
        unfold fillP
        rw [if_neg (fun d => d k6), e0, if_neg (fun d => d q5)]
      have et : (doP ((c, cw), ms) m 4 args ans).2.2.1.1 = 4 := by rw [k7]; rfl
      have ep : mayP ((c, cw), ms) (putRow m (args.getD 0 0) (fillB (ans.getD 0 0) (args.getD 1 0))) := may_put k6 (ha 0).1 (by rw [e0]; exact q5)
      have es : spanP 4 args = ((0, 0), (args.getD 0 0, szP (args.getD 1 0)), true) := by
        unfold spanP
        rw [if_neg (by rintro (d | d); exact d k1; omega), if_neg (by decide), if_pos rfl]
      have c4 : W.eq 4 4 = true := by decide
      rw [em, et, es, (load_err (t := t) k6 ep).1, eqs5, c4, szP_small (by omega)]
      have key : W.pick (W.eq (loadP ((c, cw), ms) m t 1).1 (loadP ((c, cw), ms) (putRow m (args.getD 0 0) (fillB (ans.getD 0 0) (args.getD 1 0))) t 1).1) true
          (W.pick (W.ge t (args.getD 0 0)) (W.lt (W.wrap IntKind.u64 (W.sub t (args.getD 0 0))) (W.wrap IntKind.u64 (args.getD 1 0))) false) = true := by
        have a0 := ha 0
        by_cases hc : args.getD 0 0 ≤ t ∧ t - args.getD 0 0 < args.getD 1 0
        · rw [W.picko_t]; right
          unfold p64 at a0 ht
          rw [W.pickf_t, W.ge_t, W.lt_t, W.sub_eq, W.wu64_id (by omega) (by omega), W.wu64_id (by omega) (by omega)]; omega
        · rw [W.picko_t]; left
          have := bytes_other k6 a0.1 ht.1 (b := fillB (ans.getD 0 0) (args.getD 1 0)) (by rw [e0]; exact q5) (by rw [e0]; exact hc)
          unfold loadP
          rw [this]; exact W.eq_self _
      simp only [key, c4, pick_tl, and2_tl, not_tt, br_t, br_f, heads5_eq]
    · obtain ⟨e1, e2⟩ := tl_not4 (l := ((c, cw), ms)) (m := m) (args := args) (a := ans.getD 0 0) h4
      rw [k7, e1, e2, sameM_eq m m hs hs ho ho, decide_eq_true (Eq.refl m), eqs5, eqs5, eqs5]
      have c4 : W.eq n 4 = false := by rw [Bool.eq_false_iff]; intro d; exact h4 (W.eq_t.1 d)
      simp only [c4, pick_tl, pick_fl, and2_tl, not_ff, br_t, br_f, heads5_eq]
  · have g : W.ne (doP ((c, cw), ms) m n args ans).2.2.2 0 = true := by rw [W.ne_d]; exact decide_eq_true h
    obtain ⟨e1, e2⟩ := do_err h
    rw [g, br_t, e1, e2, heads5_eq]
    rfl
theorem HelperKeeps_law (x : PTs.D ps_clevislaw05HelperKeeps) (hw : WfL ps_clevislaw05HelperKeeps x) (hz : SzL ps_clevislaw05HelperKeeps x) :
    ∃ (C : Cfg) (fl d : Nat), CfgOk C ∧ C.P = Try.prog ∧ call C fl d 6 (encL false ps_clevislaw05HelperKeeps x) [] getL = some () :=
  E_clevislaw05HelperKeeps ok_helper_Spans ok_helper_Do ok_clevislaw05heads ok_clevisref02Same ok_clevisref02Load x (HelperKeeps_pure x hw hz)
end Go.Proofs.Ytkgoajomlglkcaa
