import Derived.Test.YtkgoajomlglkcaaLawF
set_option linter.unusedVariables false
set_option linter.unusedSimpArgs false
set_option maxHeartbeats 4000000
set_option maxRecDepth 100000
namespace Go.Proofs.Ytkgoajomlglkcaa
open Go Go.Eng
open Classical
theorem heads5_eq {R : Type} (k : Bool → Option R) : F_clevislaw05heads R () k = k true := by kernel_rfl
theorem eqs5 (a : Int) : W.eq a a = true := W.eq_t.2 (Eq.refl a)
theorem eqbs5 (a : Bool) : W.eqB a a = true := W.eqB_t.2 (Eq.refl a)
theorem eqS5 (a : ByteArray) : W.eqS a a = true := by unfold W.eqS; simp
theorem u64s_of {l : List Int} (h : WfT (.slice (.int .u64)) l) : U64s l := by
  intro i
  rcases Nat.lt_or_ge i l.length with hi | hi
  · have := h.2 l[i] (List.getElem_mem hi)
    have e : l.getD i 0 = l[i] := by simp [List.getD_eq_getElem?_getD, List.getElem?_eq_getElem hi]
    rw [e]; exact u64_lo this
  · have e : l.getD i 0 = 0 := by simp [List.getD_eq_getElem?_getD, List.getElem?_eq_none hi]
    rw [e]; exact ⟨by decide, by decide⟩
theorem len64 {l : List Int} (h : SzT (.slice (.int .u64)) l) : l.length * 8 ≤ 140737488351232 := h.1
theorem tbl_len (n : Int) : (tblA n).length ≤ 3 := by
  unfold tblA
  split; · simp
  split; · simp
  split; · simp
  split <;> simp
theorem HelperTable_pure (x : PTs.D ps_clevislaw05HelperTable) (hw : WfL ps_clevislaw05HelperTable x) (hz : SzL ps_clevislaw05HelperTable x) :
    L_clevislaw05HelperTable F_helper_Table F_helper_Spans F_clevislaw05heads F_clevisref05Table F_clevisref05Spans F_clevisref05Kinds x = some () := by
  obtain ⟨(n : Int), (args : List Int)⟩ := x
  have ha := u64s_of hw.2
  have hl : args.length * 8 ≤ 140737488351232 := len64 hz.2
  have ht := tbl_len n
  simp only [L_clevislaw05HelperTable]
  rw [table_eq, rtable_eq, spans_eq n args ha (by omega), rspans_eq n args ha, eqS5, br_t]
  show F_clevisref05Kinds Unit (tblA n, tblA n) _ = _
  rw [kinds_eq _ _ (by omega) (by omega), decide_eq_true (Eq.refl (tblA n)), heads5_eq]
  simp only [eqs5, eqbs5]
  rfl
theorem HelperTable_law (x : PTs.D ps_clevislaw05HelperTable) (hw : WfL ps_clevislaw05HelperTable x) (hz : SzL ps_clevislaw05HelperTable x) :
    ∃ (C : Cfg) (fl d : Nat), CfgOk C ∧ C.P = Try.prog ∧ call C fl d 4 (encL false ps_clevislaw05HelperTable x) [] getL = some () :=
  E_clevislaw05HelperTable ok_helper_Table ok_helper_Spans ok_clevislaw05heads ok_clevisref05Table ok_clevisref05Spans ok_clevisref05Kinds x (HelperTable_pure x hw hz)
end Go.Proofs.Ytkgoajomlglkcaa
