import Derived.Test.YtbngpphpdabakaaLawF
set_option linter.unusedVariables false
set_option linter.unusedSimpArgs false
set_option maxHeartbeats 4000000
set_option maxRecDepth 100000
namespace Go.Proofs.Ytbngpphpdabakaa
open Go Go.Eng
open Classical
theorem heads4_eq {R : Type} (k : Bool → Option R) : F_clevislaw04heads R () k = k true := by kernel_rfl
theorem eqs (a : Int) : W.eq a a = true := W.eq_t.2 (Eq.refl a)
theorem eqbs (a : Bool) : W.eqB a a = true := W.eqB_t.2 (Eq.refl a)
theorem ptt : W.pick true true false = true := rfl
theorem len_ok {l : List In} (h : SzT (.slice (.prod (.int .i64) (.prod (.int .i64) (.prod (.int .i64) (.prod (.int .i64) (.prod (.int .i64) (.int .u64))))))) l) : l.length * 48 ≤ 140737488355328 ∧ l.length < 1000000000000000 := by
  have h0 : l.length * 48 ≤ 140737488351232 := h.1
  have h1 : l.length * 48 ≤ 140737488355328 := by omega
  exact ⟨h1, by omega⟩
theorem ins_wf {l : List In} (h : WfT (.slice (.prod (.int .i64) (.prod (.int .i64) (.prod (.int .i64) (.prod (.int .i64) (.prod (.int .i64) (.int .u64))))))) l) : InsWf l := by
  intro i
  rcases Nat.lt_or_ge i l.length with hi | hi
  · have := h.2 l[i] (List.getElem_mem hi)
    have e : l.getD i z6 = l[i] := by simp [List.getD_eq_getElem?_getD, List.getElem?_eq_getElem hi]
    rw [e]
    exact u64_lo this.2.2.2.2.2
  · have e : l.getD i z6 = z6 := by simp [List.getD_eq_getElem?_getD, List.getElem?_eq_none hi]
    rw [e]; unfold z6; exact ⟨by decide, by decide⟩
/-- A right program has nothing wrong at any place. -/
theorem chkF_ok {l : List In} : ∀ (m i : Nat), (chkF l m i).2 = 0 ↔ ∀ j, i ≤ j → j < i + m → ¬ badP l j
  | 0, i => by simp only [chkF]; constructor; intro _ j h1 h2; omega; intro _; trivial
  | m + 1, i => by
    simp only [chkF]
    by_cases h : badP l i
    · rw [if_pos h]
      constructor
      · intro h2; exact absurd (show (40 : Int) = 0 from h2) (by decide)
      · intro h2; exact absurd h (h2 i (by omega) (by omega))
    · rw [if_neg h, chkF_ok m (i + 1)]
      constructor
      · intro h2 j h3 h4
        rcases Nat.lt_or_ge i j with h5 | h5
        · exact h2 j h5 (by omega)
        · have : j = i := by omega
          subst this; exact h
      · intro h2 j h3 h4; exact h2 j (by omega) (by omega)
theorem chkF_zero {l : List In} : ∀ (m i : Nat), (∀ j, i ≤ j → j < i + m → ¬ badP l j) → chkF l m i = (0, 0)
  | 0, i, _ => rfl
  | m + 1, i, h => by
    simp only [chkF]
    rw [if_neg (h i (by omega) (by omega))]
    exact chkF_zero m (i + 1) fun j h1 h2 => h j (by omega) (by omega)
theorem chkF_at {l : List In} : ∀ (m i n : Nat), i ≤ n → n < i + m → (∀ j, i ≤ j → j < n → ¬ badP l j) → badP l n → chkF l m i = ((n : Int), 40)
  | 0, i, n, h1, h2, _, _ => by omega
  | m + 1, i, n, h1, h2, h3, h4 => by
    simp only [chkF]
    rcases Nat.lt_or_ge i n with h5 | h5
    · rw [if_neg (h3 i (by omega) h5)]
      exact chkF_at m (i + 1) n h5 (by omega) (fun j h6 h7 => h3 j (by omega) h7) h4
    · have : n = i := by omega
      subst this; rw [if_pos h4]
theorem chkL_ok {l : List In} : (chkL l).2 = 0 ↔ l.length ≤ 4096 ∧ 0 < l.length ∧ ∀ j, j < l.length → ¬ badP l j := by
  unfold chkL
  by_cases h1 : 4096 < l.length
  · rw [if_pos h1]
    constructor
    · intro h; exact absurd h (by decide)
    · intro h; omega
  rw [if_neg h1]
  by_cases h2 : l.length = 0
  · rw [if_pos h2]
    constructor
    · intro h; exact absurd h (by decide)
    · intro h; omega
  rw [if_neg h2, chkF_ok]
  constructor
  · intro h; exact ⟨by omega, by omega, fun j hj => h j (by omega) (by omega)⟩
  · intro h j _ h4; exact h.2.2 j (by omega)
theorem LegalOps_pure (x : PTs.D ps_clevislaw04LegalOps) (hw : WfL ps_clevislaw04LegalOps x) (hz : SzL ps_clevislaw04LegalOps x) :
    L_clevislaw04LegalOps F_legal_Alu F_clevisref04Alu F_legal_Jump F_clevisref04Jump F_legal_Size F_clevisref04Size F_clevislaw04heads x = some () := by
  have e0 : ∀ a : Int × Bool × Bool, W.pick (W.pick (W.eq a.1 a.1) (W.eqB a.2.1 a.2.1) false) (W.eqB a.2.2 a.2.2) false = true := by
    intro a; rw [eqs, eqbs, eqbs]; rfl
  simp only [L_clevislaw04LegalOps]
  rw [lalu_eq, ralu4_eq, ljmp_eq, rjmp4_eq, lsize_eq, rsize4_eq, heads4_eq]
  rw [eqs, eqbs, eqbs, eqs, eqbs, eqbs, eqs]; rfl
theorem LegalOps_law (x : PTs.D ps_clevislaw04LegalOps) (hw : WfL ps_clevislaw04LegalOps x) (hz : SzL ps_clevislaw04LegalOps x) :
    ∃ (C : Cfg) (fl d : Nat), CfgOk C ∧ C.P = Try.prog ∧ call C fl d 3 (encL false ps_clevislaw04LegalOps x) [] getL = some () :=
  E_clevislaw04LegalOps ok_legal_Alu ok_clevisref04Alu ok_legal_Jump ok_clevisref04Jump ok_legal_Size ok_clevisref04Size ok_clevislaw04heads x (LegalOps_pure x hw hz)
theorem LegalChecks_pure (x : PTs.D ps_clevislaw04LegalChecks) (hw : WfL ps_clevislaw04LegalChecks x) (hz : SzL ps_clevislaw04LegalChecks x) :
    L_clevislaw04LegalChecks F_legal_Check F_clevislaw04heads F_clevisref04Check x = some () := by
  have hl := len_ok hz
  have hi := ins_wf hw
  simp only [L_clevislaw04LegalChecks]
  rw [lchk_eq _ hl.2, rchk_eq _ hl.2 hi, heads4_eq, eqs, eqs]; rfl
theorem LegalChecks_law (x : PTs.D ps_clevislaw04LegalChecks) (hw : WfL ps_clevislaw04LegalChecks x) (hz : SzL ps_clevislaw04LegalChecks x) :
    ∃ (C : Cfg) (fl d : Nat), CfgOk C ∧ C.P = Try.prog ∧ call C fl d 4 (encL false ps_clevislaw04LegalChecks x) [] getL = some () :=
  E_clevislaw04LegalChecks ok_legal_Check ok_clevislaw04heads ok_clevisref04Check x (LegalChecks_pure x hw hz)
theorem LegalIns_pure (x : PTs.D ps_clevislaw04LegalIns) (hw : WfL ps_clevislaw04LegalIns x) (hz : SzL ps_clevislaw04LegalIns x) :
    L_clevislaw04LegalIns F_legal_Ins F_legal_Succ F_clevisref04Ints F_clevislaw04heads F_clevisref04Ins F_clevisref04Succ x = some () := by
  obtain ⟨(l : List In), (i : Int), (a : Int), (b : Int), (c : Int), (e : Int), (f : Int), (g : Int)⟩ := x
  have hl := len_ok hz.1
  have hg : 0 ≤ g ∧ g < 18446744073709551616 := u64_lo hw.2.2.2.2.2.2.2
  have hes : decide (insR (a, b, c, e, f, g)) = decide (insL (a, b, c, e, f, g)) := by rw [decide_eq_decide]; exact (ins_same hg).symm
  have hs := suc_len l i
  simp only [L_clevislaw04LegalIns]
  rw [lins_eq, rins4_eq _ hg.1, lsuc_eq (l, i) hl.2, rsuc_eq (l, i) hl.2, ints_eq _ _ (by show (sucP l i).length < _; omega) (by show (sucP l i).length < _; omega), heads4_eq, hes, eqbs, decide_eq_true (Eq.refl (sucP l i))]; rfl
theorem LegalIns_law (x : PTs.D ps_clevislaw04LegalIns) (hw : WfL ps_clevislaw04LegalIns x) (hz : SzL ps_clevislaw04LegalIns x) :
    ∃ (C : Cfg) (fl d : Nat), CfgOk C ∧ C.P = Try.prog ∧ call C fl d 5 (encL false ps_clevislaw04LegalIns x) [] getL = some () :=
  E_clevislaw04LegalIns ok_legal_Ins ok_legal_Succ ok_clevisref04Ints ok_clevislaw04heads ok_clevisref04Ins ok_clevisref04Succ x (LegalIns_pure x hw hz)
end Go.Proofs.Ytbngpphpdabakaa
