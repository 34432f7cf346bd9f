import Derived.Test.YtbngpphpdabakaaLawG
set_option linter.unusedVariables false
set_option linter.unusedSimpArgs false
set_option maxHeartbeats 4000000
set_option maxRecDepth 100000
namespace Go.Proofs.Ytbngpphpdabakaa
open Go Go.Eng
open Classical
theorem z6_get (l : List In) (i : Nat) : l.getD i ((0 : Int), (0 : Int), (0 : Int), (0 : Int), (0 : Int), (0 : Int)) = l.getD i z6 := by unfold z6; rfl
theorem suc_nil {l : List In} {i : Nat} (hi : i < l.length) (hh : ¬ holeP l i) (h : sucP l i = []) : (l.getD i z6).1 = 149 := by
  unfold sucP at h
  rw [if_neg (by intro h2; rcases h2 with h2 | h2 | h2; omega; omega; exact hh h2)] at h
  rw [Int.toNat_natCast] at h
  refine Classical.byContradiction fun hn => ?_
  rw [if_neg hn] at h
  split at h; · simp at h
  split at h; · simp at h
  split at h <;> simp at h
theorem stay_step {l : List In} (hb : ∀ j, j < l.length → ¬ badP l j) {i : Nat} (hi : i < l.length) (hh : ¬ holeP l i) {s : Int} (hs : s ∈ sucP l i) : ∃ j : Nat, s = (j : Int) ∧ j < l.length ∧ ¬ holeP l j := by
  have h1 : ¬ tgtP l s := fun ht => hb i hi ⟨hh, .inr ⟨s, hs, ht⟩⟩
  have h2 : 0 ≤ s ∧ s < l.length := by
    constructor
    · exact Int.not_lt.1 fun h => h1 (.inl h)
    · exact Int.not_le.1 fun h => h1 (.inr (.inl h))
  refine ⟨s.toNat, by omega, by omega, ?_⟩
  rw [show ((s.toNat : Nat) : Int) = s by omega]
  exact fun h => h1 (.inr (.inr h))
theorem stay_loop {l : List In} {c : List Bool} (hl : l.length < 1000000000000000) (hc : c.length < 9000000000000000000) (hb : ∀ j, j < l.length → ¬ badP l j) : ∀ (m t e i : Nat), t + m = 1000 → i < l.length → ¬ holeP l i →
    P_clevislaw04LegalStays_6_0 F_legal_Succ F_legal_Check F_clevislaw04heads F_clevisref03Hole W.big (e + m + 1) Unit l c (i : Int) (t : Int) = some ()
  | m, t, e, i, hm, hi, hh => by
    rw [P_clevislaw04LegalStays_6_0_s]
    simp only [W.ofNat_eq, W.len_eq, W.get_eq, W.toNat_nat]
    rw [heads4_eq, heads4_eq, W.lt_d, W.lt_d]
    by_cases hx : t < c.length ∧ t < 1000
    rotate_left
    · have : W.pick (decide ((t : Int) < (c.length : Int))) (decide ((t : Int) < 1000)) false = false := by
        rw [W.pick_eq]
        by_cases h1 : t < c.length
        · rw [decide_eq_true (show (t : Int) < (c.length : Int) by omega), cond_true, decide_eq_false (by omega)]
        · rw [decide_eq_false (show ¬ (t : Int) < (c.length : Int) by omega), cond_false]
      rw [this, br_f]; rfl
    obtain ⟨m', rfl⟩ : ∃ m', m = m' + 1 := ⟨m - 1, by omega⟩
    rw [decide_eq_true (show (t : Int) < (c.length : Int) by omega), decide_eq_true (show (t : Int) < 1000 by omega), ptt, br_t, tgt_test, decide_eq_false (show ¬ ((i : Int) < 0 ∨ (l.length : Int) ≤ (i : Int)) by omega)]
    rw [W.not_eq, Bool.not_false, br_t, rhole_eq (l, (i : Int)) hl, decide_eq_false hh, W.pick_eq, cond_false, br_f]
    rw [lsuc_eq (l, (i : Int)) hl]
    show br (W.eq ((sucP l (i : Int)).length : Int) 0) _ _ = _
    have hs2 := suc_len l (i : Int)
    have hmem := fun (s : Int) (h : s ∈ sucP l (i : Int)) => stay_step hb hi hh h
    have hnil := fun h => suc_nil hi hh h
    generalize sucP l (i : Int) = s at hs2 hmem hnil
    by_cases hz : s = []
    · have h149 := hnil hz
      subst hz
      show br (W.and2 (W.le 0 (i : Int)) (W.lt (i : Int) (l.length : Int))) (br (W.eq (l.getD i z6).1 149) _ none) none = _
      rw [h149, W.le_d, W.lt_d, W.and2_d, decide_eq_true (show (0 : Int) ≤ (i : Int) ∧ (i : Int) < (l.length : Int) by omega), br_t, eqs, br_t]; rfl
    · have hp : 0 < s.length := by cases s; exact absurd rfl hz; simp
      rw [W.eq_d, decide_eq_false (show ¬ ((s.length : Int) = 0) by omega), br_f, W.lt_d, decide_eq_true (show (0 : Int) < (s.length : Int) by omega)]
      have tt : W.and2 true true = true := rfl
      rw [tt, br_t, W.le_d, decide_eq_true (show (0 : Int) ≤ (t : Int) by omega), tt, br_t, W.succ64 (by omega)]
      have e1 : W.wrap .i64 (W.sub (s.length : Int) 1) = ((s.length - 1 : Nat) : Int) := by rw [W.sub_eq, W.wi64_id (by omega) (by omega)]; omega
      rw [e1, W.le_d, W.lt_d, W.and2_d, decide_eq_true (show (0 : Int) ≤ ((s.length - 1 : Nat) : Int) ∧ ((s.length - 1 : Nat) : Int) < (s.length : Int) by omega), br_t, W.toNat_nat]
      have g : ∀ n, n < s.length → s.getD n 0 ∈ s := by
        intro n hn
        have : s.getD n 0 = s[n] := by simp [List.getD_eq_getElem?_getD, List.getElem?_eq_getElem hn]
        rw [this]; exact List.getElem_mem hn
      obtain ⟨j1, q1, q2, q3⟩ := hmem _ (g (s.length - 1) (by omega))
      obtain ⟨j0, p1, p2, p3⟩ := hmem _ (g 0 hp)
      rw [q1, p1]
      have r1 := stay_loop hl hc hb m' (t + 1) e j1 (by omega) q2 q3
      have r0 := stay_loop hl hc hb m' (t + 1) e j0 (by omega) p2 p3
      rw [show e + (m' + 1) = e + m' + 1 from by omega, r1, r0]
      cases c.getD t false <;> rfl
theorem get_set {l : List In} {i : Nat} {x : In} (hi : i < l.length) (j : Nat) : (l.set i x).getD j z6 = if j = i then x else l.getD j z6 := by
  by_cases h : j = i
  · subst h; rw [if_pos rfl]; simp [List.getD_eq_getElem?_getD, hi]
  · rw [if_neg h]; simp [List.getD_eq_getElem?_getD, List.getElem?_set_ne (Ne.symm h)]
theorem run_set {l : List In} {i : Nat} {x : In} (hi : i < l.length) (h1 : (l.getD i z6).1 ≠ 24) (h2 : x.1 ≠ 24) : ∀ j, runW (l.set i x) j = runW l j
  | 0 => rfl
  | j + 1 => by
    simp only [runW, run_set hi h1 h2 j, get_set hi]
    by_cases h : j = i
    · subst h; rw [if_pos rfl, if_neg h2, if_neg h1]
    · rw [if_neg h]
theorem hole_set {l : List In} {i : Nat} {x : In} (hi : i < l.length) (h1 : (l.getD i z6).1 ≠ 24) (h2 : x.1 ≠ 24) (j : Int) : holeP (l.set i x) j ↔ holeP l j := by
  unfold holeP; rw [run_set hi h1 h2, List.length_set]
theorem suc_set {l : List In} {i j : Nat} {x : In} (hi : i < l.length) (h1 : (l.getD i z6).1 ≠ 24) (h2 : x.1 ≠ 24) (hj : j ≠ i) : sucP (l.set i x) (j : Int) = sucP l (j : Int) := by
  unfold sucP
  rw [List.length_set, hole_set hi h1 h2, Int.toNat_natCast, get_set hi, if_neg hj]
theorem bad_set {l : List In} {i j : Nat} {x : In} (hi : i < l.length) (h1 : (l.getD i z6).1 ≠ 24) (h2 : x.1 ≠ 24) (hh : ¬ holeP l i) (hj : j ≠ i) (hjl : j < l.length) (h : ¬ badP l j) : ¬ badP (l.set i x) j := by
  intro hb
  apply h
  unfold badP at hb ⊢
  rw [hole_set hi h1 h2, suc_set hi h1 h2 hj, get_set hi, if_neg hj, List.length_set] at hb
  refine ⟨hb.1, hb.2.elim (fun h3 => .inl (h3.elim .inl fun h4 => .inr ⟨h4.1, ?_⟩)) (fun ⟨s, h3, h4⟩ => .inr ⟨s, h3, ?_⟩)⟩
  · by_cases hji : j + 1 = i
    · exfalso
      apply hh
      subst hji
      have hr : runW l (j + 1) = runW l j + 1 := by simp only [runW]; rw [if_pos h4.1]
      have hj0 : runW l j % 2 = 0 := by
        refine Classical.byContradiction fun hn => hb.1 ?_
        refine ⟨?_, by omega, by rw [Int.toNat_natCast]; omega⟩
        cases j with
        | zero => simp [runW] at hn
        | succ j => omega
      refine ⟨by omega, by omega, ?_⟩
      rw [Int.toNat_natCast, hr]; omega
    · rcases h4.2 with h5 | h5
      · exact .inl h5
      · rw [get_set hi, if_neg hji] at h5; exact .inr h5
  · rcases h4 with h5 | h5 | h5
    · exact .inl h5
    · rw [List.length_set] at h5; exact .inr (.inl h5)
    · exact .inr (.inr ((hole_set hi h1 h2 s).1 h5))
def exitI : In := (149, 0, 0, 0, 0, 0)
def wrongI : In := (255, 0, 0, 0, 0, 0)
theorem ins_exit : insL exitI := by
  unfold insL bodyP exitI
  have e1 : (aluT 149).2.2 = false := by decide
  have e2 : (jmpT 149).2.2 = false := by decide
  have e3 : clsT 149 = 5 := by decide
  simp only [e1, e2, e3]
  refine ⟨by unfold fldP; simp, fun _ => trivial, ?_⟩
  unfold tailP; simp
theorem ins_wrong : ¬ insL wrongI := by
  unfold insL bodyP wrongI
  have e1 : (aluT 255).2.2 = false := by decide
  have e2 : (jmpT 255).2.2 = false := by decide
  have e3 : sizT 255 = 0 := by decide
  simp only [e1, e2]
  rintro ⟨_, _, h⟩
  revert h
  unfold tailP; simp [e3]
theorem alone_ok {l : List In} (h : (chkL l).2 = 0) {i : Nat} (hi : i < l.length) (h1 : (l.getD i z6).1 ≠ 24) (hh : ¬ holeP l i) : chkL (l.set i exitI) = (0, 0) ∧ chkL (l.set i wrongI) = ((i : Int), 40) := by
  obtain ⟨k1, k2, k3⟩ := chkL_ok.1 h
  have x1 : exitI.1 ≠ 24 := by decide
  have x2 : wrongI.1 ≠ 24 := by decide
  constructor
  · unfold chkL
    rw [List.length_set, if_neg (by omega), if_neg (by omega)]
    apply chkF_zero
    intro j _ hj
    by_cases hji : j = i
    · subst hji
      rintro ⟨b1, b2⟩
      rw [get_set hi, if_pos rfl] at b2
      rcases b2 with (b3 | b3) | ⟨s, b3, _⟩
      · exact b3 ins_exit
      · exact x1 b3.1
      · unfold sucP at b3
        rw [List.length_set, if_neg (by intro h2; rcases h2 with h2 | h2 | h2; omega; omega; exact hh ((hole_set hi h1 x1 _).1 h2)), Int.toNat_natCast, get_set hi, if_pos rfl, if_pos (show exitI.1 = 149 from rfl)] at b3
        simp at b3
    · exact bad_set hi h1 x1 hh hji (by omega) (k3 j (by omega))
  · unfold chkL
    rw [List.length_set, if_neg (by omega), if_neg (by omega)]
    apply chkF_at
    · omega
    · omega
    · intro j _ hj
      exact bad_set hi h1 x2 hh (by omega) (by omega) (k3 j (by omega))
    · refine ⟨fun h2 => hh ((hole_set hi h1 x2 _).1 h2), .inl (.inl ?_)⟩
      rw [get_set hi, if_pos rfl]; exact ins_wrong
theorem LegalStays_pure (x : PTs.D ps_clevislaw04LegalStays) (hw : WfL ps_clevislaw04LegalStays x) (hz : SzL ps_clevislaw04LegalStays x) :
    L_clevislaw04LegalStays F_legal_Succ F_legal_Check F_clevislaw04heads F_clevisref03Hole W.big x = some () := by
  obtain ⟨(l : List In), (c : List Bool)⟩ := x
  have hl := len_ok hz.1
  have hc : c.length < 9000000000000000000 := by
    have h0 : c.length * 1 ≤ 140737488351232 := hz.2.1
    omega
  simp only [L_clevislaw04LegalStays]
  rw [lchk_eq _ hl.2, heads4_eq]
  show br (W.ne (chkL l).2 0) _ _ = _
  by_cases h : (chkL l).2 = 0
  · rw [W.ne_d, decide_eq_false (fun h2 => h2 h), br_f]
    obtain ⟨k1, k2, k3⟩ := chkL_ok.1 h
    have hb : W.big = (W.big - 1001) + 1000 + 1 := by have : 1000 < W.big := big_lt (by omega); omega
    have := stay_loop hl.2 hc k3 1000 0 (W.big - 1001) 0 (by omega) k2 (by rintro ⟨h1, _⟩; omega)
    rw [← hb] at this
    exact this
  · rw [W.ne_d, decide_eq_true h, br_t]; rfl
theorem LegalStays_law (x : PTs.D ps_clevislaw04LegalStays) (hw : WfL ps_clevislaw04LegalStays x) (hz : SzL ps_clevislaw04LegalStays x) :
    ∃ (C : Cfg) (fl d : Nat), CfgOk C ∧ C.P = Try.prog ∧ call C fl d 6 (encL false ps_clevislaw04LegalStays x) [] getL = some () :=
  E_clevislaw04LegalStays ok_legal_Succ ok_legal_Check ok_clevislaw04heads ok_clevisref03Hole x W.big (LegalStays_pure x hw hz)
theorem LegalAlone_pure (x : PTs.D ps_clevislaw04LegalAlone) (hw : WfL ps_clevislaw04LegalAlone x) (hz : SzL ps_clevislaw04LegalAlone x) :
    L_clevislaw04LegalAlone F_legal_Check F_clevislaw04heads F_clevisref03Hole x = some () := by
  obtain ⟨(l : List In), (i : Int)⟩ := x
  have hl := len_ok hz.1
  simp only [L_clevislaw04LegalAlone]
  rw [lchk_eq _ hl.2]
  have hd : W.leN (W.mulN (W.len l) 48) 140737488355328 = true := decide_eq_true hl.1
  by_cases h : (chkL l).2 ≠ 0 ∨ i < 0 ∨ (l.length : Int) ≤ i
  · have : W.pick (W.pick (W.ne (chkL l).2 0) true (W.lt i 0)) true (W.ge i (W.ofNat (W.len l))) = true := by
      rw [W.picko_t, W.picko_t, W.ne_t, W.lt_t, W.ge_d, decide_eq_true_iff, W.ofNat_eq, W.len_eq]
      rcases h with h | h | h
      · exact .inl (.inl h)
      · exact .inl (.inr h)
      · exact .inr h
    rw [this, heads4_eq]; rfl
  have hk : (chkL l).2 = 0 := Classical.byContradiction fun h2 => h (.inl h2)
  have hi0 : 0 ≤ i := Int.not_lt.1 fun h2 => h (.inr (.inl h2))
  have hil : i < (l.length : Int) := Int.not_le.1 fun h2 => h (.inr (.inr h2))
  obtain ⟨n, rfl⟩ : ∃ n : Nat, i = (n : Int) := ⟨i.toNat, by omega⟩
  have hn : n < l.length := by omega
  have hf : W.pick (W.pick (W.ne (chkL l).2 0) true (W.lt (n : Int) 0)) true (W.ge (n : Int) (W.ofNat (W.len l))) = false := by
    rw [W.ne_d, W.lt_d, W.ge_d, W.ofNat_eq, W.len_eq, hk, decide_eq_false (show ¬ ((0 : Int) ≠ 0) by simp), decide_eq_false (show ¬ (n : Int) < 0 by omega), decide_eq_false (show ¬ (l.length : Int) ≤ (n : Int) by omega)]; rfl
  have hin : W.and2 (W.le 0 (n : Int)) (W.lt (n : Int) (W.ofNat (W.len l))) = true := by
    rw [W.le_d, W.lt_d, W.and2_d, W.ofNat_eq, W.len_eq]; exact decide_eq_true (by omega)
  rw [hf, hin, heads4_eq, W.get_eq, W.toNat_nat, z6_get]
  show br (W.not (W.pick false true (W.eq (l.getD n z6).1 24))) _ _ = _
  rw [W.pick_eq, cond_false, W.eq_d, W.not_eq, br_nd]
  by_cases h24 : (l.getD n z6).1 = 24
  · rw [if_pos h24]; rfl
  rw [if_neg h24, rhole_eq (l, (n : Int)) hl.2, W.pick_eq, cond_false, br_d]
  by_cases hh : holeP l (n : Int)
  · rw [if_pos hh]; rfl
  rw [if_neg hh]
  simp only [hd, br_t, W.set_eq]
  have ha := alone_ok hk hn h24 hh
  show F_legal_Check Unit (l.set n exitI) (fun y => F_legal_Check Unit (l.set n wrongI) _) = _
  rw [lchk_eq _ (by rw [List.length_set]; exact hl.2), lchk_eq _ (by rw [List.length_set]; exact hl.2), ha.1, ha.2]
  simp only [eqs]
  rw [heads4_eq]
  rfl
theorem LegalAlone_law (x : PTs.D ps_clevislaw04LegalAlone) (hw : WfL ps_clevislaw04LegalAlone x) (hz : SzL ps_clevislaw04LegalAlone x) :
    ∃ (C : Cfg) (fl d : Nat), CfgOk C ∧ C.P = Try.prog ∧ call C fl d 7 (encL false ps_clevislaw04LegalAlone x) [] getL = some () :=
  E_clevislaw04LegalAlone ok_legal_Check ok_clevislaw04heads ok_clevisref03Hole x (LegalAlone_pure x hw hz)
end Go.Proofs.Ytbngpphpdabakaa
