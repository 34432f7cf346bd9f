import Derived.Test.YtiojpgompgmicaaDoorEnwM23f
set_option linter.unusedVariables false
set_option linter.unusedSimpArgs false
set_option maxHeartbeats 4000000
set_option maxRecDepth 100000
namespace Go.Proofs.YtiojpgompgmicaaDoor
open Go Go.Eng
open Classical
theorem i64b {n : Int} (h : wfI .i64 n) : I64 n := ⟨(i64_lo h).1, by have := (i64_lo h).2; omega⟩
theorem u32b {n : Int} (h : wfI .u32 n) : 0 ≤ n ∧ n < 4294967296 := by
  simp [wfI, Lit.wf, IntKind.min, IntKind.max, IntKind.signed, IntKind.bits] at h; omega
theorem eqs (a : Int) : W.eq a a = true := W.eq_t.2 (Eq.refl a)
theorem eqbs (a : Bool) : W.eqB a a = true := W.eqB_t.2 (Eq.refl a)
theorem word_ok {x : RI} (h : okR x) : wordR x = (encI x, 0) := if_pos h
theorem word_no {x : RI} (h : ¬ okR x) : wordR x = (0, 2) := if_neg h
theorem same_eq (a b c d e : Int) (f : Bool) (g h a' b' c' d' e' : Int) (f' : Bool) (g' h' : Int) :
    W.and2 (W.eq a a') (W.and2 (W.eq b b') (W.and2 (W.eq c c') (W.and2 (W.eq d d') (W.and2 (W.eq e e') (W.and2 (W.eqB f f') (W.and2 (W.eq g g') (W.and2 (W.eq h h') true))))))) = decide (((a, b, c, d, e, f, g, h) : RI) = (a', b', c', d', e', f', g', h')) := by
  rw [Bool.eq_iff_iff]
  simp [W.and2, W.eq_d, W.eqB_t, Prod.mk.injEq]
theorem RiscWrites_pure (x : PTs.D ps_clevislaw23RiscWrites) (hw : WfL ps_clevislaw23RiscWrites x) (hz : SzL ps_clevislaw23RiscWrites x) :
    L_clevislaw23RiscWrites F_risc_Check F_risc_Encode F_clevisref23Check F_clevisref23Encode F_risc_Text F_clevisref23Text F_clevislaw23heads x = some () := by
  obtain ⟨(op : Int), (D : Int), (A : Int), (B : Int), (Fn : Int), (Wd : Bool), (Pt : Int), (Im : Int)⟩ := x
  have h64 : I64 op ∧ I64 D ∧ I64 A ∧ I64 B ∧ I64 Fn ∧ I64 Pt ∧ I64 Im := ⟨i64b hw.1, i64b hw.2.1, i64b hw.2.2.1, i64b hw.2.2.2.1, i64b hw.2.2.2.2.1, i64b hw.2.2.2.2.2.2.1, i64b hw.2.2.2.2.2.2.2⟩
  unfold L_clevislaw23RiscWrites
  try dsimp only
  rw [enc_eq]; (try dsimp only)
  rw [renc_eq]; (try dsimp only)
  refine brt (by rw [eqs, eqs]; rfl) ?_
  rw [check_eq]; (try dsimp only)
  rw [rcheck_eq]; (try dsimp only)
  refine brt (by rw [eqbs]; rfl) ?_
  rw [text_eq op D A B Fn Wd Pt Im h64]; (try dsimp only)
  rw [rtext_eq op D A B Fn Wd Pt Im h64]; (try dsimp only)
  refine brt (by rw [eqS_refl]; rfl) ?_
  rw [heads_eq]; rfl
theorem RiscWrites_law (x : PTs.D ps_clevislaw23RiscWrites) (hw : WfL ps_clevislaw23RiscWrites x) (hz : SzL ps_clevislaw23RiscWrites x) :
    ∃ (C : Cfg) (fl d : Nat), CfgOk C ∧ C.P = Tryd.prog ∧ call C fl d 3 (encL false ps_clevislaw23RiscWrites x) [] getL = some () :=
  E_clevislaw23RiscWrites ok_risc_Check ok_risc_Encode ok_clevisref23Check ok_clevisref23Encode ok_risc_Text ok_clevisref23Text ok_clevislaw23heads x (RiscWrites_pure x hw hz)
theorem RiscReads_pure (x : PTs.D ps_clevislaw23RiscReads) (hw : WfL ps_clevislaw23RiscReads x) (hz : SzL ps_clevislaw23RiscReads x) :
    L_clevislaw23RiscReads F_risc_Decode F_clevislaw23heads F_clevisref23Decode x = some () := by
  have h32 := u32b hw
  unfold L_clevislaw23RiscReads
  try dsimp only
  rw [dec_eq x h32]; (try dsimp only)
  rw [rdec_eq x h32]; (try dsimp only)
  refine brt ?_ ?_
  · simp only [eqs, eqbs]; rfl
  rw [heads_eq]; rfl
theorem RiscReads_law (x : PTs.D ps_clevislaw23RiscReads) (hw : WfL ps_clevislaw23RiscReads x) (hz : SzL ps_clevislaw23RiscReads x) :
    ∃ (C : Cfg) (fl d : Nat), CfgOk C ∧ C.P = Tryd.prog ∧ call C fl d 4 (encL false ps_clevislaw23RiscReads x) [] getL = some () :=
  E_clevislaw23RiscReads ok_risc_Decode ok_clevislaw23heads ok_clevisref23Decode x (RiscReads_pure x hw hz)
theorem RiscBack_pure (x : PTs.D ps_clevislaw23RiscBack) (hw : WfL ps_clevislaw23RiscBack x) (hz : SzL ps_clevislaw23RiscBack x) :
    L_clevislaw23RiscBack F_risc_Check F_risc_Encode F_risc_Decode F_clevislaw23heads x = some () := by
  obtain ⟨(op : Int), (D : Int), (A : Int), (B : Int), (Fn : Int), (Wd : Bool), (Pt : Int), (Im : Int)⟩ := x
  unfold L_clevislaw23RiscBack
  try dsimp only
  rw [enc_eq]; (try dsimp only)
  rw [check_eq]; (try dsimp only)
  by_cases h : okR (op, D, A, B, Fn, Wd, Pt, Im)
  · rw [word_ok h]; (try dsimp only)
    refine brf (by rw [decide_eq_true h]; rfl) ?_
    rw [dec_eq _ (enc_lt h), read_word h]; (try dsimp only)
    refine brt ?_ ?_
    · simp only [eqs, eqbs]; rfl
    rw [heads_eq]; rfl
  · rw [word_no h]; (try dsimp only)
    refine brt (by rw [decide_eq_false h]; rfl) (brt (by decide) ?_)
    rw [heads_eq]; rfl
theorem RiscBack_law (x : PTs.D ps_clevislaw23RiscBack) (hw : WfL ps_clevislaw23RiscBack x) (hz : SzL ps_clevislaw23RiscBack x) :
    ∃ (C : Cfg) (fl d : Nat), CfgOk C ∧ C.P = Tryd.prog ∧ call C fl d 5 (encL false ps_clevislaw23RiscBack x) [] getL = some () :=
  E_clevislaw23RiscBack ok_risc_Check ok_risc_Encode ok_risc_Decode ok_clevislaw23heads x (RiscBack_pure x hw hz)
theorem RiscAgain_pure (x : PTs.D ps_clevislaw23RiscAgain) (hw : WfL ps_clevislaw23RiscAgain x) (hz : SzL ps_clevislaw23RiscAgain x) :
    L_clevislaw23RiscAgain F_risc_Check F_risc_Encode F_risc_Decode F_clevislaw23heads x = some () := by
  have h32 := u32b hw
  unfold L_clevislaw23RiscAgain
  try dsimp only
  rw [dec_eq x h32]; (try dsimp only)
  by_cases c : okR (rawR x) ∧ encI (rawR x) = x
  · have e : readR x = (rawR x, 0) := if_pos c
    rw [e]; (try dsimp only)
    refine brf (by decide) ?_
    have e2 : wordR (rawR x) = (x, 0) := by rw [word_ok c.1, c.2]
    have e3 := raw_op x
    have e4 := c.1
    generalize rawR x = y at *
    obtain ⟨(op : Int), (D : Int), (A : Int), (B : Int), (Fn : Int), (Wd : Bool), (Pt : Int), (Im : Int)⟩ := y
    dsimp only
    rw [enc_eq, e2]; (try dsimp only)
    refine brt (by rw [eqs, eqs]; rfl) ?_
    rw [check_eq]; (try dsimp only)
    refine brt ?_ ?_
    · rw [decide_eq_true e4, hop h32, ← e3, eqs]; rfl
    rw [heads_eq]; rfl
  · have e : readR x = (zeroR, 230) := if_neg c
    rw [e]; (try dsimp only [zeroR])
    refine brt (by decide) (brt (by decide) ?_)
    rw [heads_eq]; rfl
theorem RiscAgain_law (x : PTs.D ps_clevislaw23RiscAgain) (hw : WfL ps_clevislaw23RiscAgain x) (hz : SzL ps_clevislaw23RiscAgain x) :
    ∃ (C : Cfg) (fl d : Nat), CfgOk C ∧ C.P = Tryd.prog ∧ call C fl d 6 (encL false ps_clevislaw23RiscAgain x) [] getL = some () :=
  E_clevislaw23RiscAgain ok_risc_Check ok_risc_Encode ok_risc_Decode ok_clevislaw23heads x (RiscAgain_pure x hw hz)
theorem RiscApart_pure (x : PTs.D ps_clevislaw23RiscApart) (hw : WfL ps_clevislaw23RiscApart x) (hz : SzL ps_clevislaw23RiscApart x) :
    L_clevislaw23RiscApart F_risc_Encode F_clevislaw23heads x = some () := by
  obtain ⟨⟨(op : Int), (D : Int), (A : Int), (B : Int), (Fn : Int), (Wd : Bool), (Pt : Int), (Im : Int)⟩, ⟨(op' : Int), (D' : Int), (A' : Int), (B' : Int), (Fn' : Int), (Wd' : Bool), (Pt' : Int), (Im' : Int)⟩⟩ := x
  unfold L_clevislaw23RiscApart
  try dsimp only
  rw [enc_eq]; (try dsimp only)
  rw [enc_eq]; (try dsimp only)
  by_cases h : okR (op, D, A, B, Fn, Wd, Pt, Im)
  rotate_left
  · rw [word_no h]; (try dsimp only)
    refine brt (by rfl) ?_
    rw [heads_eq]; rfl
  by_cases h' : okR (op', D', A', B', Fn', Wd', Pt', Im')
  rotate_left
  · rw [word_ok h, word_no h']; (try dsimp only)
    refine brt (by rfl) ?_
    rw [heads_eq]; rfl
  rw [word_ok h, word_ok h']; (try dsimp only)
  refine brf (by rfl) (brt ?_ ?_)
  · rw [same_eq]
    by_cases e : ((op, D, A, B, Fn, Wd, Pt, Im) : RI) = (op', D', A', B', Fn', Wd', Pt', Im')
    · rw [decide_eq_true e, e, eqs]; rfl
    · rw [decide_eq_false e]
      have ne : W.eq (encI (op, D, A, B, Fn, Wd, Pt, Im)) (encI (op', D', A', B', Fn', Wd', Pt', Im')) = false := by
        rw [W.eq_d]
        refine decide_eq_false fun d => e ?_
        have r1 := read_word h
        rw [d, read_word h'] at r1
        exact (Prod.mk.inj r1).1.symm
      rw [ne]; rfl
  rw [heads_eq]; rfl
theorem RiscApart_law (x : PTs.D ps_clevislaw23RiscApart) (hw : WfL ps_clevislaw23RiscApart x) (hz : SzL ps_clevislaw23RiscApart x) :
    ∃ (C : Cfg) (fl d : Nat), CfgOk C ∧ C.P = Tryd.prog ∧ call C fl d 7 (encL false ps_clevislaw23RiscApart x) [] getL = some () :=
  E_clevislaw23RiscApart ok_risc_Encode ok_clevislaw23heads x (RiscApart_pure x hw hz)
end Go.Proofs.YtiojpgompgmicaaDoor
