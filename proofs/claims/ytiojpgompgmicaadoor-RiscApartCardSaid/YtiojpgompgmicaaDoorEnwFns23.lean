import Derived.Test.YtiojpgompgmicaaDoorProg
import Derived.Test.YtiojpgompgmicaaDoorEnwZ4
import Derived.Test.YtiojpgompgmicaaDoorEnwZ6
import Derived.Test.YtiojpgompgmicaaDoorEnwSh23
import Derived.KernelRfl
set_option maxHeartbeats 0
set_option maxRecDepth 1000000
set_option linter.unusedVariables false
namespace Go.Proofs.YtiojpgompgmicaaDoor
open Go Go.Eng
theorem base : CfgOk (Cw Tryd.prog [] noH) := cfgOk_nil (noGo_of (by kernel_rfl)) (by kernel_rfl) (by kernel_rfl)
abbrev ps_word_low : List PT := [.one (.int .u64), .one (.bool)]
abbrev qs_word_low : List PT := [.one (.int .u64)]
noncomputable def N_word_low   : FT ps_word_low qs_word_low := fun R x k => match x with
  | (x0, x1) => 
      br x1 (k x0) (k (W.wrap IntKind.u64 (W.wrap IntKind.u32 x0)))
theorem S_word_low   : SpecOk Tryd.prog 62 (mkS ps_word_low qs_word_low (N_word_low )) :=
  specOk_mk (fl := 10) (d := 12) base (by rintro R ⟨x0, x1⟩ k; kernel_rfl)
noncomputable def F_word_low : FT ps_word_low qs_word_low := N_word_low  
theorem ok_word_low : SpecOk Tryd.prog 62 (mkS ps_word_low qs_word_low F_word_low) := S_word_low 
abbrev ps_word_shift : List PT := [.one (.int .i64), .one (.int .u64), .one (.int .u64), .one (.bool)]
abbrev qs_word_shift : List PT := [.one (.int .u64)]
noncomputable def N_word_shift   : FT ps_word_shift qs_word_shift := fun R x k => match x with
  | (x0, x1, x2, x3) => 
      br (W.not x3)
        (br (W.eq x0 96) (k (W.wrap IntKind.u64 (W.shl IntKind.u64 x1 (W.wrap IntKind.u64 (W.and IntKind.u64 x2 31)))))
          (br (W.eq x0 112) (k (W.shr IntKind.u64 x1 (W.wrap IntKind.u64 (W.and IntKind.u64 x2 31))))
            (br x3 (k (W.wrap IntKind.u64 (W.shr IntKind.i64 (W.wrap IntKind.i64 x1) (W.wrap IntKind.u64 (W.and IntKind.u64 x2 31)))))
              (k (W.wrap IntKind.u64 (W.wrap IntKind.u32 (W.shr IntKind.i32 (W.wrap IntKind.i32 (W.wrap IntKind.u32 x1)) (W.wrap IntKind.u64 (W.and IntKind.u64 x2 31)))))))))
        (br (W.eq x0 96) (k (W.wrap IntKind.u64 (W.shl IntKind.u64 x1 (W.wrap IntKind.u64 (W.and IntKind.u64 x2 63)))))
          (br (W.eq x0 112) (k (W.shr IntKind.u64 x1 (W.wrap IntKind.u64 (W.and IntKind.u64 x2 63))))
            (br x3 (k (W.wrap IntKind.u64 (W.shr IntKind.i64 (W.wrap IntKind.i64 x1) (W.wrap IntKind.u64 (W.and IntKind.u64 x2 63)))))
              (k (W.wrap IntKind.u64 (W.wrap IntKind.u32 (W.shr IntKind.i32 (W.wrap IntKind.i32 (W.wrap IntKind.u32 x1)) (W.wrap IntKind.u64 (W.and IntKind.u64 x2 63)))))))))
theorem S_word_shift   : SpecOk Tryd.prog 63 (mkS ps_word_shift qs_word_shift (N_word_shift )) :=
  specOk_mk (fl := 10) (d := 12) base (by rintro R ⟨x0, x1, x2, x3⟩ k; kernel_rfl)
noncomputable def F_word_shift : FT ps_word_shift qs_word_shift := N_word_shift  
theorem ok_word_shift : SpecOk Tryd.prog 63 (mkS ps_word_shift qs_word_shift F_word_shift) := S_word_shift 
abbrev ps_word_plain : List PT := [.one (.int .i64), .one (.int .u64), .one (.int .u64)]
abbrev qs_word_plain : List PT := [.one (.int .u64), .one (.bool)]
noncomputable def N_word_plain   : FT ps_word_plain qs_word_plain := fun R x k => match x with
  | (x0, x1, x2) => 
      br (W.eq x0 0) (k (W.wrap IntKind.u64 (W.add x1 x2), true))
        (br (W.eq x0 16) (k (W.wrap IntKind.u64 (W.sub x1 x2), true))
          (br (W.eq x0 32) (k (W.wrap IntKind.u64 (W.mul x1 x2), true))
            (br (W.eq x0 64) (k (W.wrap IntKind.u64 (W.or IntKind.u64 x1 x2), true))
              (br (W.eq x0 80) (k (W.wrap IntKind.u64 (W.and IntKind.u64 x1 x2), true))
                (br (W.eq x0 160) (k (W.wrap IntKind.u64 (W.xor IntKind.u64 x1 x2), true))
                  (br (W.eq x0 128) (k (W.wrap IntKind.u64 (W.sub 0 x1), true)) (br (W.eq x0 176) (k (x2, true)) (k (0, false)))))))))
theorem S_word_plain   : SpecOk Tryd.prog 64 (mkS ps_word_plain qs_word_plain (N_word_plain )) :=
  specOk_mk (fl := 10) (d := 12) base (by rintro R ⟨x0, x1, x2⟩ k; kernel_rfl)
noncomputable def F_word_plain : FT ps_word_plain qs_word_plain := N_word_plain  
theorem ok_word_plain : SpecOk Tryd.prog 64 (mkS ps_word_plain qs_word_plain F_word_plain) := S_word_plain 
abbrev ps_word_Alu : List PT := [.one (.int .i64), .one (.int .u64), .one (.int .u64), .one (.bool)]
abbrev qs_word_Alu : List PT := [.one (.int .u64), .one (.bool)]
noncomputable def N_word_Alu (F_word_low : FT ps_word_low qs_word_low) (F_word_shift : FT ps_word_shift qs_word_shift) (F_word_plain : FT ps_word_plain qs_word_plain)  : FT ps_word_Alu qs_word_Alu := fun R x k => match x with
  | (x0, x1, x2, x3) => 
      F_word_low R (x1, x3) fun y =>
        F_word_low R (x2, x3) fun y_1 =>
          br (W.eq x0 48) (br (W.eq y_1 0) (k (0, true)) (br (W.eq y_1 0) none (k (W.wrap IntKind.u64 (W.quo y y_1), true))))
            (br (W.eq x0 144) (br (W.eq y_1 0) (k (y, true)) (br (W.eq y_1 0) none (k (W.rem y y_1, true))))
              (br (W.eq x0 96)
                (br (W.eq x0 96) (F_word_shift R (x0, y, y_1, x3) fun y => F_word_low R (y, x3) fun y => k (y, true)) (F_word_plain R (x0, y, y_1) fun y => F_word_low R (y.1, x3) fun y_2 => k (y_2, y.2)))
                (br (W.eq x0 112)
                  (br (W.eq x0 112) (F_word_shift R (x0, y, y_1, x3) fun y => F_word_low R (y, x3) fun y => k (y, true))
                    (F_word_plain R (x0, y, y_1) fun y => F_word_low R (y.1, x3) fun y_2 => k (y_2, y.2)))
                  (br (W.eq x0 192) (F_word_shift R (x0, y, y_1, x3) fun y => F_word_low R (y, x3) fun y => k (y, true))
                    (F_word_plain R (x0, y, y_1) fun y => F_word_low R (y.1, x3) fun y_2 => k (y_2, y.2))))))
theorem S_word_Alu {F_word_low : FT ps_word_low qs_word_low} {F_word_shift : FT ps_word_shift qs_word_shift} {F_word_plain : FT ps_word_plain qs_word_plain} (h_word_low : SpecOk Tryd.prog 62 (mkS ps_word_low qs_word_low F_word_low)) (h_word_shift : SpecOk Tryd.prog 63 (mkS ps_word_shift qs_word_shift F_word_shift)) (h_word_plain : SpecOk Tryd.prog 64 (mkS ps_word_plain qs_word_plain F_word_plain)) : SpecOk Tryd.prog 40 (mkS ps_word_Alu qs_word_Alu (N_word_Alu F_word_low F_word_shift F_word_plain)) :=
  specOk_mk (fl := 10) (d := 12) (cfgOk_cons (cfgOk_cons (cfgOk_cons base h_word_plain) h_word_shift) h_word_low) (by rintro R ⟨x0, x1, x2, x3⟩ k; kernel_rfl)
noncomputable def F_word_Alu : FT ps_word_Alu qs_word_Alu := N_word_Alu F_word_low F_word_shift F_word_plain 
theorem ok_word_Alu : SpecOk Tryd.prog 40 (mkS ps_word_Alu qs_word_Alu F_word_Alu) := S_word_Alu ok_word_low ok_word_shift ok_word_plain
abbrev ps_risc_more : List PT := [.agg ((.prod (.int .i64) (.prod (.int .i64) (.prod (.int .i64) (.prod (.int .i64) (.prod (.int .i64) (.prod (.bool) (.prod (.int .i64) (.int .i64)))))))))]
abbrev qs_risc_more : List PT := [.one (.bool)]
noncomputable def N_risc_more (F_word_Alu : FT ps_word_Alu qs_word_Alu)  : FT ps_risc_more qs_risc_more := fun R x k => match x with
  | (x0Op, x0D, x0A, x0B, x0Fn, x0Wide, x0Part, x0Imm) => 
      br (W.eq x0Op 1) (F_word_Alu R (x0Fn, 0, 0, true) fun y => k y.2)
        (br (W.eq x0Op 22) (k (W.pick (W.ge x0Imm 1) (W.le x0Imm 5) false)) (br (W.eq x0Op 24) (br (W.eq x0Op 24) (k (W.lt x0Imm 256)) (k true)) (br (W.eq x0Op 25) (k (W.lt x0Imm 256)) (k true))))
theorem S_risc_more {F_word_Alu : FT ps_word_Alu qs_word_Alu} (h_word_Alu : SpecOk Tryd.prog 40 (mkS ps_word_Alu qs_word_Alu F_word_Alu)) : SpecOk Tryd.prog 21 (mkS ps_risc_more qs_risc_more (N_risc_more F_word_Alu)) :=
  specOk_mk (fl := 10) (d := 12) (cfgOk_cons base h_word_Alu) (by rintro R ⟨x0Op, x0D, x0A, x0B, x0Fn, x0Wide, x0Part, x0Imm⟩ k; kernel_rfl)
noncomputable def F_risc_more : FT ps_risc_more qs_risc_more := N_risc_more F_word_Alu 
theorem ok_risc_more : SpecOk Tryd.prog 21 (mkS ps_risc_more qs_risc_more F_risc_more) := S_risc_more ok_word_Alu
abbrev ps_risc_one : List PT := [.one (.bool)]
abbrev qs_risc_one : List PT := [.one (.int .i64)]
noncomputable def N_risc_one   : FT ps_risc_one qs_risc_one := fun R x k => match x with
  | x0 => 
      br x0 (k 1) (k 0)
theorem S_risc_one   : SpecOk Tryd.prog 25 (mkS ps_risc_one qs_risc_one (N_risc_one )) :=
  specOk_mk (fl := 10) (d := 12) base (by intro R x0 k; kernel_rfl)
noncomputable def F_risc_one : FT ps_risc_one qs_risc_one := N_risc_one  
theorem ok_risc_one : SpecOk Tryd.prog 25 (mkS ps_risc_one qs_risc_one F_risc_one) := S_risc_one 
abbrev ps_slices_Index_int_int : List PT := [.one (.slice (.int .i64)), .one (.int .i64)]
abbrev qs_slices_Index_int_int : List PT := [.one (.int .i64)]
noncomputable def PL_slices_Index_int_int_2_0  (fl : Nat)  (R : Type) (k : PTs.D qs_slices_Index_int_int → Option R) : LoopI R :=
  locate (Cw Tryd.prog [] noH) fl (call (Cw Tryd.prog [] noH) fl 11) 0 60 2 [] (getR qs_slices_Index_int_int k)
noncomputable def P_slices_Index_int_int_2_0  (fl : Nat)  (n : Nat) (R : Type) (y0 : List Int) (y1 : Int) (y2 : Int) (y3 : Int) (k : PTs.D qs_slices_Index_int_int → Option R) : Option R :=
  loopH (PL_slices_Index_int_int_2_0  fl  R k).body (PL_slices_Index_int_int_2_0  fl  R k).head n (some (
      S.mk
        [V.ro true (Ty.int IntKind.i64) y0, V.int IntKind.i64 y1, V.any, V.any, V.any, V.any, V.any, V.int IntKind.i64 y2, V.int IntKind.i64 y3, V.any, V.any, V.any, V.any, V.any, V.any, V.any, V.any,
          V.any, V.any]
        [] [])) (PL_slices_Index_int_int_2_0  fl  R k).kont
theorem P_slices_Index_int_int_2_0_s  (fl : Nat)  (n : Nat) (R : Type) (y0 : List Int) (y1 : Int) (y2 : Int) (y3 : Int) (k : PTs.D qs_slices_Index_int_int → Option R) : P_slices_Index_int_int_2_0  fl  (n + 1) R y0 y1 y2 y3 k =
      br (W.lt y3 y2) (br (W.and2 (W.le 0 y3) (W.lt y3 (W.ofNat (W.len y0)))) (br (W.eq y1 (W.get y0 (W.toNat y3) 0)) (k y3) (P_slices_Index_int_int_2_0 fl n R y0 y1 y2 (W.wrap IntKind.i64 (W.add y3 1)) k)) none) (k (-1)) := by kernel_rfl
noncomputable def N_slices_Index_int_int  (fl : Nat) : FT ps_slices_Index_int_int qs_slices_Index_int_int := fun R x k => match x with
  | (x0, x1) => 
      P_slices_Index_int_int_2_0 fl fl R x0 x1 (W.ofNat (W.len x0)) 0 k
theorem Q_slices_Index_int_int  (fl : Nat) (R : Type) (x : PTs.D ps_slices_Index_int_int) (k : PTs.D qs_slices_Index_int_int → Option R) : call (Cw Tryd.prog [] noH) fl 12 60 (encL true ps_slices_Index_int_int x) [] (getR qs_slices_Index_int_int k) = N_slices_Index_int_int  fl R x k := by
  obtain ⟨x0, x1⟩ := x; kernel_rfl
theorem S_slices_Index_int_int   : SpecOk Tryd.prog 60 (mkS ps_slices_Index_int_int qs_slices_Index_int_int (N_slices_Index_int_int  W.big)) :=
  specOk_mk (fl := W.big) (d := 12) base (fun R x k => Q_slices_Index_int_int W.big R x k)
noncomputable def F_slices_Index_int_int : FT ps_slices_Index_int_int qs_slices_Index_int_int := N_slices_Index_int_int  W.big
theorem ok_slices_Index_int_int : SpecOk Tryd.prog 60 (mkS ps_slices_Index_int_int qs_slices_Index_int_int F_slices_Index_int_int) := S_slices_Index_int_int 
abbrev ps_risc_Check : List PT := [.agg ((.prod (.int .i64) (.prod (.int .i64) (.prod (.int .i64) (.prod (.int .i64) (.prod (.int .i64) (.prod (.bool) (.prod (.int .i64) (.int .i64)))))))))]
abbrev qs_risc_Check : List PT := [.one (.bool)]
noncomputable def N_risc_Check (F_risc_more : FT ps_risc_more qs_risc_more) (F_risc_one : FT ps_risc_one qs_risc_one) (F_slices_Index_int_int : FT ps_slices_Index_int_int qs_slices_Index_int_int)  : FT ps_risc_Check qs_risc_Check := fun R x k => match x with
  | (x0Op, x0D, x0A, x0B, x0Fn, x0Wide, x0Part, x0Imm) => 
      br (W.eq x0Op 1)
        (br (W.pick (W.lt x0D 0) true (W.gt x0D 31)) (k false)
          (br (W.pick (W.lt x0A 0) true (W.gt x0A 31)) (k false)
            (br (W.pick (W.lt x0B 0) true (W.gt x0B 31)) (k false)
              (F_risc_one R x0Wide fun y =>
                br (W.pick (W.lt y 0) true (W.gt y 1)) (k false)
                  (br (W.pick (W.lt (W.wrap IntKind.i64 (W.quo x0Fn 16)) 0) true (W.gt (W.wrap IntKind.i64 (W.quo x0Fn 16)) 15)) (k false)
                    (br
                      (W.and2 (W.eq x0Op x0Op)
                        (W.and2 (W.eq x0D x0D)
                          (W.and2 (W.eq x0A x0A)
                            (W.and2 (W.eq x0B x0B)
                              (W.and2 (W.eq (W.wrap IntKind.i64 (W.mul 16 (W.wrap IntKind.i64 (W.quo x0Fn 16)))) x0Fn)
                                (W.and2 (W.eqB (W.gt y 0) x0Wide) (W.and2 (W.eq 0 x0Part) (W.and2 (W.eq 0 x0Imm) true))))))))
                      (F_risc_more R (x0Op, x0D, x0A, x0B, x0Fn, x0Wide, x0Part, x0Imm) fun y => k y) (k false)))))))
        (br (W.pick (W.eq x0Op 2) true (W.eq x0Op 3))
          (br (W.pick (W.lt x0D 0) true (W.gt x0D 31)) (k false)
            (br (W.pick (W.lt x0Part 0) true (W.gt x0Part 3)) (k false)
              (br (W.pick (W.lt x0Imm 0) true (W.gt x0Imm 65535)) (k false)
                (br
                  (W.and2 (W.eq x0Op x0Op)
                    (W.and2 (W.eq x0D x0D)
                      (W.and2 (W.eq 0 x0A) (W.and2 (W.eq 0 x0B) (W.and2 (W.eq 0 x0Fn) (W.and2 (W.eqB false x0Wide) (W.and2 (W.eq x0Part x0Part) (W.and2 (W.eq x0Imm x0Imm) true))))))))
                  (F_risc_more R (x0Op, x0D, x0A, x0B, x0Fn, x0Wide, x0Part, x0Imm) fun y => k y) (k false)))))
          (br (W.pick (W.ge x0Op 4) (W.lt x0Op 12) false)
            (br (W.pick (W.lt x0D 0) true (W.gt x0D 31)) (k false)
              (br (W.pick (W.lt x0A 0) true (W.gt x0A 31)) (k false)
                (br (W.pick (W.lt x0Imm (-32768)) true (W.gt x0Imm 32767)) (k false)
                  (br
                    (W.and2 (W.eq x0Op x0Op)
                      (W.and2 (W.eq x0D x0D)
                        (W.and2 (W.eq x0A x0A) (W.and2 (W.eq 0 x0B) (W.and2 (W.eq 0 x0Fn) (W.and2 (W.eqB false x0Wide) (W.and2 (W.eq 0 x0Part) (W.and2 (W.eq x0Imm x0Imm) true))))))))
                    (F_risc_more R (x0Op, x0D, x0A, x0B, x0Fn, x0Wide, x0Part, x0Imm) fun y => k y) (k false)))))
            (br (W.pick (W.ge x0Op 12) (W.lt x0Op 20) false)
              (br (W.pick (W.lt x0A 0) true (W.gt x0A 31)) (k false)
                (br (W.pick (W.lt x0Imm (-32768)) true (W.gt x0Imm 32767)) (k false)
                  (br
                    (W.and2 (W.eq x0Op x0Op)
                      (W.and2 (W.eq 0 x0D)
                        (W.and2 (W.eq x0A x0A) (W.and2 (W.eq 0 x0B) (W.and2 (W.eq 0 x0Fn) (W.and2 (W.eqB false x0Wide) (W.and2 (W.eq 0 x0Part) (W.and2 (W.eq x0Imm x0Imm) true))))))))
                    (F_risc_more R (x0Op, x0D, x0A, x0B, x0Fn, x0Wide, x0Part, x0Imm) fun y => k y) (k false))))
              (br (W.eq x0Op 20)
                (br (W.pick (W.lt x0A 0) true (W.gt x0A 31)) (k false)
                  (br (W.pick (W.lt x0B 0) true (W.gt x0B 31)) (k false)
                    (F_slices_Index_int_int R ([16, 32, 48, 64, 80, 96, 112, 160, 176, 192, 208], x0Fn) fun y =>
                      br (W.pick (W.lt y 0) true (W.gt y 15)) (k false)
                        (br (W.lt y 11)
                          (br (W.and2 (W.le 0 y) (W.lt y 11))
                            (F_risc_one R x0Wide fun y_1 =>
                              br (W.pick (W.lt y_1 0) true (W.gt y_1 1)) (k false)
                                (br (W.pick (W.lt x0Imm (-1024)) true (W.gt x0Imm 1023)) (k false)
                                  (br
                                    (W.and2 (W.eq x0Op x0Op)
                                      (W.and2 (W.eq 0 x0D)
                                        (W.and2 (W.eq x0A x0A)
                                          (W.and2 (W.eq x0B x0B)
                                            (W.and2 (W.eq (W.get [16, 32, 48, 64, 80, 96, 112, 160, 176, 192, 208] (W.toNat y) 0) x0Fn)
                                              (W.and2 (W.eqB (W.gt y_1 0) x0Wide) (W.and2 (W.eq 0 x0Part) (W.and2 (W.eq x0Imm x0Imm) true))))))))
                                    (F_risc_more R (x0Op, x0D, x0A, x0B, x0Fn, x0Wide, x0Part, x0Imm) fun y => k y) (k false))))
                            none)
                          (F_risc_one R x0Wide fun y =>
                            br (W.pick (W.lt y 0) true (W.gt y 1)) (k false)
                              (br (W.pick (W.lt x0Imm (-1024)) true (W.gt x0Imm 1023)) (k false)
                                (br
                                  (W.and2 (W.eq x0Op x0Op)
                                    (W.and2 (W.eq 0 x0D)
                                      (W.and2 (W.eq x0A x0A)
                                        (W.and2 (W.eq x0B x0B) (W.and2 (W.eq (-1) x0Fn) (W.and2 (W.eqB (W.gt y 0) x0Wide) (W.and2 (W.eq 0 x0Part) (W.and2 (W.eq x0Imm x0Imm) true))))))))
                                  (F_risc_more R (x0Op, x0D, x0A, x0B, x0Fn, x0Wide, x0Part, x0Imm) fun y => k y) (k false))))))))
                (br (W.eq x0Op 21)
                  (br (W.pick (W.lt x0Imm (-33554432)) true (W.gt x0Imm 33554431)) (k false)
                    (br
                      (W.and2 (W.eq x0Op x0Op)
                        (W.and2 (W.eq 0 x0D)
                          (W.and2 (W.eq 0 x0A) (W.and2 (W.eq 0 x0B) (W.and2 (W.eq 0 x0Fn) (W.and2 (W.eqB false x0Wide) (W.and2 (W.eq 0 x0Part) (W.and2 (W.eq x0Imm x0Imm) true))))))))
                      (F_risc_more R (x0Op, x0D, x0A, x0B, x0Fn, x0Wide, x0Part, x0Imm) fun y => k y) (k false)))
                  (br (W.eq x0Op 22)
                    (br (W.pick (W.lt x0Imm 0) true (W.gt x0Imm 67108863)) (k false)
                      (br
                        (W.and2 (W.eq x0Op x0Op)
                          (W.and2 (W.eq 0 x0D)
                            (W.and2 (W.eq 0 x0A) (W.and2 (W.eq 0 x0B) (W.and2 (W.eq 0 x0Fn) (W.and2 (W.eqB false x0Wide) (W.and2 (W.eq 0 x0Part) (W.and2 (W.eq x0Imm x0Imm) true))))))))
                        (F_risc_more R (x0Op, x0D, x0A, x0B, x0Fn, x0Wide, x0Part, x0Imm) fun y => k y) (k false)))
                    (br (W.eq x0Op 24)
                      (br (W.pick (W.lt x0D 0) true (W.gt x0D 31)) (k false)
                        (br (W.pick (W.lt x0Imm 0) true (W.gt x0Imm 65535)) (k false)
                          (br
                            (W.and2 (W.eq x0Op x0Op)
                              (W.and2 (W.eq x0D x0D)
                                (W.and2 (W.eq 0 x0A) (W.and2 (W.eq 0 x0B) (W.and2 (W.eq 0 x0Fn) (W.and2 (W.eqB false x0Wide) (W.and2 (W.eq 0 x0Part) (W.and2 (W.eq x0Imm x0Imm) true))))))))
                            (F_risc_more R (x0Op, x0D, x0A, x0B, x0Fn, x0Wide, x0Part, x0Imm) fun y => k y) (k false))))
                      (br (W.eq x0Op 25)
                        (br (W.pick (W.lt x0D 0) true (W.gt x0D 31)) (k false)
                          (br (W.pick (W.lt x0Imm 0) true (W.gt x0Imm 65535)) (k false)
                            (br
                              (W.and2 (W.eq x0Op x0Op)
                                (W.and2 (W.eq x0D x0D)
                                  (W.and2 (W.eq 0 x0A) (W.and2 (W.eq 0 x0B) (W.and2 (W.eq 0 x0Fn) (W.and2 (W.eqB false x0Wide) (W.and2 (W.eq 0 x0Part) (W.and2 (W.eq x0Imm x0Imm) true))))))))
                              (F_risc_more R (x0Op, x0D, x0A, x0B, x0Fn, x0Wide, x0Part, x0Imm) fun y => k y) (k false))))
                        (br (W.eq x0Op 26)
                          (br (W.pick (W.lt x0D 0) true (W.gt x0D 31)) (k false)
                            (br
                              (W.and2 (W.eq x0Op x0Op)
                                (W.and2 (W.eq x0D x0D)
                                  (W.and2 (W.eq 0 x0A) (W.and2 (W.eq 0 x0B) (W.and2 (W.eq 0 x0Fn) (W.and2 (W.eqB false x0Wide) (W.and2 (W.eq 0 x0Part) (W.and2 (W.eq 0 x0Imm) true))))))))
                              (F_risc_more R (x0Op, x0D, x0A, x0B, x0Fn, x0Wide, x0Part, x0Imm) fun y => k y) (k false)))
                          (br (W.eq x0Op 27)
                            (br (W.pick (W.lt x0D 0) true (W.gt x0D 31)) (k false)
                              (br
                                (W.and2 (W.eq x0Op x0Op)
                                  (W.and2 (W.eq x0D x0D)
                                    (W.and2 (W.eq 0 x0A) (W.and2 (W.eq 0 x0B) (W.and2 (W.eq 0 x0Fn) (W.and2 (W.eqB false x0Wide) (W.and2 (W.eq 0 x0Part) (W.and2 (W.eq 0 x0Imm) true))))))))
                                (F_risc_more R (x0Op, x0D, x0A, x0B, x0Fn, x0Wide, x0Part, x0Imm) fun y => k y) (k false)))
                            (br (W.eq x0Op 23)
                              (br
                                (W.and2 (W.eq x0Op x0Op)
                                  (W.and2 (W.eq 0 x0D)
                                    (W.and2 (W.eq 0 x0A) (W.and2 (W.eq 0 x0B) (W.and2 (W.eq 0 x0Fn) (W.and2 (W.eqB false x0Wide) (W.and2 (W.eq 0 x0Part) (W.and2 (W.eq 0 x0Imm) true))))))))
                                (F_risc_more R (x0Op, x0D, x0A, x0B, x0Fn, x0Wide, x0Part, x0Imm) fun y => k y) (k false))
                              (k false))))))))))))
theorem S_risc_Check {F_risc_more : FT ps_risc_more qs_risc_more} {F_risc_one : FT ps_risc_one qs_risc_one} {F_slices_Index_int_int : FT ps_slices_Index_int_int qs_slices_Index_int_int} (h_risc_more : SpecOk Tryd.prog 21 (mkS ps_risc_more qs_risc_more F_risc_more)) (h_risc_one : SpecOk Tryd.prog 25 (mkS ps_risc_one qs_risc_one F_risc_one)) (h_slices_Index_int_int : SpecOk Tryd.prog 60 (mkS ps_slices_Index_int_int qs_slices_Index_int_int F_slices_Index_int_int)) : SpecOk Tryd.prog 10 (mkS ps_risc_Check qs_risc_Check (N_risc_Check F_risc_more F_risc_one F_slices_Index_int_int)) :=
  specOk_mk (fl := 22) (d := 12) (cfgOk_cons (cfgOk_cons (cfgOk_cons base h_slices_Index_int_int) h_risc_one) h_risc_more) (by rintro R ⟨x0Op, x0D, x0A, x0B, x0Fn, x0Wide, x0Part, x0Imm⟩ k; kernel_rfl)
noncomputable def F_risc_Check : FT ps_risc_Check qs_risc_Check := N_risc_Check F_risc_more F_risc_one F_slices_Index_int_int 
theorem ok_risc_Check : SpecOk Tryd.prog 10 (mkS ps_risc_Check qs_risc_Check F_risc_Check) := S_risc_Check ok_risc_more ok_risc_one ok_slices_Index_int_int
abbrev ps_risc_Encode : List PT := [.agg ((.prod (.int .i64) (.prod (.int .i64) (.prod (.int .i64) (.prod (.int .i64) (.prod (.int .i64) (.prod (.bool) (.prod (.int .i64) (.int .i64)))))))))]
abbrev qs_risc_Encode : List PT := [.one (.int .u32), .one (.int .i64)]
noncomputable def N_risc_Encode (F_risc_Check : FT ps_risc_Check qs_risc_Check) (F_risc_one : FT ps_risc_one qs_risc_one) (F_slices_Index_int_int : FT ps_slices_Index_int_int qs_slices_Index_int_int)  : FT ps_risc_Encode qs_risc_Encode := fun R x k => match x with
  | (x0Op, x0D, x0A, x0B, x0Fn, x0Wide, x0Part, x0Imm) => 
      F_risc_Check R (x0Op, x0D, x0A, x0B, x0Fn, x0Wide, x0Part, x0Imm) fun y =>
        br (W.not y) (k (0, 2))
          (br (W.eq x0Op 1)
            (F_risc_one R x0Wide fun y =>
              k
                (W.wrap IntKind.u32
                    (W.or IntKind.u32
                      (W.wrap IntKind.u32
                        (W.or IntKind.u32
                          (W.wrap IntKind.u32
                            (W.or IntKind.u32
                              (W.wrap IntKind.u32
                                (W.or IntKind.u32
                                  (W.wrap IntKind.u32
                                    (W.or IntKind.u32 (W.wrap IntKind.u32 (W.shl IntKind.u32 (W.wrap IntKind.u32 x0Op) 26))
                                      (W.wrap IntKind.u32 (W.shl IntKind.u32 (W.wrap IntKind.u32 (W.and IntKind.u32 (W.wrap IntKind.u32 x0D) 31)) 21))))
                                  (W.wrap IntKind.u32 (W.shl IntKind.u32 (W.wrap IntKind.u32 (W.and IntKind.u32 (W.wrap IntKind.u32 x0A) 31)) 16))))
                              (W.wrap IntKind.u32 (W.shl IntKind.u32 (W.wrap IntKind.u32 (W.and IntKind.u32 (W.wrap IntKind.u32 x0B) 31)) 11))))
                          (W.wrap IntKind.u32 (W.shl IntKind.u32 (W.wrap IntKind.u32 (W.and IntKind.u32 (W.wrap IntKind.u32 y) 1)) 10))))
                      (W.wrap IntKind.u32 (W.shl IntKind.u32 (W.wrap IntKind.u32 (W.and IntKind.u32 (W.wrap IntKind.u32 (W.wrap IntKind.i64 (W.quo x0Fn 16))) 15)) 6))),
                  0))
            (br (W.pick (W.eq x0Op 2) true (W.eq x0Op 3))
              (k
                (W.wrap IntKind.u32
                    (W.or IntKind.u32
                      (W.wrap IntKind.u32
                        (W.or IntKind.u32
                          (W.wrap IntKind.u32
                            (W.or IntKind.u32
                              (W.wrap IntKind.u32
                                (W.or IntKind.u32 (W.wrap IntKind.u32 (W.shl IntKind.u32 (W.wrap IntKind.u32 x0Op) 26))
                                  (W.wrap IntKind.u32 (W.shl IntKind.u32 (W.wrap IntKind.u32 (W.and IntKind.u32 (W.wrap IntKind.u32 x0D) 31)) 21))))
                              (W.wrap IntKind.u32 (W.shl IntKind.u32 (W.wrap IntKind.u32 (W.and IntKind.u32 (W.wrap IntKind.u32 x0Part) 3)) 19))))
                          0))
                      (W.wrap IntKind.u32 (W.shl IntKind.u32 (W.wrap IntKind.u32 (W.and IntKind.u32 (W.wrap IntKind.u32 x0Imm) 65535)) 0))),
                  0))
              (br (W.pick (W.ge x0Op 4) (W.lt x0Op 12) false)
                (k
                  (W.wrap IntKind.u32
                      (W.or IntKind.u32
                        (W.wrap IntKind.u32
                          (W.or IntKind.u32
                            (W.wrap IntKind.u32
                              (W.or IntKind.u32 (W.wrap IntKind.u32 (W.shl IntKind.u32 (W.wrap IntKind.u32 x0Op) 26))
                                (W.wrap IntKind.u32 (W.shl IntKind.u32 (W.wrap IntKind.u32 (W.and IntKind.u32 (W.wrap IntKind.u32 x0D) 31)) 21))))
                            (W.wrap IntKind.u32 (W.shl IntKind.u32 (W.wrap IntKind.u32 (W.and IntKind.u32 (W.wrap IntKind.u32 x0A) 31)) 16))))
                        (W.wrap IntKind.u32 (W.shl IntKind.u32 (W.wrap IntKind.u32 (W.and IntKind.u32 (W.wrap IntKind.u32 x0Imm) 65535)) 0))),
                    0))
                (br (W.pick (W.ge x0Op 12) (W.lt x0Op 20) false)
                  (k
                    (W.wrap IntKind.u32
                        (W.or IntKind.u32
                          (W.wrap IntKind.u32
                            (W.or IntKind.u32 (W.wrap IntKind.u32 (W.or IntKind.u32 (W.wrap IntKind.u32 (W.shl IntKind.u32 (W.wrap IntKind.u32 x0Op) 26)) 0))
                              (W.wrap IntKind.u32 (W.shl IntKind.u32 (W.wrap IntKind.u32 (W.and IntKind.u32 (W.wrap IntKind.u32 x0A) 31)) 16))))
                          (W.wrap IntKind.u32 (W.shl IntKind.u32 (W.wrap IntKind.u32 (W.and IntKind.u32 (W.wrap IntKind.u32 x0Imm) 65535)) 0))),
                      0))
                  (br (W.eq x0Op 20)
                    (F_slices_Index_int_int R ([16, 32, 48, 64, 80, 96, 112, 160, 176, 192, 208], x0Fn) fun y =>
                      F_risc_one R x0Wide fun y_1 =>
                        k
                          (W.wrap IntKind.u32
                              (W.or IntKind.u32
                                (W.wrap IntKind.u32
                                  (W.or IntKind.u32
                                    (W.wrap IntKind.u32
                                      (W.or IntKind.u32
                                        (W.wrap IntKind.u32
                                          (W.or IntKind.u32
                                            (W.wrap IntKind.u32
                                              (W.or IntKind.u32 (W.wrap IntKind.u32 (W.shl IntKind.u32 (W.wrap IntKind.u32 x0Op) 26))
                                                (W.wrap IntKind.u32 (W.shl IntKind.u32 (W.wrap IntKind.u32 (W.and IntKind.u32 (W.wrap IntKind.u32 x0A) 31)) 21))))
                                            (W.wrap IntKind.u32 (W.shl IntKind.u32 (W.wrap IntKind.u32 (W.and IntKind.u32 (W.wrap IntKind.u32 x0B) 31)) 16))))
                                        (W.wrap IntKind.u32 (W.shl IntKind.u32 (W.wrap IntKind.u32 (W.and IntKind.u32 (W.wrap IntKind.u32 y) 15)) 12))))
                                    (W.wrap IntKind.u32 (W.shl IntKind.u32 (W.wrap IntKind.u32 (W.and IntKind.u32 (W.wrap IntKind.u32 y_1) 1)) 11))))
                                (W.wrap IntKind.u32 (W.shl IntKind.u32 (W.wrap IntKind.u32 (W.and IntKind.u32 (W.wrap IntKind.u32 x0Imm) 2047)) 0))),
                            0))
                    (br (W.eq x0Op 21)
                      (k
                        (W.wrap IntKind.u32
                            (W.or IntKind.u32 (W.wrap IntKind.u32 (W.shl IntKind.u32 (W.wrap IntKind.u32 x0Op) 26))
                              (W.wrap IntKind.u32 (W.shl IntKind.u32 (W.wrap IntKind.u32 (W.and IntKind.u32 (W.wrap IntKind.u32 x0Imm) 67108863)) 0))),
                          0))
                      (br (W.eq x0Op 22)
                        (k
                          (W.wrap IntKind.u32
                              (W.or IntKind.u32 (W.wrap IntKind.u32 (W.shl IntKind.u32 (W.wrap IntKind.u32 x0Op) 26))
                                (W.wrap IntKind.u32 (W.shl IntKind.u32 (W.wrap IntKind.u32 (W.and IntKind.u32 (W.wrap IntKind.u32 x0Imm) 67108863)) 0))),
                            0))
                        (br (W.eq x0Op 24)
                          (k
                            (W.wrap IntKind.u32
                                (W.or IntKind.u32
                                  (W.wrap IntKind.u32
                                    (W.or IntKind.u32
                                      (W.wrap IntKind.u32
                                        (W.or IntKind.u32 (W.wrap IntKind.u32 (W.shl IntKind.u32 (W.wrap IntKind.u32 x0Op) 26))
                                          (W.wrap IntKind.u32 (W.shl IntKind.u32 (W.wrap IntKind.u32 (W.and IntKind.u32 (W.wrap IntKind.u32 x0D) 31)) 21))))
                                      0))
                                  (W.wrap IntKind.u32 (W.shl IntKind.u32 (W.wrap IntKind.u32 (W.and IntKind.u32 (W.wrap IntKind.u32 x0Imm) 65535)) 0))),
                              0))
                          (br (W.eq x0Op 25)
                            (k
                              (W.wrap IntKind.u32
                                  (W.or IntKind.u32
                                    (W.wrap IntKind.u32
                                      (W.or IntKind.u32
                                        (W.wrap IntKind.u32
                                          (W.or IntKind.u32 (W.wrap IntKind.u32 (W.shl IntKind.u32 (W.wrap IntKind.u32 x0Op) 26))
                                            (W.wrap IntKind.u32 (W.shl IntKind.u32 (W.wrap IntKind.u32 (W.and IntKind.u32 (W.wrap IntKind.u32 x0D) 31)) 21))))
                                        0))
                                    (W.wrap IntKind.u32 (W.shl IntKind.u32 (W.wrap IntKind.u32 (W.and IntKind.u32 (W.wrap IntKind.u32 x0Imm) 65535)) 0))),
                                0))
                            (br (W.eq x0Op 26)
                              (k
                                (W.wrap IntKind.u32
                                    (W.or IntKind.u32 (W.wrap IntKind.u32 (W.shl IntKind.u32 (W.wrap IntKind.u32 x0Op) 26))
                                      (W.wrap IntKind.u32 (W.shl IntKind.u32 (W.wrap IntKind.u32 (W.and IntKind.u32 (W.wrap IntKind.u32 x0D) 31)) 21))),
                                  0))
                              (br (W.eq x0Op 27)
                                (k
                                  (W.wrap IntKind.u32
                                      (W.or IntKind.u32 (W.wrap IntKind.u32 (W.shl IntKind.u32 (W.wrap IntKind.u32 x0Op) 26))
                                        (W.wrap IntKind.u32 (W.shl IntKind.u32 (W.wrap IntKind.u32 (W.and IntKind.u32 (W.wrap IntKind.u32 x0D) 31)) 21))),
                                    0))
                                (br (W.eq x0Op 23) (k (W.wrap IntKind.u32 (W.or IntKind.u32 (W.wrap IntKind.u32 (W.shl IntKind.u32 (W.wrap IntKind.u32 x0Op) 26)) 0), 0))
                                  (k (W.wrap IntKind.u32 (W.shl IntKind.u32 (W.wrap IntKind.u32 x0Op) 26), 0))))))))))))))
theorem S_risc_Encode {F_risc_Check : FT ps_risc_Check qs_risc_Check} {F_risc_one : FT ps_risc_one qs_risc_one} {F_slices_Index_int_int : FT ps_slices_Index_int_int qs_slices_Index_int_int} (h_risc_Check : SpecOk Tryd.prog 10 (mkS ps_risc_Check qs_risc_Check F_risc_Check)) (h_risc_one : SpecOk Tryd.prog 25 (mkS ps_risc_one qs_risc_one F_risc_one)) (h_slices_Index_int_int : SpecOk Tryd.prog 60 (mkS ps_slices_Index_int_int qs_slices_Index_int_int F_slices_Index_int_int)) : SpecOk Tryd.prog 8 (mkS ps_risc_Encode qs_risc_Encode (N_risc_Encode F_risc_Check F_risc_one F_slices_Index_int_int)) :=
  specOk_mk (fl := 22) (d := 12) (cfgOk_cons (cfgOk_cons (cfgOk_cons base h_slices_Index_int_int) h_risc_one) h_risc_Check) (by rintro R ⟨x0Op, x0D, x0A, x0B, x0Fn, x0Wide, x0Part, x0Imm⟩ k; kernel_rfl)
noncomputable def F_risc_Encode : FT ps_risc_Encode qs_risc_Encode := N_risc_Encode F_risc_Check F_risc_one F_slices_Index_int_int 
theorem ok_risc_Encode : SpecOk Tryd.prog 8 (mkS ps_risc_Encode qs_risc_Encode F_risc_Encode) := S_risc_Encode ok_risc_Check ok_risc_one ok_slices_Index_int_int
abbrev ps_clevisref23conds : List PT := []
abbrev qs_clevisref23conds : List PT := [.one (.slice (.int .i64))]
noncomputable def N_clevisref23conds   : FT ps_clevisref23conds qs_clevisref23conds := fun R x k => match x with
  | () => 
      k [16, 32, 48, 64, 80, 96, 112, 160, 176, 192, 208]
theorem S_clevisref23conds   : SpecOk Tryd.prog 29 (mkS ps_clevisref23conds qs_clevisref23conds (N_clevisref23conds )) :=
  specOk_mk (fl := 10) (d := 12) base (by intro R x k; kernel_rfl)
noncomputable def F_clevisref23conds : FT ps_clevisref23conds qs_clevisref23conds := N_clevisref23conds  
theorem ok_clevisref23conds : SpecOk Tryd.prog 29 (mkS ps_clevisref23conds qs_clevisref23conds F_clevisref23conds) := S_clevisref23conds 
abbrev ps_clevisref23number : List PT := [.one (.int .i64)]
abbrev qs_clevisref23number : List PT := [.one (.int .i64)]
noncomputable def PL_clevisref23number_3_0 (F_clevisref23conds : FT ps_clevisref23conds qs_clevisref23conds) (fl : Nat)  (R : Type) (k : PTs.D qs_clevisref23number → Option R) : LoopI R :=
  locate (Cw Tryd.prog [(29, mkS ps_clevisref23conds qs_clevisref23conds F_clevisref23conds)] noH) fl (call (Cw Tryd.prog [(29, mkS ps_clevisref23conds qs_clevisref23conds F_clevisref23conds)] noH) fl 11) 0 19 3 [] (getR qs_clevisref23number k)
noncomputable def P_clevisref23number_3_0 (F_clevisref23conds : FT ps_clevisref23conds qs_clevisref23conds) (fl : Nat)  (n : Nat) (R : Type) (y0 : Int) (y1 : List Int) (y2 : Int) (k : PTs.D qs_clevisref23number → Option R) : Option R :=
  loopH (PL_clevisref23number_3_0 F_clevisref23conds fl  R k).body (PL_clevisref23number_3_0 F_clevisref23conds fl  R k).head n (some (
      S.mk [V.int IntKind.i64 y0, V.any, V.any, V.ro false (Ty.int IntKind.i64) y1, V.int IntKind.i64 y2, V.any, V.any, V.any, V.any, V.any, V.any, V.any, V.any, V.any, V.any, V.any, V.any, V.any, V.any] []
        [])) (PL_clevisref23number_3_0 F_clevisref23conds fl  R k).kont
theorem P_clevisref23number_3_0_s {F_clevisref23conds : FT ps_clevisref23conds qs_clevisref23conds} (fl : Nat)  (n : Nat) (R : Type) (y0 : Int) (y1 : List Int) (y2 : Int) (k : PTs.D qs_clevisref23number → Option R) : P_clevisref23number_3_0 F_clevisref23conds fl  (n + 1) R y0 y1 y2 k =
      br (W.lt y2 (W.ofNat (W.len y1)))
        (br (W.and2 (W.le 0 y2) (W.lt y2 (W.ofNat (W.len y1)))) (br (W.eq (W.get y1 (W.toNat y2) 0) y0) (k y2) (P_clevisref23number_3_0 F_clevisref23conds fl n R y0 y1 (W.wrap IntKind.i64 (W.add y2 1)) k)) none) (k (-1)) := by kernel_rfl
noncomputable def N_clevisref23number (F_clevisref23conds : FT ps_clevisref23conds qs_clevisref23conds) (fl : Nat) : FT ps_clevisref23number qs_clevisref23number := fun R x k => match x with
  | x0 => 
      F_clevisref23conds R () fun y => P_clevisref23number_3_0 F_clevisref23conds fl fl R x0 y 0 k
theorem Q_clevisref23number {F_clevisref23conds : FT ps_clevisref23conds qs_clevisref23conds} (fl : Nat) (R : Type) (x : PTs.D ps_clevisref23number) (k : PTs.D qs_clevisref23number → Option R) : call (Cw Tryd.prog [(29, mkS ps_clevisref23conds qs_clevisref23conds F_clevisref23conds)] noH) fl 12 19 (encL true ps_clevisref23number x) [] (getR qs_clevisref23number k) = N_clevisref23number F_clevisref23conds fl R x k := by
  kernel_rfl
theorem S_clevisref23number {F_clevisref23conds : FT ps_clevisref23conds qs_clevisref23conds} (h_clevisref23conds : SpecOk Tryd.prog 29 (mkS ps_clevisref23conds qs_clevisref23conds F_clevisref23conds)) : SpecOk Tryd.prog 19 (mkS ps_clevisref23number qs_clevisref23number (N_clevisref23number F_clevisref23conds W.big)) :=
  specOk_mk (fl := W.big) (d := 12) (cfgOk_cons base h_clevisref23conds) (fun R x k => Q_clevisref23number W.big R x k)
noncomputable def F_clevisref23number : FT ps_clevisref23number qs_clevisref23number := N_clevisref23number F_clevisref23conds W.big
theorem ok_clevisref23number : SpecOk Tryd.prog 19 (mkS ps_clevisref23number qs_clevisref23number F_clevisref23number) := S_clevisref23number ok_clevisref23conds
abbrev ps_clevisref01neg : List PT := [.one (.int .u64), .one (.bool)]
abbrev qs_clevisref01neg : List PT := [.one (.bool)]
noncomputable def N_clevisref01neg   : FT ps_clevisref01neg qs_clevisref01neg := fun R x k => match x with
  | (x0, x1) => 
      br x1 (k (W.eq (W.shr IntKind.u64 x0 63) 1)) (k (W.eq (W.wrap IntKind.u64 (W.and IntKind.u64 (W.shr IntKind.u64 x0 31) 1)) 1))
theorem S_clevisref01neg   : SpecOk Tryd.prog 65 (mkS ps_clevisref01neg qs_clevisref01neg (N_clevisref01neg )) :=
  specOk_mk (fl := 10) (d := 12) base (by rintro R ⟨x0, x1⟩ k; kernel_rfl)
noncomputable def F_clevisref01neg : FT ps_clevisref01neg qs_clevisref01neg := N_clevisref01neg  
theorem ok_clevisref01neg : SpecOk Tryd.prog 65 (mkS ps_clevisref01neg qs_clevisref01neg F_clevisref01neg) := S_clevisref01neg 
abbrev ps_clevisref01shift : List PT := [.one (.int .i64), .one (.int .u64), .one (.int .i64), .one (.bool)]
abbrev qs_clevisref01shift : List PT := [.one (.int .u64)]
noncomputable def PL_clevisref01shift_7_0 (F_clevisref01neg : FT ps_clevisref01neg qs_clevisref01neg) (fl : Nat)  (R : Type) (k : PTs.D qs_clevisref01shift → Option R) : LoopI R :=
  locate (Cw Tryd.prog [(65, mkS ps_clevisref01neg qs_clevisref01neg F_clevisref01neg)] noH) fl (call (Cw Tryd.prog [(65, mkS ps_clevisref01neg qs_clevisref01neg F_clevisref01neg)] noH) fl 11) 0 41 7 [] (getR qs_clevisref01shift k)
noncomputable def P_clevisref01shift_7_0 (F_clevisref01neg : FT ps_clevisref01neg qs_clevisref01neg) (fl : Nat)  (n : Nat) (R : Type) (y0 : Int) (y1 : Int) (y2 : Int) (y3 : Int) (y4 : Int) (k : PTs.D qs_clevisref01shift → Option R) : Option R :=
  loopH (PL_clevisref01shift_7_0 F_clevisref01neg fl  R k).body (PL_clevisref01shift_7_0 F_clevisref01neg fl  R k).head n (some (
      S.mk
        [V.int IntKind.i64 y0, V.int IntKind.u64 y1, V.int IntKind.i64 y2, V.any, V.any, V.any, V.any, V.any, V.any, V.int IntKind.u64 y3, V.int IntKind.i64 y4, V.any, V.any, V.any, V.any, V.any, V.any,
          V.any, V.any, V.any, V.any, V.any, V.any, V.any, V.any, V.any, V.any, V.any, V.any, V.any, V.any, V.any, V.any]
        [] [])) (PL_clevisref01shift_7_0 F_clevisref01neg fl  R k).kont
theorem P_clevisref01shift_7_0_s {F_clevisref01neg : FT ps_clevisref01neg qs_clevisref01neg} (fl : Nat)  (n : Nat) (R : Type) (y0 : Int) (y1 : Int) (y2 : Int) (y3 : Int) (y4 : Int) (k : PTs.D qs_clevisref01shift → Option R) : P_clevisref01shift_7_0 F_clevisref01neg fl  (n + 1) R y0 y1 y2 y3 y4 k =
      br (W.lt y4 y2)
        (br (W.eq y0 96) (P_clevisref01shift_7_0 F_clevisref01neg fl n R y0 (W.wrap IntKind.u64 (W.mul y1 2)) y2 y3 (W.wrap IntKind.i64 (W.add y4 1)) k)
          (P_clevisref01shift_7_0 F_clevisref01neg fl n R y0 (W.wrap IntKind.u64 (W.or IntKind.u64 (W.wrap IntKind.u64 (W.quo y1 2)) y3)) y2 y3 (W.wrap IntKind.i64 (W.add y4 1)) k))
        (k y1) := by kernel_rfl
noncomputable def N_clevisref01shift (F_clevisref01neg : FT ps_clevisref01neg qs_clevisref01neg) (fl : Nat) : FT ps_clevisref01shift qs_clevisref01shift := fun R x k => match x with
  | (x0, x1, x2, x3) => 
      F_clevisref01neg R (x1, x3) fun y =>
        br (W.pick y (W.eq x0 192) false) (br x3 (P_clevisref01shift_7_0 F_clevisref01neg fl fl R x0 x1 x2 9223372036854775808 0 k) (P_clevisref01shift_7_0 F_clevisref01neg fl fl R x0 x1 x2 2147483648 0 k))
          (P_clevisref01shift_7_0 F_clevisref01neg fl fl R x0 x1 x2 0 0 k)
theorem Q_clevisref01shift {F_clevisref01neg : FT ps_clevisref01neg qs_clevisref01neg} (fl : Nat) (R : Type) (x : PTs.D ps_clevisref01shift) (k : PTs.D qs_clevisref01shift → Option R) : call (Cw Tryd.prog [(65, mkS ps_clevisref01neg qs_clevisref01neg F_clevisref01neg)] noH) fl 12 41 (encL true ps_clevisref01shift x) [] (getR qs_clevisref01shift k) = N_clevisref01shift F_clevisref01neg fl R x k := by
  obtain ⟨x0, x1, x2, x3⟩ := x; kernel_rfl
theorem S_clevisref01shift {F_clevisref01neg : FT ps_clevisref01neg qs_clevisref01neg} (h_clevisref01neg : SpecOk Tryd.prog 65 (mkS ps_clevisref01neg qs_clevisref01neg F_clevisref01neg)) : SpecOk Tryd.prog 41 (mkS ps_clevisref01shift qs_clevisref01shift (N_clevisref01shift F_clevisref01neg W.big)) :=
  specOk_mk (fl := W.big) (d := 12) (cfgOk_cons base h_clevisref01neg) (fun R x k => Q_clevisref01shift W.big R x k)
noncomputable def F_clevisref01shift : FT ps_clevisref01shift qs_clevisref01shift := N_clevisref01shift F_clevisref01neg W.big
theorem ok_clevisref01shift : SpecOk Tryd.prog 41 (mkS ps_clevisref01shift qs_clevisref01shift F_clevisref01shift) := S_clevisref01shift ok_clevisref01neg
abbrev ps_clevisref01Alu : List PT := [.one (.int .i64), .one (.int .u64), .one (.int .u64), .one (.bool)]
abbrev qs_clevisref01Alu : List PT := [.one (.int .u64), .one (.bool)]
noncomputable def N_clevisref01Alu (F_clevisref01shift : FT ps_clevisref01shift qs_clevisref01shift)  : FT ps_clevisref01Alu qs_clevisref01Alu := fun R x k => match x with
  | (x0, x1, x2, x3) => 
      br (W.not x3)
        (br (W.eq x0 0)
          (br (W.not x3)
            (k
              (W.wrap IntKind.u64 (W.and IntKind.u64 (W.wrap IntKind.u64 (W.add (W.wrap IntKind.u64 (W.and IntKind.u64 x1 4294967295)) (W.wrap IntKind.u64 (W.and IntKind.u64 x2 4294967295)))) 4294967295),
                true))
            (k (W.wrap IntKind.u64 (W.add (W.wrap IntKind.u64 (W.and IntKind.u64 x1 4294967295)) (W.wrap IntKind.u64 (W.and IntKind.u64 x2 4294967295))), true)))
          (br (W.eq x0 16)
            (br (W.not x3)
              (k
                (W.wrap IntKind.u64 (W.and IntKind.u64 (W.wrap IntKind.u64 (W.sub (W.wrap IntKind.u64 (W.and IntKind.u64 x1 4294967295)) (W.wrap IntKind.u64 (W.and IntKind.u64 x2 4294967295)))) 4294967295),
                  true))
              (k (W.wrap IntKind.u64 (W.sub (W.wrap IntKind.u64 (W.and IntKind.u64 x1 4294967295)) (W.wrap IntKind.u64 (W.and IntKind.u64 x2 4294967295))), true)))
            (br (W.eq x0 32)
              (br (W.not x3)
                (k
                  (W.wrap IntKind.u64
                      (W.and IntKind.u64 (W.wrap IntKind.u64 (W.mul (W.wrap IntKind.u64 (W.and IntKind.u64 x1 4294967295)) (W.wrap IntKind.u64 (W.and IntKind.u64 x2 4294967295)))) 4294967295),
                    true))
                (k (W.wrap IntKind.u64 (W.mul (W.wrap IntKind.u64 (W.and IntKind.u64 x1 4294967295)) (W.wrap IntKind.u64 (W.and IntKind.u64 x2 4294967295))), true)))
              (br (W.eq x0 48)
                (br (W.ne (W.wrap IntKind.u64 (W.and IntKind.u64 x2 4294967295)) 0)
                  (br (W.eq (W.wrap IntKind.u64 (W.and IntKind.u64 x2 4294967295)) 0) none
                    (br (W.not x3)
                      (k
                        (W.wrap IntKind.u64
                            (W.and IntKind.u64 (W.wrap IntKind.u64 (W.quo (W.wrap IntKind.u64 (W.and IntKind.u64 x1 4294967295)) (W.wrap IntKind.u64 (W.and IntKind.u64 x2 4294967295)))) 4294967295),
                          true))
                      (k (W.wrap IntKind.u64 (W.quo (W.wrap IntKind.u64 (W.and IntKind.u64 x1 4294967295)) (W.wrap IntKind.u64 (W.and IntKind.u64 x2 4294967295))), true))))
                  (br (W.not x3) (k (0, true)) (k (0, true))))
                (br (W.eq x0 144)
                  (br (W.ne (W.wrap IntKind.u64 (W.and IntKind.u64 x2 4294967295)) 0)
                    (br (W.eq (W.wrap IntKind.u64 (W.and IntKind.u64 x2 4294967295)) 0) none
                      (br (W.not x3)
                        (k (W.wrap IntKind.u64 (W.and IntKind.u64 (W.rem (W.wrap IntKind.u64 (W.and IntKind.u64 x1 4294967295)) (W.wrap IntKind.u64 (W.and IntKind.u64 x2 4294967295))) 4294967295), true))
                        (k (W.rem (W.wrap IntKind.u64 (W.and IntKind.u64 x1 4294967295)) (W.wrap IntKind.u64 (W.and IntKind.u64 x2 4294967295)), true))))
                    (br (W.not x3) (k (W.wrap IntKind.u64 (W.and IntKind.u64 (W.wrap IntKind.u64 (W.and IntKind.u64 x1 4294967295)) 4294967295), true))
                      (k (W.wrap IntKind.u64 (W.and IntKind.u64 x1 4294967295), true))))
                  (br (W.eq x0 64)
                    (br (W.not x3)
                      (k
                        (W.wrap IntKind.u64
                            (W.and IntKind.u64 (W.wrap IntKind.u64 (W.or IntKind.u64 (W.wrap IntKind.u64 (W.and IntKind.u64 x1 4294967295)) (W.wrap IntKind.u64 (W.and IntKind.u64 x2 4294967295))))
                              4294967295),
                          true))
                      (k (W.wrap IntKind.u64 (W.or IntKind.u64 (W.wrap IntKind.u64 (W.and IntKind.u64 x1 4294967295)) (W.wrap IntKind.u64 (W.and IntKind.u64 x2 4294967295))), true)))
                    (br (W.eq x0 80)
                      (br (W.not x3)
                        (k
                          (W.wrap IntKind.u64
                              (W.and IntKind.u64 (W.wrap IntKind.u64 (W.and IntKind.u64 (W.wrap IntKind.u64 (W.and IntKind.u64 x1 4294967295)) (W.wrap IntKind.u64 (W.and IntKind.u64 x2 4294967295))))
                                4294967295),
                            true))
                        (k (W.wrap IntKind.u64 (W.and IntKind.u64 (W.wrap IntKind.u64 (W.and IntKind.u64 x1 4294967295)) (W.wrap IntKind.u64 (W.and IntKind.u64 x2 4294967295))), true)))
                      (br (W.eq x0 160)
                        (br (W.not x3)
                          (k
                            (W.wrap IntKind.u64
                                (W.and IntKind.u64 (W.wrap IntKind.u64 (W.xor IntKind.u64 (W.wrap IntKind.u64 (W.and IntKind.u64 x1 4294967295)) (W.wrap IntKind.u64 (W.and IntKind.u64 x2 4294967295))))
                                  4294967295),
                              true))
                          (k (W.wrap IntKind.u64 (W.xor IntKind.u64 (W.wrap IntKind.u64 (W.and IntKind.u64 x1 4294967295)) (W.wrap IntKind.u64 (W.and IntKind.u64 x2 4294967295))), true)))
                        (br (W.eq x0 96)
                          (br (W.eq x0 96)
                            (F_clevisref01shift R (x0, W.wrap IntKind.u64 (W.and IntKind.u64 x1 4294967295), W.wrap IntKind.i64 (W.rem (W.wrap IntKind.u64 (W.and IntKind.u64 x2 4294967295)) 32), x3)
                              fun y => br (W.not x3) (k (W.wrap IntKind.u64 (W.and IntKind.u64 y 4294967295), true)) (k (y, true)))
                            (br (W.eq x0 128)
                              (br (W.not x3) (k (W.wrap IntKind.u64 (W.and IntKind.u64 (W.wrap IntKind.u64 (W.sub 0 (W.wrap IntKind.u64 (W.and IntKind.u64 x1 4294967295)))) 4294967295), true))
                                (k (W.wrap IntKind.u64 (W.sub 0 (W.wrap IntKind.u64 (W.and IntKind.u64 x1 4294967295))), true)))
                              (br (W.eq x0 176)
                                (br (W.not x3) (k (W.wrap IntKind.u64 (W.and IntKind.u64 (W.wrap IntKind.u64 (W.and IntKind.u64 x2 4294967295)) 4294967295), true))
                                  (k (W.wrap IntKind.u64 (W.and IntKind.u64 x2 4294967295), true)))
                                (k (0, false)))))
                          (br (W.eq x0 112)
                            (br (W.eq x0 112)
                              (F_clevisref01shift R (x0, W.wrap IntKind.u64 (W.and IntKind.u64 x1 4294967295), W.wrap IntKind.i64 (W.rem (W.wrap IntKind.u64 (W.and IntKind.u64 x2 4294967295)) 32), x3)
                                fun y => br (W.not x3) (k (W.wrap IntKind.u64 (W.and IntKind.u64 y 4294967295), true)) (k (y, true)))
                              (br (W.eq x0 128)
                                (br (W.not x3) (k (W.wrap IntKind.u64 (W.and IntKind.u64 (W.wrap IntKind.u64 (W.sub 0 (W.wrap IntKind.u64 (W.and IntKind.u64 x1 4294967295)))) 4294967295), true))
                                  (k (W.wrap IntKind.u64 (W.sub 0 (W.wrap IntKind.u64 (W.and IntKind.u64 x1 4294967295))), true)))
                                (br (W.eq x0 176)
                                  (br (W.not x3) (k (W.wrap IntKind.u64 (W.and IntKind.u64 (W.wrap IntKind.u64 (W.and IntKind.u64 x2 4294967295)) 4294967295), true))
                                    (k (W.wrap IntKind.u64 (W.and IntKind.u64 x2 4294967295), true)))
                                  (k (0, false)))))
                            (br (W.eq x0 192)
                              (F_clevisref01shift R (x0, W.wrap IntKind.u64 (W.and IntKind.u64 x1 4294967295), W.wrap IntKind.i64 (W.rem (W.wrap IntKind.u64 (W.and IntKind.u64 x2 4294967295)) 32), x3)
                                fun y => br (W.not x3) (k (W.wrap IntKind.u64 (W.and IntKind.u64 y 4294967295), true)) (k (y, true)))
                              (br (W.eq x0 128)
                                (br (W.not x3) (k (W.wrap IntKind.u64 (W.and IntKind.u64 (W.wrap IntKind.u64 (W.sub 0 (W.wrap IntKind.u64 (W.and IntKind.u64 x1 4294967295)))) 4294967295), true))
                                  (k (W.wrap IntKind.u64 (W.sub 0 (W.wrap IntKind.u64 (W.and IntKind.u64 x1 4294967295))), true)))
                                (br (W.eq x0 176)
                                  (br (W.not x3) (k (W.wrap IntKind.u64 (W.and IntKind.u64 (W.wrap IntKind.u64 (W.and IntKind.u64 x2 4294967295)) 4294967295), true))
                                    (k (W.wrap IntKind.u64 (W.and IntKind.u64 x2 4294967295), true)))
                                  (k (0, false)))))))))))))))
        (br (W.eq x0 0) (br (W.not x3) (k (W.wrap IntKind.u64 (W.and IntKind.u64 (W.wrap IntKind.u64 (W.add x1 x2)) 4294967295), true)) (k (W.wrap IntKind.u64 (W.add x1 x2), true)))
          (br (W.eq x0 16) (br (W.not x3) (k (W.wrap IntKind.u64 (W.and IntKind.u64 (W.wrap IntKind.u64 (W.sub x1 x2)) 4294967295), true)) (k (W.wrap IntKind.u64 (W.sub x1 x2), true)))
            (br (W.eq x0 32) (br (W.not x3) (k (W.wrap IntKind.u64 (W.and IntKind.u64 (W.wrap IntKind.u64 (W.mul x1 x2)) 4294967295), true)) (k (W.wrap IntKind.u64 (W.mul x1 x2), true)))
              (br (W.eq x0 48)
                (br (W.ne x2 0)
                  (br (W.eq x2 0) none (br (W.not x3) (k (W.wrap IntKind.u64 (W.and IntKind.u64 (W.wrap IntKind.u64 (W.quo x1 x2)) 4294967295), true)) (k (W.wrap IntKind.u64 (W.quo x1 x2), true))))
                  (br (W.not x3) (k (0, true)) (k (0, true))))
                (br (W.eq x0 144)
                  (br (W.ne x2 0) (br (W.eq x2 0) none (br (W.not x3) (k (W.wrap IntKind.u64 (W.and IntKind.u64 (W.rem x1 x2) 4294967295), true)) (k (W.rem x1 x2, true))))
                    (br (W.not x3) (k (W.wrap IntKind.u64 (W.and IntKind.u64 x1 4294967295), true)) (k (x1, true))))
                  (br (W.eq x0 64)
                    (br (W.not x3) (k (W.wrap IntKind.u64 (W.and IntKind.u64 (W.wrap IntKind.u64 (W.or IntKind.u64 x1 x2)) 4294967295), true)) (k (W.wrap IntKind.u64 (W.or IntKind.u64 x1 x2), true)))
                    (br (W.eq x0 80)
                      (br (W.not x3) (k (W.wrap IntKind.u64 (W.and IntKind.u64 (W.wrap IntKind.u64 (W.and IntKind.u64 x1 x2)) 4294967295), true)) (k (W.wrap IntKind.u64 (W.and IntKind.u64 x1 x2), true)))
                      (br (W.eq x0 160)
                        (br (W.not x3) (k (W.wrap IntKind.u64 (W.and IntKind.u64 (W.wrap IntKind.u64 (W.xor IntKind.u64 x1 x2)) 4294967295), true)) (k (W.wrap IntKind.u64 (W.xor IntKind.u64 x1 x2), true)))
                        (br (W.eq x0 96)
                          (br (W.eq x0 96)
                            (F_clevisref01shift R (x0, x1, W.wrap IntKind.i64 (W.rem x2 64), x3) fun y => br (W.not x3) (k (W.wrap IntKind.u64 (W.and IntKind.u64 y 4294967295), true)) (k (y, true)))
                            (br (W.eq x0 128) (br (W.not x3) (k (W.wrap IntKind.u64 (W.and IntKind.u64 (W.wrap IntKind.u64 (W.sub 0 x1)) 4294967295), true)) (k (W.wrap IntKind.u64 (W.sub 0 x1), true)))
                              (br (W.eq x0 176) (br (W.not x3) (k (W.wrap IntKind.u64 (W.and IntKind.u64 x2 4294967295), true)) (k (x2, true))) (k (0, false)))))
                          (br (W.eq x0 112)
                            (br (W.eq x0 112)
                              (F_clevisref01shift R (x0, x1, W.wrap IntKind.i64 (W.rem x2 64), x3) fun y => br (W.not x3) (k (W.wrap IntKind.u64 (W.and IntKind.u64 y 4294967295), true)) (k (y, true)))
                              (br (W.eq x0 128) (br (W.not x3) (k (W.wrap IntKind.u64 (W.and IntKind.u64 (W.wrap IntKind.u64 (W.sub 0 x1)) 4294967295), true)) (k (W.wrap IntKind.u64 (W.sub 0 x1), true)))
                                (br (W.eq x0 176) (br (W.not x3) (k (W.wrap IntKind.u64 (W.and IntKind.u64 x2 4294967295), true)) (k (x2, true))) (k (0, false)))))
                            (br (W.eq x0 192)
                              (F_clevisref01shift R (x0, x1, W.wrap IntKind.i64 (W.rem x2 64), x3) fun y => br (W.not x3) (k (W.wrap IntKind.u64 (W.and IntKind.u64 y 4294967295), true)) (k (y, true)))
                              (br (W.eq x0 128) (br (W.not x3) (k (W.wrap IntKind.u64 (W.and IntKind.u64 (W.wrap IntKind.u64 (W.sub 0 x1)) 4294967295), true)) (k (W.wrap IntKind.u64 (W.sub 0 x1), true)))
                                (br (W.eq x0 176) (br (W.not x3) (k (W.wrap IntKind.u64 (W.and IntKind.u64 x2 4294967295), true)) (k (x2, true))) (k (0, false)))))))))))))))
theorem S_clevisref01Alu {F_clevisref01shift : FT ps_clevisref01shift qs_clevisref01shift} (h_clevisref01shift : SpecOk Tryd.prog 41 (mkS ps_clevisref01shift qs_clevisref01shift F_clevisref01shift)) : SpecOk Tryd.prog 22 (mkS ps_clevisref01Alu qs_clevisref01Alu (N_clevisref01Alu F_clevisref01shift)) :=
  specOk_mk (fl := 10) (d := 12) (cfgOk_cons base h_clevisref01shift) (by rintro R ⟨x0, x1, x2, x3⟩ k; kernel_rfl)
noncomputable def F_clevisref01Alu : FT ps_clevisref01Alu qs_clevisref01Alu := N_clevisref01Alu F_clevisref01shift 
theorem ok_clevisref01Alu : SpecOk Tryd.prog 22 (mkS ps_clevisref01Alu qs_clevisref01Alu F_clevisref01Alu) := S_clevisref01Alu ok_clevisref01shift
abbrev ps_clevisref23within : List PT := [.one (.int .i64), .one (.int .i64), .one (.int .i64)]
abbrev qs_clevisref23within : List PT := [.one (.bool)]
noncomputable def N_clevisref23within   : FT ps_clevisref23within qs_clevisref23within := fun R x k => match x with
  | (x0, x1, x2) => 
      k (W.pick (W.ge x0 x1) (W.le x0 x2) false)
theorem S_clevisref23within   : SpecOk Tryd.prog 23 (mkS ps_clevisref23within qs_clevisref23within (N_clevisref23within )) :=
  specOk_mk (fl := 10) (d := 12) base (by rintro R ⟨x0, x1, x2⟩ k; kernel_rfl)
noncomputable def F_clevisref23within : FT ps_clevisref23within qs_clevisref23within := N_clevisref23within  
theorem ok_clevisref23within : SpecOk Tryd.prog 23 (mkS ps_clevisref23within qs_clevisref23within F_clevisref23within) := S_clevisref23within 
abbrev ps_clevisref23reg : List PT := [.one (.int .i64)]
abbrev qs_clevisref23reg : List PT := [.one (.bool)]
noncomputable def N_clevisref23reg (F_clevisref23within : FT ps_clevisref23within qs_clevisref23within)  : FT ps_clevisref23reg qs_clevisref23reg := fun R x k => match x with
  | x0 => 
      F_clevisref23within R (x0, 0, 31) fun y => k y
theorem S_clevisref23reg {F_clevisref23within : FT ps_clevisref23within qs_clevisref23within} (h_clevisref23within : SpecOk Tryd.prog 23 (mkS ps_clevisref23within qs_clevisref23within F_clevisref23within)) : SpecOk Tryd.prog 24 (mkS ps_clevisref23reg qs_clevisref23reg (N_clevisref23reg F_clevisref23within)) :=
  specOk_mk (fl := 10) (d := 12) (cfgOk_cons base h_clevisref23within) (by intro R x0 k; kernel_rfl)
noncomputable def F_clevisref23reg : FT ps_clevisref23reg qs_clevisref23reg := N_clevisref23reg F_clevisref23within 
theorem ok_clevisref23reg : SpecOk Tryd.prog 24 (mkS ps_clevisref23reg qs_clevisref23reg F_clevisref23reg) := S_clevisref23reg ok_clevisref23within
abbrev ps_clevisref23Check : List PT := [.agg ((.prod (.int .i64) (.prod (.int .i64) (.prod (.int .i64) (.prod (.int .i64) (.prod (.int .i64) (.prod (.bool) (.prod (.int .i64) (.int .i64)))))))))]
abbrev qs_clevisref23Check : List PT := [.one (.bool)]
noncomputable def N_clevisref23Check (F_clevisref23number : FT ps_clevisref23number qs_clevisref23number) (F_clevisref01Alu : FT ps_clevisref01Alu qs_clevisref01Alu) (F_clevisref23within : FT ps_clevisref23within qs_clevisref23within) (F_clevisref23reg : FT ps_clevisref23reg qs_clevisref23reg)  : FT ps_clevisref23Check qs_clevisref23Check := fun R x k => match x with
  | (x0Op, x0D, x0A, x0B, x0Fn, x0Wide, x0Part, x0Imm) => 
      br (W.eq x0Op 1)
        (F_clevisref01Alu R (x0Fn, 0, 0, true) fun y =>
          br
            (W.pick y.2
              (W.and2 (W.eq x0Op x0Op)
                (W.and2 (W.eq x0D x0D)
                  (W.and2 (W.eq x0A x0A) (W.and2 (W.eq x0B x0B) (W.and2 (W.eq x0Fn x0Fn) (W.and2 (W.eqB x0Wide x0Wide) (W.and2 (W.eq x0Part 0) (W.and2 (W.eq x0Imm 0) true))))))))
              false)
            (F_clevisref23reg R x0D fun y =>
              br (W.pick true y false) (F_clevisref23reg R x0A fun y => br (W.pick true y false) (F_clevisref23reg R x0B fun y => k (W.pick true y false)) (k false)) (k false))
            (k false))
        (br (W.pick (W.eq x0Op 2) true (W.eq x0Op 3))
          (F_clevisref23within R (x0Part, 0, 3) fun y =>
            br y
              (F_clevisref23within R (x0Imm, 0, 65535) fun y =>
                br
                  (W.pick (W.pick true y false)
                    (W.and2 (W.eq x0Op x0Op)
                      (W.and2 (W.eq x0D x0D)
                        (W.and2 (W.eq x0A 0) (W.and2 (W.eq x0B 0) (W.and2 (W.eq x0Fn 0) (W.and2 (W.eqB x0Wide false) (W.and2 (W.eq x0Part x0Part) (W.and2 (W.eq x0Imm x0Imm) true))))))))
                    false)
                  (F_clevisref23reg R x0D fun y =>
                    br (W.pick true y false) (F_clevisref23reg R x0A fun y => br (W.pick true y false) (F_clevisref23reg R x0B fun y => k (W.pick true y false)) (k false)) (k false))
                  (k false))
              (k false))
          (br (W.pick (W.ge x0Op 4) (W.lt x0Op 12) false)
            (F_clevisref23within R (x0Imm, -32768, 32767) fun y =>
              br
                (W.pick y
                  (W.and2 (W.eq x0Op x0Op)
                    (W.and2 (W.eq x0D x0D)
                      (W.and2 (W.eq x0A x0A) (W.and2 (W.eq x0B 0) (W.and2 (W.eq x0Fn 0) (W.and2 (W.eqB x0Wide false) (W.and2 (W.eq x0Part 0) (W.and2 (W.eq x0Imm x0Imm) true))))))))
                  false)
                (F_clevisref23reg R x0D fun y =>
                  br (W.pick true y false) (F_clevisref23reg R x0A fun y => br (W.pick true y false) (F_clevisref23reg R x0B fun y => k (W.pick true y false)) (k false)) (k false))
                (k false))
            (br (W.pick (W.ge x0Op 12) (W.lt x0Op 20) false)
              (F_clevisref23within R (x0Imm, -32768, 32767) fun y =>
                br
                  (W.pick y
                    (W.and2 (W.eq x0Op x0Op)
                      (W.and2 (W.eq x0D 0)
                        (W.and2 (W.eq x0A x0A) (W.and2 (W.eq x0B 0) (W.and2 (W.eq x0Fn 0) (W.and2 (W.eqB x0Wide false) (W.and2 (W.eq x0Part 0) (W.and2 (W.eq x0Imm x0Imm) true))))))))
                    false)
                  (F_clevisref23reg R x0D fun y =>
                    br (W.pick true y false) (F_clevisref23reg R x0A fun y => br (W.pick true y false) (F_clevisref23reg R x0B fun y => k (W.pick true y false)) (k false)) (k false))
                  (k false))
              (br (W.eq x0Op 20)
                (F_clevisref23number R x0Fn fun y =>
                  br (W.ge y 0)
                    (F_clevisref23within R (x0Imm, -1024, 1023) fun y =>
                      br
                        (W.pick (W.pick true y false)
                          (W.and2 (W.eq x0Op x0Op)
                            (W.and2 (W.eq x0D 0)
                              (W.and2 (W.eq x0A x0A) (W.and2 (W.eq x0B x0B) (W.and2 (W.eq x0Fn x0Fn) (W.and2 (W.eqB x0Wide x0Wide) (W.and2 (W.eq x0Part 0) (W.and2 (W.eq x0Imm x0Imm) true))))))))
                          false)
                        (F_clevisref23reg R x0D fun y =>
                          br (W.pick true y false) (F_clevisref23reg R x0A fun y => br (W.pick true y false) (F_clevisref23reg R x0B fun y => k (W.pick true y false)) (k false)) (k false))
                        (k false))
                    (k false))
                (br (W.eq x0Op 21)
                  (F_clevisref23within R (x0Imm, -33554432, 33554431) fun y =>
                    br
                      (W.pick y
                        (W.and2 (W.eq x0Op x0Op)
                          (W.and2 (W.eq x0D 0)
                            (W.and2 (W.eq x0A 0) (W.and2 (W.eq x0B 0) (W.and2 (W.eq x0Fn 0) (W.and2 (W.eqB x0Wide false) (W.and2 (W.eq x0Part 0) (W.and2 (W.eq x0Imm x0Imm) true))))))))
                        false)
                      (F_clevisref23reg R x0D fun y =>
                        br (W.pick true y false) (F_clevisref23reg R x0A fun y => br (W.pick true y false) (F_clevisref23reg R x0B fun y => k (W.pick true y false)) (k false)) (k false))
                      (k false))
                  (br (W.eq x0Op 22)
                    (F_clevisref23within R (x0Imm, 1, 5) fun y =>
                      br
                        (W.pick y
                          (W.and2 (W.eq x0Op x0Op)
                            (W.and2 (W.eq x0D 0)
                              (W.and2 (W.eq x0A 0) (W.and2 (W.eq x0B 0) (W.and2 (W.eq x0Fn 0) (W.and2 (W.eqB x0Wide false) (W.and2 (W.eq x0Part 0) (W.and2 (W.eq x0Imm x0Imm) true))))))))
                          false)
                        (F_clevisref23reg R x0D fun y =>
                          br (W.pick true y false) (F_clevisref23reg R x0A fun y => br (W.pick true y false) (F_clevisref23reg R x0B fun y => k (W.pick true y false)) (k false)) (k false))
                        (k false))
                    (br (W.eq x0Op 23)
                      (br
                        (W.pick true
                          (W.and2 (W.eq x0Op x0Op)
                            (W.and2 (W.eq x0D 0)
                              (W.and2 (W.eq x0A 0) (W.and2 (W.eq x0B 0) (W.and2 (W.eq x0Fn 0) (W.and2 (W.eqB x0Wide false) (W.and2 (W.eq x0Part 0) (W.and2 (W.eq x0Imm 0) true))))))))
                          false)
                        (F_clevisref23reg R x0D fun y =>
                          br (W.pick true y false) (F_clevisref23reg R x0A fun y => br (W.pick true y false) (F_clevisref23reg R x0B fun y => k (W.pick true y false)) (k false)) (k false))
                        (k false))
                      (br (W.pick (W.eq x0Op 24) true (W.eq x0Op 25))
                        (F_clevisref23within R (x0Imm, 0, 255) fun y =>
                          br
                            (W.pick y
                              (W.and2 (W.eq x0Op x0Op)
                                (W.and2 (W.eq x0D x0D)
                                  (W.and2 (W.eq x0A 0) (W.and2 (W.eq x0B 0) (W.and2 (W.eq x0Fn 0) (W.and2 (W.eqB x0Wide false) (W.and2 (W.eq x0Part 0) (W.and2 (W.eq x0Imm x0Imm) true))))))))
                              false)
                            (F_clevisref23reg R x0D fun y =>
                              br (W.pick true y false) (F_clevisref23reg R x0A fun y => br (W.pick true y false) (F_clevisref23reg R x0B fun y => k (W.pick true y false)) (k false)) (k false))
                            (k false))
                        (br (W.pick (W.eq x0Op 26) true (W.eq x0Op 27))
                          (br
                            (W.pick true
                              (W.and2 (W.eq x0Op x0Op)
                                (W.and2 (W.eq x0D x0D)
                                  (W.and2 (W.eq x0A 0) (W.and2 (W.eq x0B 0) (W.and2 (W.eq x0Fn 0) (W.and2 (W.eqB x0Wide false) (W.and2 (W.eq x0Part 0) (W.and2 (W.eq x0Imm 0) true))))))))
                              false)
                            (F_clevisref23reg R x0D fun y =>
                              br (W.pick true y false) (F_clevisref23reg R x0A fun y => br (W.pick true y false) (F_clevisref23reg R x0B fun y => k (W.pick true y false)) (k false)) (k false))
                            (k false))
                          (k false))))))))))
theorem S_clevisref23Check {F_clevisref23number : FT ps_clevisref23number qs_clevisref23number} {F_clevisref01Alu : FT ps_clevisref01Alu qs_clevisref01Alu} {F_clevisref23within : FT ps_clevisref23within qs_clevisref23within} {F_clevisref23reg : FT ps_clevisref23reg qs_clevisref23reg} (h_clevisref23number : SpecOk Tryd.prog 19 (mkS ps_clevisref23number qs_clevisref23number F_clevisref23number)) (h_clevisref01Alu : SpecOk Tryd.prog 22 (mkS ps_clevisref01Alu qs_clevisref01Alu F_clevisref01Alu)) (h_clevisref23within : SpecOk Tryd.prog 23 (mkS ps_clevisref23within qs_clevisref23within F_clevisref23within)) (h_clevisref23reg : SpecOk Tryd.prog 24 (mkS ps_clevisref23reg qs_clevisref23reg F_clevisref23reg)) : SpecOk Tryd.prog 11 (mkS ps_clevisref23Check qs_clevisref23Check (N_clevisref23Check F_clevisref23number F_clevisref01Alu F_clevisref23within F_clevisref23reg)) :=
  specOk_mk (fl := 10) (d := 12) (cfgOk_cons (cfgOk_cons (cfgOk_cons (cfgOk_cons base h_clevisref23reg) h_clevisref23within) h_clevisref01Alu) h_clevisref23number) (by rintro R ⟨x0Op, x0D, x0A, x0B, x0Fn, x0Wide, x0Part, x0Imm⟩ k; kernel_rfl)
noncomputable def F_clevisref23Check : FT ps_clevisref23Check qs_clevisref23Check := N_clevisref23Check F_clevisref23number F_clevisref01Alu F_clevisref23within F_clevisref23reg 
theorem ok_clevisref23Check : SpecOk Tryd.prog 11 (mkS ps_clevisref23Check qs_clevisref23Check F_clevisref23Check) := S_clevisref23Check ok_clevisref23number ok_clevisref01Alu ok_clevisref23within ok_clevisref23reg
abbrev ps_clevisref23bit : List PT := [.one (.bool)]
abbrev qs_clevisref23bit : List PT := [.one (.int .u32)]
noncomputable def N_clevisref23bit   : FT ps_clevisref23bit qs_clevisref23bit := fun R x k => match x with
  | x0 => 
      br x0 (k 1) (k 0)
theorem S_clevisref23bit   : SpecOk Tryd.prog 18 (mkS ps_clevisref23bit qs_clevisref23bit (N_clevisref23bit )) :=
  specOk_mk (fl := 10) (d := 12) base (by intro R x0 k; kernel_rfl)
noncomputable def F_clevisref23bit : FT ps_clevisref23bit qs_clevisref23bit := N_clevisref23bit  
theorem ok_clevisref23bit : SpecOk Tryd.prog 18 (mkS ps_clevisref23bit qs_clevisref23bit F_clevisref23bit) := S_clevisref23bit 
abbrev ps_clevisref23Encode : List PT := [.agg ((.prod (.int .i64) (.prod (.int .i64) (.prod (.int .i64) (.prod (.int .i64) (.prod (.int .i64) (.prod (.bool) (.prod (.int .i64) (.int .i64)))))))))]
abbrev qs_clevisref23Encode : List PT := [.one (.int .u32), .one (.int .i64)]
noncomputable def N_clevisref23Encode (F_clevisref23number : FT ps_clevisref23number qs_clevisref23number) (F_clevisref23Check : FT ps_clevisref23Check qs_clevisref23Check) (F_clevisref23bit : FT ps_clevisref23bit qs_clevisref23bit)  : FT ps_clevisref23Encode qs_clevisref23Encode := fun R x k => match x with
  | (x0Op, x0D, x0A, x0B, x0Fn, x0Wide, x0Part, x0Imm) => 
      F_clevisref23Check R (x0Op, x0D, x0A, x0B, x0Fn, x0Wide, x0Part, x0Imm) fun y =>
        br (W.not y) (k (0, 2))
          (br (W.eq x0Op 1)
            (F_clevisref23bit R x0Wide fun y =>
              k
                (W.wrap IntKind.u32
                    (W.or IntKind.u32
                      (W.wrap IntKind.u32
                        (W.or IntKind.u32
                          (W.wrap IntKind.u32
                            (W.or IntKind.u32
                              (W.wrap IntKind.u32
                                (W.or IntKind.u32
                                  (W.wrap IntKind.u32
                                    (W.or IntKind.u32 (W.wrap IntKind.u32 (W.shl IntKind.u32 (W.wrap IntKind.u32 x0Op) 26)) (W.wrap IntKind.u32 (W.shl IntKind.u32 (W.wrap IntKind.u32 x0D) 21))))
                                  (W.wrap IntKind.u32 (W.shl IntKind.u32 (W.wrap IntKind.u32 x0A) 16))))
                              (W.wrap IntKind.u32 (W.shl IntKind.u32 (W.wrap IntKind.u32 x0B) 11))))
                          (W.wrap IntKind.u32 (W.shl IntKind.u32 y 10))))
                      (W.wrap IntKind.u32 (W.shl IntKind.u32 (W.wrap IntKind.u32 (W.wrap IntKind.i64 (W.quo x0Fn 16))) 6))),
                  0))
            (br (W.pick (W.eq x0Op 2) true (W.eq x0Op 3))
              (k
                (W.wrap IntKind.u32
                    (W.or IntKind.u32
                      (W.wrap IntKind.u32
                        (W.or IntKind.u32
                          (W.wrap IntKind.u32
                            (W.or IntKind.u32
                              (W.wrap IntKind.u32
                                (W.or IntKind.u32
                                  (W.wrap IntKind.u32
                                    (W.or IntKind.u32 (W.wrap IntKind.u32 (W.shl IntKind.u32 (W.wrap IntKind.u32 x0Op) 26)) (W.wrap IntKind.u32 (W.shl IntKind.u32 (W.wrap IntKind.u32 x0D) 21))))
                                  (W.wrap IntKind.u32 (W.shl IntKind.u32 (W.wrap IntKind.u32 x0A) 16))))
                              (W.wrap IntKind.u32 (W.shl IntKind.u32 (W.wrap IntKind.u32 x0B) 11))))
                          (W.wrap IntKind.u32 (W.shl IntKind.u32 (W.wrap IntKind.u32 x0Part) 19))))
                      (W.wrap IntKind.u32 (W.and IntKind.u32 (W.wrap IntKind.u32 x0Imm) 65535))),
                  0))
              (br (W.eq x0Op 20)
                (F_clevisref23number R x0Fn fun y =>
                  F_clevisref23bit R x0Wide fun y_1 =>
                    k
                      (W.wrap IntKind.u32
                          (W.or IntKind.u32
                            (W.wrap IntKind.u32
                              (W.or IntKind.u32
                                (W.wrap IntKind.u32
                                  (W.or IntKind.u32
                                    (W.wrap IntKind.u32
                                      (W.or IntKind.u32
                                        (W.wrap IntKind.u32
                                          (W.or IntKind.u32 (W.wrap IntKind.u32 (W.shl IntKind.u32 (W.wrap IntKind.u32 x0Op) 26)) (W.wrap IntKind.u32 (W.shl IntKind.u32 (W.wrap IntKind.u32 x0A) 21))))
                                        (W.wrap IntKind.u32 (W.shl IntKind.u32 (W.wrap IntKind.u32 x0B) 16))))
                                    (W.wrap IntKind.u32 (W.shl IntKind.u32 (W.wrap IntKind.u32 y) 12))))
                                (W.wrap IntKind.u32 (W.shl IntKind.u32 y_1 11))))
                            (W.wrap IntKind.u32 (W.and IntKind.u32 (W.wrap IntKind.u32 x0Imm) 2047))),
                        0))
                (br (W.pick (W.eq x0Op 21) true (W.eq x0Op 22))
                  (k
                    (W.wrap IntKind.u32
                        (W.or IntKind.u32
                          (W.wrap IntKind.u32
                            (W.or IntKind.u32
                              (W.wrap IntKind.u32
                                (W.or IntKind.u32
                                  (W.wrap IntKind.u32
                                    (W.or IntKind.u32 (W.wrap IntKind.u32 (W.shl IntKind.u32 (W.wrap IntKind.u32 x0Op) 26)) (W.wrap IntKind.u32 (W.shl IntKind.u32 (W.wrap IntKind.u32 x0D) 21))))
                                  (W.wrap IntKind.u32 (W.shl IntKind.u32 (W.wrap IntKind.u32 x0A) 16))))
                              (W.wrap IntKind.u32 (W.shl IntKind.u32 (W.wrap IntKind.u32 x0B) 11))))
                          (W.wrap IntKind.u32 (W.and IntKind.u32 (W.wrap IntKind.u32 x0Imm) 67108863))),
                      0))
                  (k
                    (W.wrap IntKind.u32
                        (W.or IntKind.u32
                          (W.wrap IntKind.u32
                            (W.or IntKind.u32
                              (W.wrap IntKind.u32
                                (W.or IntKind.u32
                                  (W.wrap IntKind.u32
                                    (W.or IntKind.u32 (W.wrap IntKind.u32 (W.shl IntKind.u32 (W.wrap IntKind.u32 x0Op) 26)) (W.wrap IntKind.u32 (W.shl IntKind.u32 (W.wrap IntKind.u32 x0D) 21))))
                                  (W.wrap IntKind.u32 (W.shl IntKind.u32 (W.wrap IntKind.u32 x0A) 16))))
                              (W.wrap IntKind.u32 (W.shl IntKind.u32 (W.wrap IntKind.u32 x0B) 11))))
                          (W.wrap IntKind.u32 (W.and IntKind.u32 (W.wrap IntKind.u32 x0Imm) 65535))),
                      0))))))
theorem S_clevisref23Encode {F_clevisref23number : FT ps_clevisref23number qs_clevisref23number} {F_clevisref23Check : FT ps_clevisref23Check qs_clevisref23Check} {F_clevisref23bit : FT ps_clevisref23bit qs_clevisref23bit} (h_clevisref23number : SpecOk Tryd.prog 19 (mkS ps_clevisref23number qs_clevisref23number F_clevisref23number)) (h_clevisref23Check : SpecOk Tryd.prog 11 (mkS ps_clevisref23Check qs_clevisref23Check F_clevisref23Check)) (h_clevisref23bit : SpecOk Tryd.prog 18 (mkS ps_clevisref23bit qs_clevisref23bit F_clevisref23bit)) : SpecOk Tryd.prog 9 (mkS ps_clevisref23Encode qs_clevisref23Encode (N_clevisref23Encode F_clevisref23number F_clevisref23Check F_clevisref23bit)) :=
  specOk_mk (fl := 10) (d := 12) (cfgOk_cons (cfgOk_cons (cfgOk_cons base h_clevisref23bit) h_clevisref23Check) h_clevisref23number) (by rintro R ⟨x0Op, x0D, x0A, x0B, x0Fn, x0Wide, x0Part, x0Imm⟩ k; kernel_rfl)
noncomputable def F_clevisref23Encode : FT ps_clevisref23Encode qs_clevisref23Encode := N_clevisref23Encode F_clevisref23number F_clevisref23Check F_clevisref23bit 
theorem ok_clevisref23Encode : SpecOk Tryd.prog 9 (mkS ps_clevisref23Encode qs_clevisref23Encode F_clevisref23Encode) := S_clevisref23Encode ok_clevisref23number ok_clevisref23Check ok_clevisref23bit
abbrev ps_strconv_Itoa_26 : List PT := [.one (.int .i64)]
abbrev qs_strconv_Itoa_26 : List PT := [.one (.str)]
/-- strconv.Itoa: a number's decimal numeral. -/
noncomputable def F_strconv_Itoa_26 : FT ps_strconv_Itoa_26 qs_strconv_Itoa_26 := fun R x k => k (itoaS x)
theorem ok_strconv_Itoa_26 : SpecOk Tryd.prog 26 (mkS ps_strconv_Itoa_26 qs_strconv_Itoa_26 F_strconv_Itoa_26) := specOk_str (ps := ps_strconv_Itoa_26) (f := fun n => itoaS n) (fun _ => true) (fun n F w cargs _ hz hB ha => by
  obtain ⟨cv, m, hm, hv, hn⟩ := VRL.cons (show VRL _ _ [V.int .i64 n] cargs.toList from ha)
  have := VRL.nil hn; subst this
  have hca : cargs = #[cv] := Array.toList_inj.1 (by simpa using hm)
  simp only [VR] at hv
  obtain ⟨rfl, hw⟩ := hv
  have h64 : -9223372036854775808 ≤ n ∧ n ≤ 9223372036854775807 := by simpa [wfI, Lit.wf, IntKind.min, IntKind.max, IntKind.signed, IntKind.bits] using hw
  refine ⟨Nat.le_trans (itoaS_size n h64.1 h64.2) (by decide), ?_⟩
  rw [hca]
  refine (Any.strconv_Itoa Tryd.laysm171 n h64.1 h64.2 w (tab_of_base (g := 0) (by kernel_rfl) rfl hB)).mono ?_
  rintro e w' ⟨he, k, os, rfl⟩
  exact ⟨he, grow_below w k os⟩)
abbrev ps_strings_Join : List PT := [.one (.slice (.str)), .one (.str)]
abbrev qs_strings_Join : List PT := [.one (.str)]
/-- strings.Join. -/
noncomputable def F_strings_Join : FT ps_strings_Join qs_strings_Join := fun R x k => br (W.and2 (W.leN (W.len x.1) 140737488355328) (W.leN (W.size (joinS x.1 x.2)) 281474976710656)) (k (joinS x.1 x.2)) none
theorem ok_strings_Join : SpecOk Tryd.prog 27 (mkS ps_strings_Join qs_strings_Join F_strings_Join) := specOk_str (ps := ps_strings_Join) (f := fun x => joinS x.1 x.2) (fun x => W.and2 (W.leN (W.len x.1) 140737488355328) (W.leN (W.size (joinS x.1 x.2)) 281474976710656)) (fun x F w cargs hc hz hB ha => by
  obtain ⟨(xs : List ByteArray), (sep : ByteArray)⟩ := x
  simp only [W.and2_t, W.leN_t, W.size] at hc
  obtain ⟨hc1, hc2⟩ := hc
  have hc1 : xs.length ≤ 140737488355328 := hc1
  obtain ⟨cv, m, hm, hv, hn⟩ := VRL.cons (show VRL _ _ [V.ro true .str xs, V.str sep] cargs.toList from ha)
  obtain ⟨cv2, m2, rfl, hv2, hn2⟩ := VRL.cons hn
  have := VRL.nil hn2; subst this
  have hca : cargs = #[cv, cv2] := Array.toList_inj.1 (by simpa using hm)
  simp only [VR] at hv2
  obtain ⟨rfl, _⟩ := hv2
  simp only [VR, TR] at hv
  obtain ⟨a, cap, hcv, h1, h2, h3⟩ := hv
  simp only [List.cons.injEq, and_true] at hcv
  subst hcv
  have hlen : (Lib.join (xs.map (·.data.toList)) sep.data.toList).length ≤ 281474976710656 := by
    have : (joinS xs sep).size ≤ 281474976710656 := hc2
    simpa [joinS, ByteArray.size] using this
  refine ⟨Nat.le_trans hc2 (by decide), ?_⟩
  rw [hca]
  rcases Nat.eq_zero_or_pos xs.length with h0 | h0
  · have hx0 : xs = [] := List.length_eq_zero_iff.1 h0
    subst hx0
    refine (Any.strings_Join_none Tryd.lays156 Tryd.extra156 a cap sep w).mono ?_
    rintro e w' ⟨rfl, rfl⟩
    exact ⟨rfl, RowKit.Below.refl _ _⟩
  · obtain ⟨g, off, rfl, h4⟩ := h3 h0
    have hcell : ∀ (j : Nat) y, xs[j]? = some y → w.cell? ⟨g, off + j, none⟩ = some (.string y) := by
      intro j y hy
      obtain ⟨hj, rfl⟩ := List.getElem?_eq_some_iff.1 hy
      obtain ⟨ds, h5, h6⟩ := h4 j hj
      try simp only [TR] at h5
      obtain ⟨rfl, _⟩ := h5
      have h7 := h6 0 _ rfl
      simpa [lend, snap, Ty.size] using h7
    have hbk : g < w.heap.size := by
      have := hcell 0 _ (List.getElem?_eq_getElem h0)
      refine Classical.byContradiction fun hn => ?_
      have e : w.heap[g]? = none := Array.getElem?_eq_none (by omega)
      simp [World.cell?, e] at this
    exact Any.strings_Join_48 Tryd.lays156 Tryd.extra156 g off cap xs sep w hcell hbk hc1 h1 hlen)
abbrev ps_risc_Text : List PT := [.agg ((.prod (.int .i64) (.prod (.int .i64) (.prod (.int .i64) (.prod (.int .i64) (.prod (.int .i64) (.prod (.bool) (.prod (.int .i64) (.int .i64)))))))))]
abbrev qs_risc_Text : List PT := [.one (.str)]
noncomputable def N_risc_Text (F_risc_one : FT ps_risc_one qs_risc_one) (F_strconv_Itoa_26 : FT ps_strconv_Itoa_26 qs_strconv_Itoa_26) (F_strings_Join : FT ps_strings_Join qs_strings_Join)  : FT ps_risc_Text qs_risc_Text := fun R x k => match x with
  | (x0Op, x0D, x0A, x0B, x0Fn, x0Wide, x0Part, x0Imm) => 
      F_risc_one R x0Wide fun y =>
        F_strconv_Itoa_26 R (W.get [x0Op, x0D, x0A, x0B, x0Fn, y, x0Part, x0Imm] 0 0) fun y_1 =>
          br (W.leN (W.mulN 1 16) 140737488355328)
            (F_strconv_Itoa_26 R (W.get [x0Op, x0D, x0A, x0B, x0Fn, y, x0Part, x0Imm] 1 0) fun y_2 =>
              br (W.leN (W.mulN 2 16) 140737488355328)
                (F_strconv_Itoa_26 R (W.get [x0Op, x0D, x0A, x0B, x0Fn, y, x0Part, x0Imm] 2 0) fun y_3 =>
                  br (W.leN (W.mulN 3 16) 140737488355328)
                    (F_strconv_Itoa_26 R (W.get [x0Op, x0D, x0A, x0B, x0Fn, y, x0Part, x0Imm] 3 0) fun y_4 =>
                      br (W.leN (W.mulN 4 16) 140737488355328)
                        (F_strconv_Itoa_26 R (W.get [x0Op, x0D, x0A, x0B, x0Fn, y, x0Part, x0Imm] 4 0) fun y_5 =>
                          br (W.leN (W.mulN 5 16) 140737488355328)
                            (F_strconv_Itoa_26 R (W.get [x0Op, x0D, x0A, x0B, x0Fn, y, x0Part, x0Imm] 5 0) fun y_6 =>
                              br (W.leN (W.mulN 6 16) 140737488355328)
                                (F_strconv_Itoa_26 R (W.get [x0Op, x0D, x0A, x0B, x0Fn, y, x0Part, x0Imm] 6 0) fun y_7 =>
                                  br (W.leN (W.mulN 7 16) 140737488355328)
                                    (F_strconv_Itoa_26 R (W.get [x0Op, x0D, x0A, x0B, x0Fn, y, x0Part, x0Imm] 7 0) fun y =>
                                      br (W.leN (W.mulN 8 16) 140737488355328)
                                        (F_strings_Join R
                                          (W.app (W.app (W.app (W.app (W.app (W.app (W.app [y_1] [y_2]) [y_3]) [y_4]) [y_5]) [y_6]) [y_7]) [y],
                                            ByteArray.mk (Array.mk [UInt8.ofBitVec (BitVec.ofFin (Fin.mk 32 (Nat.mod_lt 32 (BitVec.ofNat._proof_1 8))))]))
                                          fun y => k y)
                                        none)
                                    none)
                                none)
                            none)
                        none)
                    none)
                none)
            none
theorem S_risc_Text {F_risc_one : FT ps_risc_one qs_risc_one} {F_strconv_Itoa_26 : FT ps_strconv_Itoa_26 qs_strconv_Itoa_26} {F_strings_Join : FT ps_strings_Join qs_strings_Join} (h_risc_one : SpecOk Tryd.prog 25 (mkS ps_risc_one qs_risc_one F_risc_one)) (h_strconv_Itoa_26 : SpecOk Tryd.prog 26 (mkS ps_strconv_Itoa_26 qs_strconv_Itoa_26 F_strconv_Itoa_26)) (h_strings_Join : SpecOk Tryd.prog 27 (mkS ps_strings_Join qs_strings_Join F_strings_Join)) : SpecOk Tryd.prog 12 (mkS ps_risc_Text qs_risc_Text (N_risc_Text F_risc_one F_strconv_Itoa_26 F_strings_Join)) :=
  specOk_mk (fl := 22) (d := 12) (cfgOk_cons (cfgOk_cons (cfgOk_cons base h_strings_Join) h_strconv_Itoa_26) h_risc_one) (by rintro R ⟨x0Op, x0D, x0A, x0B, x0Fn, x0Wide, x0Part, x0Imm⟩ k; kernel_rfl)
noncomputable def F_risc_Text : FT ps_risc_Text qs_risc_Text := N_risc_Text F_risc_one F_strconv_Itoa_26 F_strings_Join 
theorem ok_risc_Text : SpecOk Tryd.prog 12 (mkS ps_risc_Text qs_risc_Text F_risc_Text) := S_risc_Text ok_risc_one ok_strconv_Itoa_26 ok_strings_Join
abbrev ps_clevisref23Text : List PT := [.agg ((.prod (.int .i64) (.prod (.int .i64) (.prod (.int .i64) (.prod (.int .i64) (.prod (.int .i64) (.prod (.bool) (.prod (.int .i64) (.int .i64)))))))))]
abbrev qs_clevisref23Text : List PT := [.one (.str)]
noncomputable def N_clevisref23Text (F_clevisref23bit : FT ps_clevisref23bit qs_clevisref23bit) (F_strconv_Itoa_26 : FT ps_strconv_Itoa_26 qs_strconv_Itoa_26)  : FT ps_clevisref23Text qs_clevisref23Text := fun R x k => match x with
  | (x0Op, x0D, x0A, x0B, x0Fn, x0Wide, x0Part, x0Imm) => 
      F_clevisref23bit R x0Wide fun y =>
        F_strconv_Itoa_26 R (W.get [x0Op, x0D, x0A, x0B, x0Fn, W.wrap IntKind.i64 y, x0Part, x0Imm] 0 0) fun y_1 =>
          br (W.leN (W.addN 0 (W.size y_1)) 140737488355328)
            (br (W.leN (W.addN (W.size (W.cat (ByteArray.mk (Array.mk [])) y_1)) 1) 140737488355328)
              (F_strconv_Itoa_26 R (W.get [x0Op, x0D, x0A, x0B, x0Fn, W.wrap IntKind.i64 y, x0Part, x0Imm] 1 0) fun y_2 =>
                br
                  (W.leN
                    (W.addN (W.size (W.cat (W.cat (ByteArray.mk (Array.mk [])) y_1) (ByteArray.mk (Array.mk [UInt8.ofBitVec (BitVec.ofFin (Fin.mk 32 (Nat.mod_lt 32 (BitVec.ofNat._proof_1 8))))]))))
                      (W.size y_2))
                    140737488355328)
                  (br
                    (W.leN
                      (W.addN
                        (W.size (W.cat (W.cat (W.cat (ByteArray.mk (Array.mk [])) y_1) (ByteArray.mk (Array.mk [UInt8.ofBitVec (BitVec.ofFin (Fin.mk 32 (Nat.mod_lt 32 (BitVec.ofNat._proof_1 8))))]))) y_2))
                        1)
                      140737488355328)
                    (F_strconv_Itoa_26 R (W.get [x0Op, x0D, x0A, x0B, x0Fn, W.wrap IntKind.i64 y, x0Part, x0Imm] 2 0) fun y_3 =>
                      br
                        (W.leN
                          (W.addN
                            (W.size
                              (W.cat
                                (W.cat (W.cat (W.cat (ByteArray.mk (Array.mk [])) y_1) (ByteArray.mk (Array.mk [UInt8.ofBitVec (BitVec.ofFin (Fin.mk 32 (Nat.mod_lt 32 (BitVec.ofNat._proof_1 8))))]))) y_2)
                                (ByteArray.mk (Array.mk [UInt8.ofBitVec (BitVec.ofFin (Fin.mk 32 (Nat.mod_lt 32 (BitVec.ofNat._proof_1 8))))]))))
                            (W.size y_3))
                          140737488355328)
                        (br
                          (W.leN
                            (W.addN
                              (W.size
                                (W.cat
                                  (W.cat
                                    (W.cat (W.cat (W.cat (ByteArray.mk (Array.mk [])) y_1) (ByteArray.mk (Array.mk [UInt8.ofBitVec (BitVec.ofFin (Fin.mk 32 (Nat.mod_lt 32 (BitVec.ofNat._proof_1 8))))])))
                                      y_2)
                                    (ByteArray.mk (Array.mk [UInt8.ofBitVec (BitVec.ofFin (Fin.mk 32 (Nat.mod_lt 32 (BitVec.ofNat._proof_1 8))))])))
                                  y_3))
                              1)
                            140737488355328)
                          (F_strconv_Itoa_26 R (W.get [x0Op, x0D, x0A, x0B, x0Fn, W.wrap IntKind.i64 y, x0Part, x0Imm] 3 0) fun y_4 =>
                            br
                              (W.leN
                                (W.addN
                                  (W.size
                                    (W.cat
                                      (W.cat
                                        (W.cat
                                          (W.cat
                                            (W.cat (W.cat (ByteArray.mk (Array.mk [])) y_1) (ByteArray.mk (Array.mk [UInt8.ofBitVec (BitVec.ofFin (Fin.mk 32 (Nat.mod_lt 32 (BitVec.ofNat._proof_1 8))))])))
                                            y_2)
                                          (ByteArray.mk (Array.mk [UInt8.ofBitVec (BitVec.ofFin (Fin.mk 32 (Nat.mod_lt 32 (BitVec.ofNat._proof_1 8))))])))
                                        y_3)
                                      (ByteArray.mk (Array.mk [UInt8.ofBitVec (BitVec.ofFin (Fin.mk 32 (Nat.mod_lt 32 (BitVec.ofNat._proof_1 8))))]))))
                                  (W.size y_4))
                                140737488355328)
                              (br
                                (W.leN
                                  (W.addN
                                    (W.size
                                      (W.cat
                                        (W.cat
                                          (W.cat
                                            (W.cat
                                              (W.cat
                                                (W.cat (W.cat (ByteArray.mk (Array.mk [])) y_1)
                                                  (ByteArray.mk (Array.mk [UInt8.ofBitVec (BitVec.ofFin (Fin.mk 32 (Nat.mod_lt 32 (BitVec.ofNat._proof_1 8))))])))
                                                y_2)
                                              (ByteArray.mk (Array.mk [UInt8.ofBitVec (BitVec.ofFin (Fin.mk 32 (Nat.mod_lt 32 (BitVec.ofNat._proof_1 8))))])))
                                            y_3)
                                          (ByteArray.mk (Array.mk [UInt8.ofBitVec (BitVec.ofFin (Fin.mk 32 (Nat.mod_lt 32 (BitVec.ofNat._proof_1 8))))])))
                                        y_4))
                                    1)
                                  140737488355328)
                                (F_strconv_Itoa_26 R (W.get [x0Op, x0D, x0A, x0B, x0Fn, W.wrap IntKind.i64 y, x0Part, x0Imm] 4 0) fun y_5 =>
                                  br
                                    (W.leN
                                      (W.addN
                                        (W.size
                                          (W.cat
                                            (W.cat
                                              (W.cat
                                                (W.cat
                                                  (W.cat
                                                    (W.cat
                                                      (W.cat (W.cat (ByteArray.mk (Array.mk [])) y_1)
                                                        (ByteArray.mk (Array.mk [UInt8.ofBitVec (BitVec.ofFin (Fin.mk 32 (Nat.mod_lt 32 (BitVec.ofNat._proof_1 8))))])))
                                                      y_2)
                                                    (ByteArray.mk (Array.mk [UInt8.ofBitVec (BitVec.ofFin (Fin.mk 32 (Nat.mod_lt 32 (BitVec.ofNat._proof_1 8))))])))
                                                  y_3)
                                                (ByteArray.mk (Array.mk [UInt8.ofBitVec (BitVec.ofFin (Fin.mk 32 (Nat.mod_lt 32 (BitVec.ofNat._proof_1 8))))])))
                                              y_4)
                                            (ByteArray.mk (Array.mk [UInt8.ofBitVec (BitVec.ofFin (Fin.mk 32 (Nat.mod_lt 32 (BitVec.ofNat._proof_1 8))))]))))
                                        (W.size y_5))
                                      140737488355328)
                                    (br
                                      (W.leN
                                        (W.addN
                                          (W.size
                                            (W.cat
                                              (W.cat
                                                (W.cat
                                                  (W.cat
                                                    (W.cat
                                                      (W.cat
                                                        (W.cat
                                                          (W.cat (W.cat (ByteArray.mk (Array.mk [])) y_1)
                                                            (ByteArray.mk (Array.mk [UInt8.ofBitVec (BitVec.ofFin (Fin.mk 32 (Nat.mod_lt 32 (BitVec.ofNat._proof_1 8))))])))
                                                          y_2)
                                                        (ByteArray.mk (Array.mk [UInt8.ofBitVec (BitVec.ofFin (Fin.mk 32 (Nat.mod_lt 32 (BitVec.ofNat._proof_1 8))))])))
                                                      y_3)
                                                    (ByteArray.mk (Array.mk [UInt8.ofBitVec (BitVec.ofFin (Fin.mk 32 (Nat.mod_lt 32 (BitVec.ofNat._proof_1 8))))])))
                                                  y_4)
                                                (ByteArray.mk (Array.mk [UInt8.ofBitVec (BitVec.ofFin (Fin.mk 32 (Nat.mod_lt 32 (BitVec.ofNat._proof_1 8))))])))
                                              y_5))
                                          1)
                                        140737488355328)
                                      (F_strconv_Itoa_26 R (W.get [x0Op, x0D, x0A, x0B, x0Fn, W.wrap IntKind.i64 y, x0Part, x0Imm] 5 0) fun y_6 =>
                                        br
                                          (W.leN
                                            (W.addN
                                              (W.size
                                                (W.cat
                                                  (W.cat
                                                    (W.cat
                                                      (W.cat
                                                        (W.cat
                                                          (W.cat
                                                            (W.cat
                                                              (W.cat
                                                                (W.cat (W.cat (ByteArray.mk (Array.mk [])) y_1)
                                                                  (ByteArray.mk (Array.mk [UInt8.ofBitVec (BitVec.ofFin (Fin.mk 32 (Nat.mod_lt 32 (BitVec.ofNat._proof_1 8))))])))
                                                                y_2)
                                                              (ByteArray.mk (Array.mk [UInt8.ofBitVec (BitVec.ofFin (Fin.mk 32 (Nat.mod_lt 32 (BitVec.ofNat._proof_1 8))))])))
                                                            y_3)
                                                          (ByteArray.mk (Array.mk [UInt8.ofBitVec (BitVec.ofFin (Fin.mk 32 (Nat.mod_lt 32 (BitVec.ofNat._proof_1 8))))])))
                                                        y_4)
                                                      (ByteArray.mk (Array.mk [UInt8.ofBitVec (BitVec.ofFin (Fin.mk 32 (Nat.mod_lt 32 (BitVec.ofNat._proof_1 8))))])))
                                                    y_5)
                                                  (ByteArray.mk (Array.mk [UInt8.ofBitVec (BitVec.ofFin (Fin.mk 32 (Nat.mod_lt 32 (BitVec.ofNat._proof_1 8))))]))))
                                              (W.size y_6))
                                            140737488355328)
                                          (br
                                            (W.leN
                                              (W.addN
                                                (W.size
                                                  (W.cat
                                                    (W.cat
                                                      (W.cat
                                                        (W.cat
                                                          (W.cat
                                                            (W.cat
                                                              (W.cat
                                                                (W.cat
                                                                  (W.cat
                                                                    (W.cat (W.cat (ByteArray.mk (Array.mk [])) y_1)
                                                                      (ByteArray.mk (Array.mk [UInt8.ofBitVec (BitVec.ofFin (Fin.mk 32 (Nat.mod_lt 32 (BitVec.ofNat._proof_1 8))))])))
                                                                    y_2)
                                                                  (ByteArray.mk (Array.mk [UInt8.ofBitVec (BitVec.ofFin (Fin.mk 32 (Nat.mod_lt 32 (BitVec.ofNat._proof_1 8))))])))
                                                                y_3)
                                                              (ByteArray.mk (Array.mk [UInt8.ofBitVec (BitVec.ofFin (Fin.mk 32 (Nat.mod_lt 32 (BitVec.ofNat._proof_1 8))))])))
                                                            y_4)
                                                          (ByteArray.mk (Array.mk [UInt8.ofBitVec (BitVec.ofFin (Fin.mk 32 (Nat.mod_lt 32 (BitVec.ofNat._proof_1 8))))])))
                                                        y_5)
                                                      (ByteArray.mk (Array.mk [UInt8.ofBitVec (BitVec.ofFin (Fin.mk 32 (Nat.mod_lt 32 (BitVec.ofNat._proof_1 8))))])))
                                                    y_6))
                                                1)
                                              140737488355328)
                                            (F_strconv_Itoa_26 R (W.get [x0Op, x0D, x0A, x0B, x0Fn, W.wrap IntKind.i64 y, x0Part, x0Imm] 6 0) fun y_7 =>
                                              br
                                                (W.leN
                                                  (W.addN
                                                    (W.size
                                                      (W.cat
                                                        (W.cat
                                                          (W.cat
                                                            (W.cat
                                                              (W.cat
                                                                (W.cat
                                                                  (W.cat
                                                                    (W.cat
                                                                      (W.cat
                                                                        (W.cat
                                                                          (W.cat (W.cat (ByteArray.mk (Array.mk [])) y_1)
                                                                            (ByteArray.mk (Array.mk [UInt8.ofBitVec (BitVec.ofFin (Fin.mk 32 (Nat.mod_lt 32 (BitVec.ofNat._proof_1 8))))])))
                                                                          y_2)
                                                                        (ByteArray.mk (Array.mk [UInt8.ofBitVec (BitVec.ofFin (Fin.mk 32 (Nat.mod_lt 32 (BitVec.ofNat._proof_1 8))))])))
                                                                      y_3)
                                                                    (ByteArray.mk (Array.mk [UInt8.ofBitVec (BitVec.ofFin (Fin.mk 32 (Nat.mod_lt 32 (BitVec.ofNat._proof_1 8))))])))
                                                                  y_4)
                                                                (ByteArray.mk (Array.mk [UInt8.ofBitVec (BitVec.ofFin (Fin.mk 32 (Nat.mod_lt 32 (BitVec.ofNat._proof_1 8))))])))
                                                              y_5)
                                                            (ByteArray.mk (Array.mk [UInt8.ofBitVec (BitVec.ofFin (Fin.mk 32 (Nat.mod_lt 32 (BitVec.ofNat._proof_1 8))))])))
                                                          y_6)
                                                        (ByteArray.mk (Array.mk [UInt8.ofBitVec (BitVec.ofFin (Fin.mk 32 (Nat.mod_lt 32 (BitVec.ofNat._proof_1 8))))]))))
                                                    (W.size y_7))
                                                  140737488355328)
                                                (br
                                                  (W.leN
                                                    (W.addN
                                                      (W.size
                                                        (W.cat
                                                          (W.cat
                                                            (W.cat
                                                              (W.cat
                                                                (W.cat
                                                                  (W.cat
                                                                    (W.cat
                                                                      (W.cat
                                                                        (W.cat
                                                                          (W.cat
                                                                            (W.cat
                                                                              (W.cat (W.cat (ByteArray.mk (Array.mk [])) y_1)
                                                                                (ByteArray.mk (Array.mk [UInt8.ofBitVec (BitVec.ofFin (Fin.mk 32 (Nat.mod_lt 32 (BitVec.ofNat._proof_1 8))))])))
                                                                              y_2)
                                                                            (ByteArray.mk (Array.mk [UInt8.ofBitVec (BitVec.ofFin (Fin.mk 32 (Nat.mod_lt 32 (BitVec.ofNat._proof_1 8))))])))
                                                                          y_3)
                                                                        (ByteArray.mk (Array.mk [UInt8.ofBitVec (BitVec.ofFin (Fin.mk 32 (Nat.mod_lt 32 (BitVec.ofNat._proof_1 8))))])))
                                                                      y_4)
                                                                    (ByteArray.mk (Array.mk [UInt8.ofBitVec (BitVec.ofFin (Fin.mk 32 (Nat.mod_lt 32 (BitVec.ofNat._proof_1 8))))])))
                                                                  y_5)
                                                                (ByteArray.mk (Array.mk [UInt8.ofBitVec (BitVec.ofFin (Fin.mk 32 (Nat.mod_lt 32 (BitVec.ofNat._proof_1 8))))])))
                                                              y_6)
                                                            (ByteArray.mk (Array.mk [UInt8.ofBitVec (BitVec.ofFin (Fin.mk 32 (Nat.mod_lt 32 (BitVec.ofNat._proof_1 8))))])))
                                                          y_7))
                                                      1)
                                                    140737488355328)
                                                  (F_strconv_Itoa_26 R (W.get [x0Op, x0D, x0A, x0B, x0Fn, W.wrap IntKind.i64 y, x0Part, x0Imm] 7 0) fun y =>
                                                    br
                                                      (W.leN
                                                        (W.addN
                                                          (W.size
                                                            (W.cat
                                                              (W.cat
                                                                (W.cat
                                                                  (W.cat
                                                                    (W.cat
                                                                      (W.cat
                                                                        (W.cat
                                                                          (W.cat
                                                                            (W.cat
                                                                              (W.cat
                                                                                (W.cat
                                                                                  (W.cat
                                                                                    (W.cat (W.cat (ByteArray.mk (Array.mk [])) y_1)
                                                                                      (ByteArray.mk (Array.mk [UInt8.ofBitVec (BitVec.ofFin (Fin.mk 32 (Nat.mod_lt 32 (BitVec.ofNat._proof_1 8))))])))
                                                                                    y_2)
                                                                                  (ByteArray.mk (Array.mk [UInt8.ofBitVec (BitVec.ofFin (Fin.mk 32 (Nat.mod_lt 32 (BitVec.ofNat._proof_1 8))))])))
                                                                                y_3)
                                                                              (ByteArray.mk (Array.mk [UInt8.ofBitVec (BitVec.ofFin (Fin.mk 32 (Nat.mod_lt 32 (BitVec.ofNat._proof_1 8))))])))
                                                                            y_4)
                                                                          (ByteArray.mk (Array.mk [UInt8.ofBitVec (BitVec.ofFin (Fin.mk 32 (Nat.mod_lt 32 (BitVec.ofNat._proof_1 8))))])))
                                                                        y_5)
                                                                      (ByteArray.mk (Array.mk [UInt8.ofBitVec (BitVec.ofFin (Fin.mk 32 (Nat.mod_lt 32 (BitVec.ofNat._proof_1 8))))])))
                                                                    y_6)
                                                                  (ByteArray.mk (Array.mk [UInt8.ofBitVec (BitVec.ofFin (Fin.mk 32 (Nat.mod_lt 32 (BitVec.ofNat._proof_1 8))))])))
                                                                y_7)
                                                              (ByteArray.mk (Array.mk [UInt8.ofBitVec (BitVec.ofFin (Fin.mk 32 (Nat.mod_lt 32 (BitVec.ofNat._proof_1 8))))]))))
                                                          (W.size y))
                                                        140737488355328)
                                                      (k
                                                        (W.cat
                                                          (W.cat
                                                            (W.cat
                                                              (W.cat
                                                                (W.cat
                                                                  (W.cat
                                                                    (W.cat
                                                                      (W.cat
                                                                        (W.cat
                                                                          (W.cat
                                                                            (W.cat
                                                                              (W.cat
                                                                                (W.cat
                                                                                  (W.cat (W.cat (ByteArray.mk (Array.mk [])) y_1)
                                                                                    (ByteArray.mk (Array.mk [UInt8.ofBitVec (BitVec.ofFin (Fin.mk 32 (Nat.mod_lt 32 (BitVec.ofNat._proof_1 8))))])))
                                                                                  y_2)
                                                                                (ByteArray.mk (Array.mk [UInt8.ofBitVec (BitVec.ofFin (Fin.mk 32 (Nat.mod_lt 32 (BitVec.ofNat._proof_1 8))))])))
                                                                              y_3)
                                                                            (ByteArray.mk (Array.mk [UInt8.ofBitVec (BitVec.ofFin (Fin.mk 32 (Nat.mod_lt 32 (BitVec.ofNat._proof_1 8))))])))
                                                                          y_4)
                                                                        (ByteArray.mk (Array.mk [UInt8.ofBitVec (BitVec.ofFin (Fin.mk 32 (Nat.mod_lt 32 (BitVec.ofNat._proof_1 8))))])))
                                                                      y_5)
                                                                    (ByteArray.mk (Array.mk [UInt8.ofBitVec (BitVec.ofFin (Fin.mk 32 (Nat.mod_lt 32 (BitVec.ofNat._proof_1 8))))])))
                                                                  y_6)
                                                                (ByteArray.mk (Array.mk [UInt8.ofBitVec (BitVec.ofFin (Fin.mk 32 (Nat.mod_lt 32 (BitVec.ofNat._proof_1 8))))])))
                                                              y_7)
                                                            (ByteArray.mk (Array.mk [UInt8.ofBitVec (BitVec.ofFin (Fin.mk 32 (Nat.mod_lt 32 (BitVec.ofNat._proof_1 8))))])))
                                                          y))
                                                      none)
                                                  none)
                                                none)
                                            none)
                                          none)
                                      none)
                                    none)
                                none)
                              none)
                          none)
                        none)
                    none)
                  none)
              none)
            none
theorem S_clevisref23Text {F_clevisref23bit : FT ps_clevisref23bit qs_clevisref23bit} {F_strconv_Itoa_26 : FT ps_strconv_Itoa_26 qs_strconv_Itoa_26} (h_clevisref23bit : SpecOk Tryd.prog 18 (mkS ps_clevisref23bit qs_clevisref23bit F_clevisref23bit)) (h_strconv_Itoa_26 : SpecOk Tryd.prog 26 (mkS ps_strconv_Itoa_26 qs_strconv_Itoa_26 F_strconv_Itoa_26)) : SpecOk Tryd.prog 13 (mkS ps_clevisref23Text qs_clevisref23Text (N_clevisref23Text F_clevisref23bit F_strconv_Itoa_26)) :=
  specOk_mk (fl := 22) (d := 12) (cfgOk_cons (cfgOk_cons base h_strconv_Itoa_26) h_clevisref23bit) (by rintro R ⟨x0Op, x0D, x0A, x0B, x0Fn, x0Wide, x0Part, x0Imm⟩ k; kernel_rfl)
noncomputable def F_clevisref23Text : FT ps_clevisref23Text qs_clevisref23Text := N_clevisref23Text F_clevisref23bit F_strconv_Itoa_26 
theorem ok_clevisref23Text : SpecOk Tryd.prog 13 (mkS ps_clevisref23Text qs_clevisref23Text F_clevisref23Text) := S_clevisref23Text ok_clevisref23bit ok_strconv_Itoa_26
abbrev ps_risc_Decode : List PT := [.one (.int .u32)]
abbrev qs_risc_Decode : List PT := [.agg ((.prod (.int .i64) (.prod (.int .i64) (.prod (.int .i64) (.prod (.int .i64) (.prod (.int .i64) (.prod (.bool) (.prod (.int .i64) (.int .i64))))))))), .one (.int .i64)]
noncomputable def N_risc_Decode (F_risc_Encode : FT ps_risc_Encode qs_risc_Encode) (F_risc_one : FT ps_risc_one qs_risc_one) (F_slices_Index_int_int : FT ps_slices_Index_int_int qs_slices_Index_int_int)  : FT ps_risc_Decode qs_risc_Decode := fun R x k => match x with
  | x0 => 
      br (W.eq (W.wrap IntKind.i64 (W.shr IntKind.u32 x0 26)) 1)
        (F_risc_Encode R
          (W.wrap IntKind.i64 (W.shr IntKind.u32 x0 26), W.wrap IntKind.i64 (W.wrap IntKind.u32 (W.and IntKind.u32 (W.shr IntKind.u32 x0 21) 31)),
            W.wrap IntKind.i64 (W.wrap IntKind.u32 (W.and IntKind.u32 (W.shr IntKind.u32 x0 16) 31)), W.wrap IntKind.i64 (W.wrap IntKind.u32 (W.and IntKind.u32 (W.shr IntKind.u32 x0 11) 31)),
            W.wrap IntKind.i64 (W.mul 16 (W.wrap IntKind.i64 (W.wrap IntKind.u32 (W.and IntKind.u32 (W.shr IntKind.u32 x0 6) 15)))),
            W.gt (W.wrap IntKind.i64 (W.wrap IntKind.u32 (W.and IntKind.u32 (W.shr IntKind.u32 x0 10) 1))) 0, 0, 0)
          fun y =>
          br (W.pick (W.ne y.2 0) true (W.ne y.1 x0)) (k ((0, 0, 0, 0, 0, false, 0, 0), 230))
            (k
              ((W.wrap IntKind.i64 (W.shr IntKind.u32 x0 26), W.wrap IntKind.i64 (W.wrap IntKind.u32 (W.and IntKind.u32 (W.shr IntKind.u32 x0 21) 31)),
                  W.wrap IntKind.i64 (W.wrap IntKind.u32 (W.and IntKind.u32 (W.shr IntKind.u32 x0 16) 31)), W.wrap IntKind.i64 (W.wrap IntKind.u32 (W.and IntKind.u32 (W.shr IntKind.u32 x0 11) 31)),
                  W.wrap IntKind.i64 (W.mul 16 (W.wrap IntKind.i64 (W.wrap IntKind.u32 (W.and IntKind.u32 (W.shr IntKind.u32 x0 6) 15)))),
                  W.gt (W.wrap IntKind.i64 (W.wrap IntKind.u32 (W.and IntKind.u32 (W.shr IntKind.u32 x0 10) 1))) 0, 0, 0),
                0)))
        (br (W.pick (W.eq (W.wrap IntKind.i64 (W.shr IntKind.u32 x0 26)) 2) true (W.eq (W.wrap IntKind.i64 (W.shr IntKind.u32 x0 26)) 3))
          (F_risc_Encode R
            (W.wrap IntKind.i64 (W.shr IntKind.u32 x0 26), W.wrap IntKind.i64 (W.wrap IntKind.u32 (W.and IntKind.u32 (W.shr IntKind.u32 x0 21) 31)), 0, 0, 0, false,
              W.wrap IntKind.i64 (W.wrap IntKind.u32 (W.and IntKind.u32 (W.shr IntKind.u32 x0 19) 3)), W.wrap IntKind.i64 (W.wrap IntKind.u32 (W.and IntKind.u32 (W.shr IntKind.u32 x0 0) 65535)))
            fun y =>
            br (W.pick (W.ne y.2 0) true (W.ne y.1 x0)) (k ((0, 0, 0, 0, 0, false, 0, 0), 230))
              (k
                ((W.wrap IntKind.i64 (W.shr IntKind.u32 x0 26), W.wrap IntKind.i64 (W.wrap IntKind.u32 (W.and IntKind.u32 (W.shr IntKind.u32 x0 21) 31)), 0, 0, 0, false,
                    W.wrap IntKind.i64 (W.wrap IntKind.u32 (W.and IntKind.u32 (W.shr IntKind.u32 x0 19) 3)), W.wrap IntKind.i64 (W.wrap IntKind.u32 (W.and IntKind.u32 (W.shr IntKind.u32 x0 0) 65535))),
                  0)))
          (br (W.pick (W.ge (W.wrap IntKind.i64 (W.shr IntKind.u32 x0 26)) 4) (W.lt (W.wrap IntKind.i64 (W.shr IntKind.u32 x0 26)) 12) false)
            (br (W.ge (W.wrap IntKind.i64 (W.wrap IntKind.u32 (W.and IntKind.u32 (W.shr IntKind.u32 x0 0) 65535))) 32768)
              (F_risc_Encode R
                (W.wrap IntKind.i64 (W.shr IntKind.u32 x0 26), W.wrap IntKind.i64 (W.wrap IntKind.u32 (W.and IntKind.u32 (W.shr IntKind.u32 x0 21) 31)),
                  W.wrap IntKind.i64 (W.wrap IntKind.u32 (W.and IntKind.u32 (W.shr IntKind.u32 x0 16) 31)), 0, 0, false, 0,
                  W.wrap IntKind.i64 (W.sub (W.wrap IntKind.i64 (W.wrap IntKind.u32 (W.and IntKind.u32 (W.shr IntKind.u32 x0 0) 65535))) 65536))
                fun y =>
                br (W.pick (W.ne y.2 0) true (W.ne y.1 x0)) (k ((0, 0, 0, 0, 0, false, 0, 0), 230))
                  (k
                    ((W.wrap IntKind.i64 (W.shr IntKind.u32 x0 26), W.wrap IntKind.i64 (W.wrap IntKind.u32 (W.and IntKind.u32 (W.shr IntKind.u32 x0 21) 31)),
                        W.wrap IntKind.i64 (W.wrap IntKind.u32 (W.and IntKind.u32 (W.shr IntKind.u32 x0 16) 31)), 0, 0, false, 0,
                        W.wrap IntKind.i64 (W.sub (W.wrap IntKind.i64 (W.wrap IntKind.u32 (W.and IntKind.u32 (W.shr IntKind.u32 x0 0) 65535))) 65536)),
                      0)))
              (F_risc_Encode R
                (W.wrap IntKind.i64 (W.shr IntKind.u32 x0 26), W.wrap IntKind.i64 (W.wrap IntKind.u32 (W.and IntKind.u32 (W.shr IntKind.u32 x0 21) 31)),
                  W.wrap IntKind.i64 (W.wrap IntKind.u32 (W.and IntKind.u32 (W.shr IntKind.u32 x0 16) 31)), 0, 0, false, 0,
                  W.wrap IntKind.i64 (W.wrap IntKind.u32 (W.and IntKind.u32 (W.shr IntKind.u32 x0 0) 65535)))
                fun y =>
                br (W.pick (W.ne y.2 0) true (W.ne y.1 x0)) (k ((0, 0, 0, 0, 0, false, 0, 0), 230))
                  (k
                    ((W.wrap IntKind.i64 (W.shr IntKind.u32 x0 26), W.wrap IntKind.i64 (W.wrap IntKind.u32 (W.and IntKind.u32 (W.shr IntKind.u32 x0 21) 31)),
                        W.wrap IntKind.i64 (W.wrap IntKind.u32 (W.and IntKind.u32 (W.shr IntKind.u32 x0 16) 31)), 0, 0, false, 0,
                        W.wrap IntKind.i64 (W.wrap IntKind.u32 (W.and IntKind.u32 (W.shr IntKind.u32 x0 0) 65535))),
                      0))))
            (br (W.pick (W.ge (W.wrap IntKind.i64 (W.shr IntKind.u32 x0 26)) 12) (W.lt (W.wrap IntKind.i64 (W.shr IntKind.u32 x0 26)) 20) false)
              (br (W.ge (W.wrap IntKind.i64 (W.wrap IntKind.u32 (W.and IntKind.u32 (W.shr IntKind.u32 x0 0) 65535))) 32768)
                (F_risc_Encode R
                  (W.wrap IntKind.i64 (W.shr IntKind.u32 x0 26), 0, W.wrap IntKind.i64 (W.wrap IntKind.u32 (W.and IntKind.u32 (W.shr IntKind.u32 x0 16) 31)), 0, 0, false, 0,
                    W.wrap IntKind.i64 (W.sub (W.wrap IntKind.i64 (W.wrap IntKind.u32 (W.and IntKind.u32 (W.shr IntKind.u32 x0 0) 65535))) 65536))
                  fun y =>
                  br (W.pick (W.ne y.2 0) true (W.ne y.1 x0)) (k ((0, 0, 0, 0, 0, false, 0, 0), 230))
                    (k
                      ((W.wrap IntKind.i64 (W.shr IntKind.u32 x0 26), 0, W.wrap IntKind.i64 (W.wrap IntKind.u32 (W.and IntKind.u32 (W.shr IntKind.u32 x0 16) 31)), 0, 0, false, 0,
                          W.wrap IntKind.i64 (W.sub (W.wrap IntKind.i64 (W.wrap IntKind.u32 (W.and IntKind.u32 (W.shr IntKind.u32 x0 0) 65535))) 65536)),
                        0)))
                (F_risc_Encode R
                  (W.wrap IntKind.i64 (W.shr IntKind.u32 x0 26), 0, W.wrap IntKind.i64 (W.wrap IntKind.u32 (W.and IntKind.u32 (W.shr IntKind.u32 x0 16) 31)), 0, 0, false, 0,
                    W.wrap IntKind.i64 (W.wrap IntKind.u32 (W.and IntKind.u32 (W.shr IntKind.u32 x0 0) 65535)))
                  fun y =>
                  br (W.pick (W.ne y.2 0) true (W.ne y.1 x0)) (k ((0, 0, 0, 0, 0, false, 0, 0), 230))
                    (k
                      ((W.wrap IntKind.i64 (W.shr IntKind.u32 x0 26), 0, W.wrap IntKind.i64 (W.wrap IntKind.u32 (W.and IntKind.u32 (W.shr IntKind.u32 x0 16) 31)), 0, 0, false, 0,
                          W.wrap IntKind.i64 (W.wrap IntKind.u32 (W.and IntKind.u32 (W.shr IntKind.u32 x0 0) 65535))),
                        0))))
              (br (W.eq (W.wrap IntKind.i64 (W.shr IntKind.u32 x0 26)) 20)
                (br (W.lt (W.wrap IntKind.i64 (W.wrap IntKind.u32 (W.and IntKind.u32 (W.shr IntKind.u32 x0 12) 15))) 11)
                  (br
                    (W.and2 (W.le 0 (W.wrap IntKind.i64 (W.wrap IntKind.u32 (W.and IntKind.u32 (W.shr IntKind.u32 x0 12) 15))))
                      (W.lt (W.wrap IntKind.i64 (W.wrap IntKind.u32 (W.and IntKind.u32 (W.shr IntKind.u32 x0 12) 15))) 11))
                    (br (W.ge (W.wrap IntKind.i64 (W.wrap IntKind.u32 (W.and IntKind.u32 (W.shr IntKind.u32 x0 0) 2047))) 1024)
                      (F_risc_Encode R
                        (W.wrap IntKind.i64 (W.shr IntKind.u32 x0 26), 0, W.wrap IntKind.i64 (W.wrap IntKind.u32 (W.and IntKind.u32 (W.shr IntKind.u32 x0 21) 31)),
                          W.wrap IntKind.i64 (W.wrap IntKind.u32 (W.and IntKind.u32 (W.shr IntKind.u32 x0 16) 31)),
                          W.get [16, 32, 48, 64, 80, 96, 112, 160, 176, 192, 208] (W.toNat (W.wrap IntKind.i64 (W.wrap IntKind.u32 (W.and IntKind.u32 (W.shr IntKind.u32 x0 12) 15)))) 0,
                          W.gt (W.wrap IntKind.i64 (W.wrap IntKind.u32 (W.and IntKind.u32 (W.shr IntKind.u32 x0 11) 1))) 0, 0,
                          W.wrap IntKind.i64 (W.sub (W.wrap IntKind.i64 (W.wrap IntKind.u32 (W.and IntKind.u32 (W.shr IntKind.u32 x0 0) 2047))) 2048))
                        fun y =>
                        br (W.pick (W.ne y.2 0) true (W.ne y.1 x0)) (k ((0, 0, 0, 0, 0, false, 0, 0), 230))
                          (k
                            ((W.wrap IntKind.i64 (W.shr IntKind.u32 x0 26), 0, W.wrap IntKind.i64 (W.wrap IntKind.u32 (W.and IntKind.u32 (W.shr IntKind.u32 x0 21) 31)),
                                W.wrap IntKind.i64 (W.wrap IntKind.u32 (W.and IntKind.u32 (W.shr IntKind.u32 x0 16) 31)),
                                W.get [16, 32, 48, 64, 80, 96, 112, 160, 176, 192, 208] (W.toNat (W.wrap IntKind.i64 (W.wrap IntKind.u32 (W.and IntKind.u32 (W.shr IntKind.u32 x0 12) 15)))) 0,
                                W.gt (W.wrap IntKind.i64 (W.wrap IntKind.u32 (W.and IntKind.u32 (W.shr IntKind.u32 x0 11) 1))) 0, 0,
                                W.wrap IntKind.i64 (W.sub (W.wrap IntKind.i64 (W.wrap IntKind.u32 (W.and IntKind.u32 (W.shr IntKind.u32 x0 0) 2047))) 2048)),
                              0)))
                      (F_risc_Encode R
                        (W.wrap IntKind.i64 (W.shr IntKind.u32 x0 26), 0, W.wrap IntKind.i64 (W.wrap IntKind.u32 (W.and IntKind.u32 (W.shr IntKind.u32 x0 21) 31)),
                          W.wrap IntKind.i64 (W.wrap IntKind.u32 (W.and IntKind.u32 (W.shr IntKind.u32 x0 16) 31)),
                          W.get [16, 32, 48, 64, 80, 96, 112, 160, 176, 192, 208] (W.toNat (W.wrap IntKind.i64 (W.wrap IntKind.u32 (W.and IntKind.u32 (W.shr IntKind.u32 x0 12) 15)))) 0,
                          W.gt (W.wrap IntKind.i64 (W.wrap IntKind.u32 (W.and IntKind.u32 (W.shr IntKind.u32 x0 11) 1))) 0, 0,
                          W.wrap IntKind.i64 (W.wrap IntKind.u32 (W.and IntKind.u32 (W.shr IntKind.u32 x0 0) 2047)))
                        fun y =>
                        br (W.pick (W.ne y.2 0) true (W.ne y.1 x0)) (k ((0, 0, 0, 0, 0, false, 0, 0), 230))
                          (k
                            ((W.wrap IntKind.i64 (W.shr IntKind.u32 x0 26), 0, W.wrap IntKind.i64 (W.wrap IntKind.u32 (W.and IntKind.u32 (W.shr IntKind.u32 x0 21) 31)),
                                W.wrap IntKind.i64 (W.wrap IntKind.u32 (W.and IntKind.u32 (W.shr IntKind.u32 x0 16) 31)),
                                W.get [16, 32, 48, 64, 80, 96, 112, 160, 176, 192, 208] (W.toNat (W.wrap IntKind.i64 (W.wrap IntKind.u32 (W.and IntKind.u32 (W.shr IntKind.u32 x0 12) 15)))) 0,
                                W.gt (W.wrap IntKind.i64 (W.wrap IntKind.u32 (W.and IntKind.u32 (W.shr IntKind.u32 x0 11) 1))) 0, 0,
                                W.wrap IntKind.i64 (W.wrap IntKind.u32 (W.and IntKind.u32 (W.shr IntKind.u32 x0 0) 2047))),
                              0))))
                    none)
                  (br (W.ge (W.wrap IntKind.i64 (W.wrap IntKind.u32 (W.and IntKind.u32 (W.shr IntKind.u32 x0 0) 2047))) 1024)
                    (F_risc_Encode R
                      (W.wrap IntKind.i64 (W.shr IntKind.u32 x0 26), 0, W.wrap IntKind.i64 (W.wrap IntKind.u32 (W.and IntKind.u32 (W.shr IntKind.u32 x0 21) 31)),
                        W.wrap IntKind.i64 (W.wrap IntKind.u32 (W.and IntKind.u32 (W.shr IntKind.u32 x0 16) 31)), -1,
                        W.gt (W.wrap IntKind.i64 (W.wrap IntKind.u32 (W.and IntKind.u32 (W.shr IntKind.u32 x0 11) 1))) 0, 0,
                        W.wrap IntKind.i64 (W.sub (W.wrap IntKind.i64 (W.wrap IntKind.u32 (W.and IntKind.u32 (W.shr IntKind.u32 x0 0) 2047))) 2048))
                      fun y =>
                      br (W.pick (W.ne y.2 0) true (W.ne y.1 x0)) (k ((0, 0, 0, 0, 0, false, 0, 0), 230))
                        (k
                          ((W.wrap IntKind.i64 (W.shr IntKind.u32 x0 26), 0, W.wrap IntKind.i64 (W.wrap IntKind.u32 (W.and IntKind.u32 (W.shr IntKind.u32 x0 21) 31)),
                              W.wrap IntKind.i64 (W.wrap IntKind.u32 (W.and IntKind.u32 (W.shr IntKind.u32 x0 16) 31)), -1,
                              W.gt (W.wrap IntKind.i64 (W.wrap IntKind.u32 (W.and IntKind.u32 (W.shr IntKind.u32 x0 11) 1))) 0, 0,
                              W.wrap IntKind.i64 (W.sub (W.wrap IntKind.i64 (W.wrap IntKind.u32 (W.and IntKind.u32 (W.shr IntKind.u32 x0 0) 2047))) 2048)),
                            0)))
                    (F_risc_Encode R
                      (W.wrap IntKind.i64 (W.shr IntKind.u32 x0 26), 0, W.wrap IntKind.i64 (W.wrap IntKind.u32 (W.and IntKind.u32 (W.shr IntKind.u32 x0 21) 31)),
                        W.wrap IntKind.i64 (W.wrap IntKind.u32 (W.and IntKind.u32 (W.shr IntKind.u32 x0 16) 31)), -1,
                        W.gt (W.wrap IntKind.i64 (W.wrap IntKind.u32 (W.and IntKind.u32 (W.shr IntKind.u32 x0 11) 1))) 0, 0,
                        W.wrap IntKind.i64 (W.wrap IntKind.u32 (W.and IntKind.u32 (W.shr IntKind.u32 x0 0) 2047)))
                      fun y =>
                      br (W.pick (W.ne y.2 0) true (W.ne y.1 x0)) (k ((0, 0, 0, 0, 0, false, 0, 0), 230))
                        (k
                          ((W.wrap IntKind.i64 (W.shr IntKind.u32 x0 26), 0, W.wrap IntKind.i64 (W.wrap IntKind.u32 (W.and IntKind.u32 (W.shr IntKind.u32 x0 21) 31)),
                              W.wrap IntKind.i64 (W.wrap IntKind.u32 (W.and IntKind.u32 (W.shr IntKind.u32 x0 16) 31)), -1,
                              W.gt (W.wrap IntKind.i64 (W.wrap IntKind.u32 (W.and IntKind.u32 (W.shr IntKind.u32 x0 11) 1))) 0, 0,
                              W.wrap IntKind.i64 (W.wrap IntKind.u32 (W.and IntKind.u32 (W.shr IntKind.u32 x0 0) 2047))),
                            0)))))
                (br (W.eq (W.wrap IntKind.i64 (W.shr IntKind.u32 x0 26)) 21)
                  (br (W.ge (W.wrap IntKind.i64 (W.wrap IntKind.u32 (W.and IntKind.u32 (W.shr IntKind.u32 x0 0) 67108863))) 33554432)
                    (F_risc_Encode R
                      (W.wrap IntKind.i64 (W.shr IntKind.u32 x0 26), 0, 0, 0, 0, false, 0,
                        W.wrap IntKind.i64 (W.sub (W.wrap IntKind.i64 (W.wrap IntKind.u32 (W.and IntKind.u32 (W.shr IntKind.u32 x0 0) 67108863))) 67108864))
                      fun y =>
                      br (W.pick (W.ne y.2 0) true (W.ne y.1 x0)) (k ((0, 0, 0, 0, 0, false, 0, 0), 230))
                        (k
                          ((W.wrap IntKind.i64 (W.shr IntKind.u32 x0 26), 0, 0, 0, 0, false, 0,
                              W.wrap IntKind.i64 (W.sub (W.wrap IntKind.i64 (W.wrap IntKind.u32 (W.and IntKind.u32 (W.shr IntKind.u32 x0 0) 67108863))) 67108864)),
                            0)))
                    (F_risc_Encode R (W.wrap IntKind.i64 (W.shr IntKind.u32 x0 26), 0, 0, 0, 0, false, 0, W.wrap IntKind.i64 (W.wrap IntKind.u32 (W.and IntKind.u32 (W.shr IntKind.u32 x0 0) 67108863)))
                      fun y =>
                      br (W.pick (W.ne y.2 0) true (W.ne y.1 x0)) (k ((0, 0, 0, 0, 0, false, 0, 0), 230))
                        (k ((W.wrap IntKind.i64 (W.shr IntKind.u32 x0 26), 0, 0, 0, 0, false, 0, W.wrap IntKind.i64 (W.wrap IntKind.u32 (W.and IntKind.u32 (W.shr IntKind.u32 x0 0) 67108863))), 0))))
                  (br (W.eq (W.wrap IntKind.i64 (W.shr IntKind.u32 x0 26)) 22)
                    (F_risc_Encode R (W.wrap IntKind.i64 (W.shr IntKind.u32 x0 26), 0, 0, 0, 0, false, 0, W.wrap IntKind.i64 (W.wrap IntKind.u32 (W.and IntKind.u32 (W.shr IntKind.u32 x0 0) 67108863)))
                      fun y =>
                      br (W.pick (W.ne y.2 0) true (W.ne y.1 x0)) (k ((0, 0, 0, 0, 0, false, 0, 0), 230))
                        (k ((W.wrap IntKind.i64 (W.shr IntKind.u32 x0 26), 0, 0, 0, 0, false, 0, W.wrap IntKind.i64 (W.wrap IntKind.u32 (W.and IntKind.u32 (W.shr IntKind.u32 x0 0) 67108863))), 0)))
                    (br (W.eq (W.wrap IntKind.i64 (W.shr IntKind.u32 x0 26)) 24)
                      (F_risc_Encode R
                        (W.wrap IntKind.i64 (W.shr IntKind.u32 x0 26), W.wrap IntKind.i64 (W.wrap IntKind.u32 (W.and IntKind.u32 (W.shr IntKind.u32 x0 21) 31)), 0, 0, 0, false, 0,
                          W.wrap IntKind.i64 (W.wrap IntKind.u32 (W.and IntKind.u32 (W.shr IntKind.u32 x0 0) 65535)))
                        fun y =>
                        br (W.pick (W.ne y.2 0) true (W.ne y.1 x0)) (k ((0, 0, 0, 0, 0, false, 0, 0), 230))
                          (k
                            ((W.wrap IntKind.i64 (W.shr IntKind.u32 x0 26), W.wrap IntKind.i64 (W.wrap IntKind.u32 (W.and IntKind.u32 (W.shr IntKind.u32 x0 21) 31)), 0, 0, 0, false, 0,
                                W.wrap IntKind.i64 (W.wrap IntKind.u32 (W.and IntKind.u32 (W.shr IntKind.u32 x0 0) 65535))),
                              0)))
                      (br (W.eq (W.wrap IntKind.i64 (W.shr IntKind.u32 x0 26)) 25)
                        (F_risc_Encode R
                          (W.wrap IntKind.i64 (W.shr IntKind.u32 x0 26), W.wrap IntKind.i64 (W.wrap IntKind.u32 (W.and IntKind.u32 (W.shr IntKind.u32 x0 21) 31)), 0, 0, 0, false, 0,
                            W.wrap IntKind.i64 (W.wrap IntKind.u32 (W.and IntKind.u32 (W.shr IntKind.u32 x0 0) 65535)))
                          fun y =>
                          br (W.pick (W.ne y.2 0) true (W.ne y.1 x0)) (k ((0, 0, 0, 0, 0, false, 0, 0), 230))
                            (k
                              ((W.wrap IntKind.i64 (W.shr IntKind.u32 x0 26), W.wrap IntKind.i64 (W.wrap IntKind.u32 (W.and IntKind.u32 (W.shr IntKind.u32 x0 21) 31)), 0, 0, 0, false, 0,
                                  W.wrap IntKind.i64 (W.wrap IntKind.u32 (W.and IntKind.u32 (W.shr IntKind.u32 x0 0) 65535))),
                                0)))
                        (br (W.eq (W.wrap IntKind.i64 (W.shr IntKind.u32 x0 26)) 26)
                          (F_risc_Encode R (W.wrap IntKind.i64 (W.shr IntKind.u32 x0 26), W.wrap IntKind.i64 (W.wrap IntKind.u32 (W.and IntKind.u32 (W.shr IntKind.u32 x0 21) 31)), 0, 0, 0, false, 0, 0)
                            fun y =>
                            br (W.pick (W.ne y.2 0) true (W.ne y.1 x0)) (k ((0, 0, 0, 0, 0, false, 0, 0), 230))
                              (k ((W.wrap IntKind.i64 (W.shr IntKind.u32 x0 26), W.wrap IntKind.i64 (W.wrap IntKind.u32 (W.and IntKind.u32 (W.shr IntKind.u32 x0 21) 31)), 0, 0, 0, false, 0, 0), 0)))
                          (br (W.eq (W.wrap IntKind.i64 (W.shr IntKind.u32 x0 26)) 27)
                            (F_risc_Encode R (W.wrap IntKind.i64 (W.shr IntKind.u32 x0 26), W.wrap IntKind.i64 (W.wrap IntKind.u32 (W.and IntKind.u32 (W.shr IntKind.u32 x0 21) 31)), 0, 0, 0, false, 0, 0)
                              fun y =>
                              br (W.pick (W.ne y.2 0) true (W.ne y.1 x0)) (k ((0, 0, 0, 0, 0, false, 0, 0), 230))
                                (k ((W.wrap IntKind.i64 (W.shr IntKind.u32 x0 26), W.wrap IntKind.i64 (W.wrap IntKind.u32 (W.and IntKind.u32 (W.shr IntKind.u32 x0 21) 31)), 0, 0, 0, false, 0, 0), 0)))
                            (br (W.eq (W.wrap IntKind.i64 (W.shr IntKind.u32 x0 26)) 23)
                              (F_risc_Encode R (W.wrap IntKind.i64 (W.shr IntKind.u32 x0 26), 0, 0, 0, 0, false, 0, 0) fun y =>
                                br (W.pick (W.ne y.2 0) true (W.ne y.1 x0)) (k ((0, 0, 0, 0, 0, false, 0, 0), 230)) (k ((W.wrap IntKind.i64 (W.shr IntKind.u32 x0 26), 0, 0, 0, 0, false, 0, 0), 0)))
                              (F_risc_Encode R (W.wrap IntKind.i64 (W.shr IntKind.u32 x0 26), 0, 0, 0, 0, false, 0, 0) fun y =>
                                br (W.pick (W.ne y.2 0) true (W.ne y.1 x0)) (k ((0, 0, 0, 0, 0, false, 0, 0), 230))
                                  (k ((W.wrap IntKind.i64 (W.shr IntKind.u32 x0 26), 0, 0, 0, 0, false, 0, 0), 0))))))))))))))
theorem S_risc_Decode {F_risc_Encode : FT ps_risc_Encode qs_risc_Encode} {F_risc_one : FT ps_risc_one qs_risc_one} {F_slices_Index_int_int : FT ps_slices_Index_int_int qs_slices_Index_int_int} (h_risc_Encode : SpecOk Tryd.prog 8 (mkS ps_risc_Encode qs_risc_Encode F_risc_Encode)) (h_risc_one : SpecOk Tryd.prog 25 (mkS ps_risc_one qs_risc_one F_risc_one)) (h_slices_Index_int_int : SpecOk Tryd.prog 60 (mkS ps_slices_Index_int_int qs_slices_Index_int_int F_slices_Index_int_int)) : SpecOk Tryd.prog 15 (mkS ps_risc_Decode qs_risc_Decode (N_risc_Decode F_risc_Encode F_risc_one F_slices_Index_int_int)) :=
  specOk_mk (fl := 22) (d := 12) (cfgOk_cons (cfgOk_cons (cfgOk_cons base h_slices_Index_int_int) h_risc_one) h_risc_Encode) (by intro R x0 k; kernel_rfl)
noncomputable def F_risc_Decode : FT ps_risc_Decode qs_risc_Decode := N_risc_Decode F_risc_Encode F_risc_one F_slices_Index_int_int 
theorem ok_risc_Decode : SpecOk Tryd.prog 15 (mkS ps_risc_Decode qs_risc_Decode F_risc_Decode) := S_risc_Decode ok_risc_Encode ok_risc_one ok_slices_Index_int_int
abbrev ps_clevislaw23heads : List PT := []
abbrev qs_clevislaw23heads : List PT := [.one (.bool)]
noncomputable def N_clevislaw23heads (F_risc_Encode : FT ps_risc_Encode qs_risc_Encode) (F_risc_Text : FT ps_risc_Text qs_risc_Text) (F_risc_Decode : FT ps_risc_Decode qs_risc_Decode)  : FT ps_clevislaw23heads qs_clevislaw23heads := fun R x k => match x with
  | () => 
      F_risc_Encode R (23, 0, 0, 0, 0, false, 0, 0) fun y =>
        F_risc_Encode R (2, 8, 0, 0, 0, false, 0, 5) fun y_1 =>
          F_risc_Encode R (40, 0, 0, 0, 0, false, 0, 0) fun y_2 =>
            F_risc_Decode R 0 fun y_3 =>
              F_risc_Decode R 150994949 fun y_4 =>
                br
                  (W.pick
                    (W.pick
                      (W.pick
                        (W.pick (W.pick (W.pick (W.pick (W.pick (W.eq y.1 1543503872) (W.eq y.2 0) false) (W.eq y_1.1 150994949) false) (W.eq y_1.2 0) false) (W.eq y_2.2 2) false) (W.eq y_3.2 230) false)
                        (W.eq y_4.2 0) false)
                      (W.eq y_4.1.2.1 8) false)
                    (W.eq y_4.1.2.2.2.2.2.2.2 5) false)
                  (F_risc_Text R (y_4.1.1, y_4.1.2.1, y_4.1.2.2.1, y_4.1.2.2.2.1, y_4.1.2.2.2.2.1, y_4.1.2.2.2.2.2.1, y_4.1.2.2.2.2.2.2.1, y_4.1.2.2.2.2.2.2.2) fun y =>
                    k
                      (W.pick true
                        (W.eqS y
                          (ByteArray.mk
                            (Array.mk
                              [UInt8.ofBitVec (BitVec.ofFin (Fin.mk 50 (Nat.mod_lt 50 (BitVec.ofNat._proof_1 8)))), UInt8.ofBitVec (BitVec.ofFin (Fin.mk 32 (Nat.mod_lt 32 (BitVec.ofNat._proof_1 8)))),
                                UInt8.ofBitVec (BitVec.ofFin (Fin.mk 56 (Nat.mod_lt 56 (BitVec.ofNat._proof_1 8)))), UInt8.ofBitVec (BitVec.ofFin (Fin.mk 32 (Nat.mod_lt 32 (BitVec.ofNat._proof_1 8)))),
                                UInt8.ofBitVec (BitVec.ofFin (Fin.mk 48 (Nat.mod_lt 48 (BitVec.ofNat._proof_1 8)))), UInt8.ofBitVec (BitVec.ofFin (Fin.mk 32 (Nat.mod_lt 32 (BitVec.ofNat._proof_1 8)))),
                                UInt8.ofBitVec (BitVec.ofFin (Fin.mk 48 (Nat.mod_lt 48 (BitVec.ofNat._proof_1 8)))), UInt8.ofBitVec (BitVec.ofFin (Fin.mk 32 (Nat.mod_lt 32 (BitVec.ofNat._proof_1 8)))),
                                UInt8.ofBitVec (BitVec.ofFin (Fin.mk 48 (Nat.mod_lt 48 (BitVec.ofNat._proof_1 8)))), UInt8.ofBitVec (BitVec.ofFin (Fin.mk 32 (Nat.mod_lt 32 (BitVec.ofNat._proof_1 8)))),
                                UInt8.ofBitVec (BitVec.ofFin (Fin.mk 48 (Nat.mod_lt 48 (BitVec.ofNat._proof_1 8)))), UInt8.ofBitVec (BitVec.ofFin (Fin.mk 32 (Nat.mod_lt 32 (BitVec.ofNat._proof_1 8)))),
                                UInt8.ofBitVec (BitVec.ofFin (Fin.mk 48 (Nat.mod_lt 48 (BitVec.ofNat._proof_1 8)))), UInt8.ofBitVec (BitVec.ofFin (Fin.mk 32 (Nat.mod_lt 32 (BitVec.ofNat._proof_1 8)))),
                                UInt8.ofBitVec (BitVec.ofFin (Fin.mk 53 (Nat.mod_lt 53 (BitVec.ofNat._proof_1 8))))])))
                        false))
                  (k false)
theorem S_clevislaw23heads {F_risc_Encode : FT ps_risc_Encode qs_risc_Encode} {F_risc_Text : FT ps_risc_Text qs_risc_Text} {F_risc_Decode : FT ps_risc_Decode qs_risc_Decode} (h_risc_Encode : SpecOk Tryd.prog 8 (mkS ps_risc_Encode qs_risc_Encode F_risc_Encode)) (h_risc_Text : SpecOk Tryd.prog 12 (mkS ps_risc_Text qs_risc_Text F_risc_Text)) (h_risc_Decode : SpecOk Tryd.prog 15 (mkS ps_risc_Decode qs_risc_Decode F_risc_Decode)) : SpecOk Tryd.prog 14 (mkS ps_clevislaw23heads qs_clevislaw23heads (N_clevislaw23heads F_risc_Encode F_risc_Text F_risc_Decode)) :=
  specOk_mk (fl := 10) (d := 12) (cfgOk_cons (cfgOk_cons (cfgOk_cons base h_risc_Decode) h_risc_Text) h_risc_Encode) (by intro R x k; kernel_rfl)
noncomputable def F_clevislaw23heads : FT ps_clevislaw23heads qs_clevislaw23heads := N_clevislaw23heads F_risc_Encode F_risc_Text F_risc_Decode 
theorem ok_clevislaw23heads : SpecOk Tryd.prog 14 (mkS ps_clevislaw23heads qs_clevislaw23heads F_clevislaw23heads) := S_clevislaw23heads ok_risc_Encode ok_risc_Text ok_risc_Decode
abbrev ps_clevislaw23RiscWrites : List PT := [.agg ((.prod (.int .i64) (.prod (.int .i64) (.prod (.int .i64) (.prod (.int .i64) (.prod (.int .i64) (.prod (.bool) (.prod (.int .i64) (.int .i64)))))))))]
noncomputable def L_clevislaw23RiscWrites (F_risc_Check : FT ps_risc_Check qs_risc_Check) (F_risc_Encode : FT ps_risc_Encode qs_risc_Encode) (F_clevisref23Check : FT ps_clevisref23Check qs_clevisref23Check) (F_clevisref23Encode : FT ps_clevisref23Encode qs_clevisref23Encode) (F_risc_Text : FT ps_risc_Text qs_risc_Text) (F_clevisref23Text : FT ps_clevisref23Text qs_clevisref23Text) (F_clevislaw23heads : FT ps_clevislaw23heads qs_clevislaw23heads)  (x : PTs.D ps_clevislaw23RiscWrites) : Option Unit := match x with
  | (x0Op, x0D, x0A, x0B, x0Fn, x0Wide, x0Part, x0Imm) => 
      F_risc_Encode Unit (x0Op, x0D, x0A, x0B, x0Fn, x0Wide, x0Part, x0Imm) fun y =>
        F_clevisref23Encode Unit (x0Op, x0D, x0A, x0B, x0Fn, x0Wide, x0Part, x0Imm) fun y_1 =>
          br (W.pick (W.eq y.1 y_1.1) (W.eq y.2 y_1.2) false)
            (F_risc_Check Unit (x0Op, x0D, x0A, x0B, x0Fn, x0Wide, x0Part, x0Imm) fun y =>
              F_clevisref23Check Unit (x0Op, x0D, x0A, x0B, x0Fn, x0Wide, x0Part, x0Imm) fun y_2 =>
                br (W.pick true (W.eqB y y_2) false)
                  (F_risc_Text Unit (x0Op, x0D, x0A, x0B, x0Fn, x0Wide, x0Part, x0Imm) fun y =>
                    F_clevisref23Text Unit (x0Op, x0D, x0A, x0B, x0Fn, x0Wide, x0Part, x0Imm) fun y_3 =>
                      br (W.pick true (W.eqS y y_3) false) (F_clevislaw23heads Unit () fun y => br (W.pick true y false) (some ()) none) none)
                  none)
            none
theorem E_clevislaw23RiscWrites {F_risc_Check : FT ps_risc_Check qs_risc_Check} {F_risc_Encode : FT ps_risc_Encode qs_risc_Encode} {F_clevisref23Check : FT ps_clevisref23Check qs_clevisref23Check} {F_clevisref23Encode : FT ps_clevisref23Encode qs_clevisref23Encode} {F_risc_Text : FT ps_risc_Text qs_risc_Text} {F_clevisref23Text : FT ps_clevisref23Text qs_clevisref23Text} {F_clevislaw23heads : FT ps_clevislaw23heads qs_clevislaw23heads} (h_risc_Check : SpecOk Tryd.prog 10 (mkS ps_risc_Check qs_risc_Check F_risc_Check)) (h_risc_Encode : SpecOk Tryd.prog 8 (mkS ps_risc_Encode qs_risc_Encode F_risc_Encode)) (h_clevisref23Check : SpecOk Tryd.prog 11 (mkS ps_clevisref23Check qs_clevisref23Check F_clevisref23Check)) (h_clevisref23Encode : SpecOk Tryd.prog 9 (mkS ps_clevisref23Encode qs_clevisref23Encode F_clevisref23Encode)) (h_risc_Text : SpecOk Tryd.prog 12 (mkS ps_risc_Text qs_risc_Text F_risc_Text)) (h_clevisref23Text : SpecOk Tryd.prog 13 (mkS ps_clevisref23Text qs_clevisref23Text F_clevisref23Text)) (h_clevislaw23heads : SpecOk Tryd.prog 14 (mkS ps_clevislaw23heads qs_clevislaw23heads F_clevislaw23heads)) (x : PTs.D ps_clevislaw23RiscWrites) (hL : L_clevislaw23RiscWrites F_risc_Check F_risc_Encode F_clevisref23Check F_clevisref23Encode F_risc_Text F_clevisref23Text F_clevislaw23heads x = some ()) :
    ∃ (C : Cfg) (fl d : Nat), CfgOk C ∧ C.P = Tryd.prog ∧ call C fl d 3 (encL false ps_clevislaw23RiscWrites x) [] getL = some () :=
  ⟨_, 10, 12, (cfgOk_cons (cfgOk_cons (cfgOk_cons (cfgOk_cons (cfgOk_cons (cfgOk_cons (cfgOk_cons base h_clevislaw23heads) h_clevisref23Text) h_risc_Text) h_clevisref23Encode) h_clevisref23Check) h_risc_Encode) h_risc_Check), rfl, (show _ = L_clevislaw23RiscWrites F_risc_Check F_risc_Encode F_clevisref23Check F_clevisref23Encode F_risc_Text F_clevisref23Text F_clevislaw23heads x by obtain ⟨x0Op, x0D, x0A, x0B, x0Fn, x0Wide, x0Part, x0Imm⟩ := x; kernel_rfl).trans hL⟩
abbrev ps_clevisref23sign : List PT := [.one (.int .u32), .one (.int .i64)]
abbrev qs_clevisref23sign : List PT := [.one (.int .i64)]
noncomputable def N_clevisref23sign   : FT ps_clevisref23sign qs_clevisref23sign := fun R x k => match x with
  | (x0, x1) => 
      br
        (W.ge (W.wrap IntKind.i64 (W.and IntKind.i64 (W.wrap IntKind.i64 x0) (W.wrap IntKind.i64 (W.sub (W.wrap IntKind.i64 (W.shl IntKind.i64 1 (W.wrap IntKind.u64 x1))) 1))))
          (W.wrap IntKind.i64 (W.shl IntKind.i64 1 (W.wrap IntKind.u64 (W.wrap IntKind.i64 (W.sub x1 1))))))
        (k
          (W.wrap IntKind.i64
            (W.sub (W.wrap IntKind.i64 (W.and IntKind.i64 (W.wrap IntKind.i64 x0) (W.wrap IntKind.i64 (W.sub (W.wrap IntKind.i64 (W.shl IntKind.i64 1 (W.wrap IntKind.u64 x1))) 1))))
              (W.wrap IntKind.i64 (W.shl IntKind.i64 1 (W.wrap IntKind.u64 x1))))))
        (k (W.wrap IntKind.i64 (W.and IntKind.i64 (W.wrap IntKind.i64 x0) (W.wrap IntKind.i64 (W.sub (W.wrap IntKind.i64 (W.shl IntKind.i64 1 (W.wrap IntKind.u64 x1))) 1)))))
theorem S_clevisref23sign   : SpecOk Tryd.prog 28 (mkS ps_clevisref23sign qs_clevisref23sign (N_clevisref23sign )) :=
  specOk_mk (fl := 10) (d := 12) base (by rintro R ⟨x0, x1⟩ k; kernel_rfl)
noncomputable def F_clevisref23sign : FT ps_clevisref23sign qs_clevisref23sign := N_clevisref23sign  
theorem ok_clevisref23sign : SpecOk Tryd.prog 28 (mkS ps_clevisref23sign qs_clevisref23sign F_clevisref23sign) := S_clevisref23sign 
abbrev ps_clevisref23Decode : List PT := [.one (.int .u32)]
abbrev qs_clevisref23Decode : List PT := [.agg ((.prod (.int .i64) (.prod (.int .i64) (.prod (.int .i64) (.prod (.int .i64) (.prod (.int .i64) (.prod (.bool) (.prod (.int .i64) (.int .i64))))))))), .one (.int .i64)]
noncomputable def N_clevisref23Decode (F_clevisref23conds : FT ps_clevisref23conds qs_clevisref23conds) (F_clevisref23Encode : FT ps_clevisref23Encode qs_clevisref23Encode) (F_clevisref23sign : FT ps_clevisref23sign qs_clevisref23sign)  : FT ps_clevisref23Decode qs_clevisref23Decode := fun R x k => match x with
  | x0 => 
      br (W.eq (W.wrap IntKind.i64 (W.shr IntKind.u32 x0 26)) 1)
        (F_clevisref23Encode R
          (W.wrap IntKind.i64 (W.shr IntKind.u32 x0 26), W.wrap IntKind.i64 (W.wrap IntKind.u32 (W.and IntKind.u32 (W.shr IntKind.u32 x0 21) 31)),
            W.wrap IntKind.i64 (W.wrap IntKind.u32 (W.and IntKind.u32 (W.shr IntKind.u32 x0 16) 31)), W.wrap IntKind.i64 (W.wrap IntKind.u32 (W.and IntKind.u32 (W.shr IntKind.u32 x0 11) 31)),
            W.wrap IntKind.i64 (W.mul (W.wrap IntKind.i64 (W.wrap IntKind.u32 (W.and IntKind.u32 (W.shr IntKind.u32 x0 6) 15))) 16),
            W.eq (W.wrap IntKind.u32 (W.and IntKind.u32 (W.shr IntKind.u32 x0 10) 1)) 1, 0, 0)
          fun y =>
          br (W.pick (W.ne y.2 0) true (W.ne y.1 x0)) (k ((0, 0, 0, 0, 0, false, 0, 0), 230))
            (k
              ((W.wrap IntKind.i64 (W.shr IntKind.u32 x0 26), W.wrap IntKind.i64 (W.wrap IntKind.u32 (W.and IntKind.u32 (W.shr IntKind.u32 x0 21) 31)),
                  W.wrap IntKind.i64 (W.wrap IntKind.u32 (W.and IntKind.u32 (W.shr IntKind.u32 x0 16) 31)), W.wrap IntKind.i64 (W.wrap IntKind.u32 (W.and IntKind.u32 (W.shr IntKind.u32 x0 11) 31)),
                  W.wrap IntKind.i64 (W.mul (W.wrap IntKind.i64 (W.wrap IntKind.u32 (W.and IntKind.u32 (W.shr IntKind.u32 x0 6) 15))) 16),
                  W.eq (W.wrap IntKind.u32 (W.and IntKind.u32 (W.shr IntKind.u32 x0 10) 1)) 1, 0, 0),
                0)))
        (br (W.pick (W.eq (W.wrap IntKind.i64 (W.shr IntKind.u32 x0 26)) 2) true (W.eq (W.wrap IntKind.i64 (W.shr IntKind.u32 x0 26)) 3))
          (F_clevisref23Encode R
            (W.wrap IntKind.i64 (W.shr IntKind.u32 x0 26), W.wrap IntKind.i64 (W.wrap IntKind.u32 (W.and IntKind.u32 (W.shr IntKind.u32 x0 21) 31)), 0, 0, 0, false,
              W.wrap IntKind.i64 (W.wrap IntKind.u32 (W.and IntKind.u32 (W.shr IntKind.u32 x0 19) 3)), W.wrap IntKind.i64 (W.wrap IntKind.u32 (W.and IntKind.u32 x0 65535)))
            fun y =>
            br (W.pick (W.ne y.2 0) true (W.ne y.1 x0)) (k ((0, 0, 0, 0, 0, false, 0, 0), 230))
              (k
                ((W.wrap IntKind.i64 (W.shr IntKind.u32 x0 26), W.wrap IntKind.i64 (W.wrap IntKind.u32 (W.and IntKind.u32 (W.shr IntKind.u32 x0 21) 31)), 0, 0, 0, false,
                    W.wrap IntKind.i64 (W.wrap IntKind.u32 (W.and IntKind.u32 (W.shr IntKind.u32 x0 19) 3)), W.wrap IntKind.i64 (W.wrap IntKind.u32 (W.and IntKind.u32 x0 65535))),
                  0)))
          (br (W.pick (W.ge (W.wrap IntKind.i64 (W.shr IntKind.u32 x0 26)) 4) (W.lt (W.wrap IntKind.i64 (W.shr IntKind.u32 x0 26)) 20) false)
            (F_clevisref23sign R (x0, 16) fun y =>
              F_clevisref23Encode R
                (W.wrap IntKind.i64 (W.shr IntKind.u32 x0 26), W.wrap IntKind.i64 (W.wrap IntKind.u32 (W.and IntKind.u32 (W.shr IntKind.u32 x0 21) 31)),
                  W.wrap IntKind.i64 (W.wrap IntKind.u32 (W.and IntKind.u32 (W.shr IntKind.u32 x0 16) 31)), 0, 0, false, 0, y)
                fun y_1 =>
                br (W.pick (W.ne y_1.2 0) true (W.ne y_1.1 x0)) (k ((0, 0, 0, 0, 0, false, 0, 0), 230))
                  (k
                    ((W.wrap IntKind.i64 (W.shr IntKind.u32 x0 26), W.wrap IntKind.i64 (W.wrap IntKind.u32 (W.and IntKind.u32 (W.shr IntKind.u32 x0 21) 31)),
                        W.wrap IntKind.i64 (W.wrap IntKind.u32 (W.and IntKind.u32 (W.shr IntKind.u32 x0 16) 31)), 0, 0, false, 0, y),
                      0)))
            (br (W.eq (W.wrap IntKind.i64 (W.shr IntKind.u32 x0 26)) 20)
              (F_clevisref23conds R () fun y =>
                br (W.ge (W.wrap IntKind.i64 (W.wrap IntKind.u32 (W.and IntKind.u32 (W.shr IntKind.u32 x0 12) 15))) (W.ofNat (W.len y))) (k ((0, 0, 0, 0, 0, false, 0, 0), 230))
                  (F_clevisref23conds R () fun y =>
                    br
                      (W.and2 (W.le 0 (W.wrap IntKind.i64 (W.wrap IntKind.u32 (W.and IntKind.u32 (W.shr IntKind.u32 x0 12) 15))))
                        (W.lt (W.wrap IntKind.i64 (W.wrap IntKind.u32 (W.and IntKind.u32 (W.shr IntKind.u32 x0 12) 15))) (W.ofNat (W.len y))))
                      (F_clevisref23sign R (x0, 11) fun y_1 =>
                        F_clevisref23Encode R
                          (W.wrap IntKind.i64 (W.shr IntKind.u32 x0 26), 0, W.wrap IntKind.i64 (W.wrap IntKind.u32 (W.and IntKind.u32 (W.shr IntKind.u32 x0 21) 31)),
                            W.wrap IntKind.i64 (W.wrap IntKind.u32 (W.and IntKind.u32 (W.shr IntKind.u32 x0 16) 31)),
                            W.get y (W.toNat (W.wrap IntKind.i64 (W.wrap IntKind.u32 (W.and IntKind.u32 (W.shr IntKind.u32 x0 12) 15)))) 0,
                            W.eq (W.wrap IntKind.u32 (W.and IntKind.u32 (W.shr IntKind.u32 x0 11) 1)) 1, 0, y_1)
                          fun y_2 =>
                          br (W.pick (W.ne y_2.2 0) true (W.ne y_2.1 x0)) (k ((0, 0, 0, 0, 0, false, 0, 0), 230))
                            (k
                              ((W.wrap IntKind.i64 (W.shr IntKind.u32 x0 26), 0, W.wrap IntKind.i64 (W.wrap IntKind.u32 (W.and IntKind.u32 (W.shr IntKind.u32 x0 21) 31)),
                                  W.wrap IntKind.i64 (W.wrap IntKind.u32 (W.and IntKind.u32 (W.shr IntKind.u32 x0 16) 31)),
                                  W.get y (W.toNat (W.wrap IntKind.i64 (W.wrap IntKind.u32 (W.and IntKind.u32 (W.shr IntKind.u32 x0 12) 15)))) 0,
                                  W.eq (W.wrap IntKind.u32 (W.and IntKind.u32 (W.shr IntKind.u32 x0 11) 1)) 1, 0, y_1),
                                0)))
                      none))
              (br (W.eq (W.wrap IntKind.i64 (W.shr IntKind.u32 x0 26)) 21)
                (F_clevisref23sign R (x0, 26) fun y =>
                  F_clevisref23Encode R (W.wrap IntKind.i64 (W.shr IntKind.u32 x0 26), 0, 0, 0, 0, false, 0, y) fun y_1 =>
                    br (W.pick (W.ne y_1.2 0) true (W.ne y_1.1 x0)) (k ((0, 0, 0, 0, 0, false, 0, 0), 230)) (k ((W.wrap IntKind.i64 (W.shr IntKind.u32 x0 26), 0, 0, 0, 0, false, 0, y), 0)))
                (br (W.eq (W.wrap IntKind.i64 (W.shr IntKind.u32 x0 26)) 22)
                  (F_clevisref23Encode R (W.wrap IntKind.i64 (W.shr IntKind.u32 x0 26), 0, 0, 0, 0, false, 0, W.wrap IntKind.i64 (W.wrap IntKind.u32 (W.and IntKind.u32 x0 67108863))) fun y =>
                    br (W.pick (W.ne y.2 0) true (W.ne y.1 x0)) (k ((0, 0, 0, 0, 0, false, 0, 0), 230))
                      (k ((W.wrap IntKind.i64 (W.shr IntKind.u32 x0 26), 0, 0, 0, 0, false, 0, W.wrap IntKind.i64 (W.wrap IntKind.u32 (W.and IntKind.u32 x0 67108863))), 0)))
                  (br (W.pick (W.eq (W.wrap IntKind.i64 (W.shr IntKind.u32 x0 26)) 24) true (W.eq (W.wrap IntKind.i64 (W.shr IntKind.u32 x0 26)) 25))
                    (F_clevisref23Encode R
                      (W.wrap IntKind.i64 (W.shr IntKind.u32 x0 26), W.wrap IntKind.i64 (W.wrap IntKind.u32 (W.and IntKind.u32 (W.shr IntKind.u32 x0 21) 31)), 0, 0, 0, false, 0,
                        W.wrap IntKind.i64 (W.wrap IntKind.u32 (W.and IntKind.u32 x0 65535)))
                      fun y =>
                      br (W.pick (W.ne y.2 0) true (W.ne y.1 x0)) (k ((0, 0, 0, 0, 0, false, 0, 0), 230))
                        (k
                          ((W.wrap IntKind.i64 (W.shr IntKind.u32 x0 26), W.wrap IntKind.i64 (W.wrap IntKind.u32 (W.and IntKind.u32 (W.shr IntKind.u32 x0 21) 31)), 0, 0, 0, false, 0,
                              W.wrap IntKind.i64 (W.wrap IntKind.u32 (W.and IntKind.u32 x0 65535))),
                            0)))
                    (br (W.pick (W.eq (W.wrap IntKind.i64 (W.shr IntKind.u32 x0 26)) 26) true (W.eq (W.wrap IntKind.i64 (W.shr IntKind.u32 x0 26)) 27))
                      (F_clevisref23Encode R (W.wrap IntKind.i64 (W.shr IntKind.u32 x0 26), W.wrap IntKind.i64 (W.wrap IntKind.u32 (W.and IntKind.u32 (W.shr IntKind.u32 x0 21) 31)), 0, 0, 0, false, 0, 0)
                        fun y =>
                        br (W.pick (W.ne y.2 0) true (W.ne y.1 x0)) (k ((0, 0, 0, 0, 0, false, 0, 0), 230))
                          (k ((W.wrap IntKind.i64 (W.shr IntKind.u32 x0 26), W.wrap IntKind.i64 (W.wrap IntKind.u32 (W.and IntKind.u32 (W.shr IntKind.u32 x0 21) 31)), 0, 0, 0, false, 0, 0), 0)))
                      (F_clevisref23Encode R (W.wrap IntKind.i64 (W.shr IntKind.u32 x0 26), 0, 0, 0, 0, false, 0, 0) fun y =>
                        br (W.pick (W.ne y.2 0) true (W.ne y.1 x0)) (k ((0, 0, 0, 0, 0, false, 0, 0), 230)) (k ((W.wrap IntKind.i64 (W.shr IntKind.u32 x0 26), 0, 0, 0, 0, false, 0, 0), 0))))))))))
theorem S_clevisref23Decode {F_clevisref23conds : FT ps_clevisref23conds qs_clevisref23conds} {F_clevisref23Encode : FT ps_clevisref23Encode qs_clevisref23Encode} {F_clevisref23sign : FT ps_clevisref23sign qs_clevisref23sign} (h_clevisref23conds : SpecOk Tryd.prog 29 (mkS ps_clevisref23conds qs_clevisref23conds F_clevisref23conds)) (h_clevisref23Encode : SpecOk Tryd.prog 9 (mkS ps_clevisref23Encode qs_clevisref23Encode F_clevisref23Encode)) (h_clevisref23sign : SpecOk Tryd.prog 28 (mkS ps_clevisref23sign qs_clevisref23sign F_clevisref23sign)) : SpecOk Tryd.prog 16 (mkS ps_clevisref23Decode qs_clevisref23Decode (N_clevisref23Decode F_clevisref23conds F_clevisref23Encode F_clevisref23sign)) :=
  specOk_mk (fl := 10) (d := 12) (cfgOk_cons (cfgOk_cons (cfgOk_cons base h_clevisref23sign) h_clevisref23Encode) h_clevisref23conds) (by intro R x0 k; kernel_rfl)
noncomputable def F_clevisref23Decode : FT ps_clevisref23Decode qs_clevisref23Decode := N_clevisref23Decode F_clevisref23conds F_clevisref23Encode F_clevisref23sign 
theorem ok_clevisref23Decode : SpecOk Tryd.prog 16 (mkS ps_clevisref23Decode qs_clevisref23Decode F_clevisref23Decode) := S_clevisref23Decode ok_clevisref23conds ok_clevisref23Encode ok_clevisref23sign
abbrev ps_clevislaw23RiscReads : List PT := [.one (.int .u32)]
noncomputable def L_clevislaw23RiscReads (F_risc_Decode : FT ps_risc_Decode qs_risc_Decode) (F_clevislaw23heads : FT ps_clevislaw23heads qs_clevislaw23heads) (F_clevisref23Decode : FT ps_clevisref23Decode qs_clevisref23Decode)  (x : PTs.D ps_clevislaw23RiscReads) : Option Unit := match x with
  | x0 => 
      F_risc_Decode Unit x0 fun y =>
        F_clevisref23Decode Unit x0 fun y_1 =>
          br
            (W.pick
              (W.and2 (W.eq y.1.1 y_1.1.1)
                (W.and2 (W.eq y.1.2.1 y_1.1.2.1)
                  (W.and2 (W.eq y.1.2.2.1 y_1.1.2.2.1)
                    (W.and2 (W.eq y.1.2.2.2.1 y_1.1.2.2.2.1)
                      (W.and2 (W.eq y.1.2.2.2.2.1 y_1.1.2.2.2.2.1)
                        (W.and2 (W.eqB y.1.2.2.2.2.2.1 y_1.1.2.2.2.2.2.1) (W.and2 (W.eq y.1.2.2.2.2.2.2.1 y_1.1.2.2.2.2.2.2.1) (W.and2 (W.eq y.1.2.2.2.2.2.2.2 y_1.1.2.2.2.2.2.2.2) true))))))))
              (W.eq y.2 y_1.2) false)
            (F_clevislaw23heads Unit () fun y => br (W.pick true y false) (some ()) none) none
theorem E_clevislaw23RiscReads {F_risc_Decode : FT ps_risc_Decode qs_risc_Decode} {F_clevislaw23heads : FT ps_clevislaw23heads qs_clevislaw23heads} {F_clevisref23Decode : FT ps_clevisref23Decode qs_clevisref23Decode} (h_risc_Decode : SpecOk Tryd.prog 15 (mkS ps_risc_Decode qs_risc_Decode F_risc_Decode)) (h_clevislaw23heads : SpecOk Tryd.prog 14 (mkS ps_clevislaw23heads qs_clevislaw23heads F_clevislaw23heads)) (h_clevisref23Decode : SpecOk Tryd.prog 16 (mkS ps_clevisref23Decode qs_clevisref23Decode F_clevisref23Decode)) (x : PTs.D ps_clevislaw23RiscReads) (hL : L_clevislaw23RiscReads F_risc_Decode F_clevislaw23heads F_clevisref23Decode x = some ()) :
    ∃ (C : Cfg) (fl d : Nat), CfgOk C ∧ C.P = Tryd.prog ∧ call C fl d 4 (encL false ps_clevislaw23RiscReads x) [] getL = some () :=
  ⟨_, 10, 12, (cfgOk_cons (cfgOk_cons (cfgOk_cons base h_clevisref23Decode) h_clevislaw23heads) h_risc_Decode), rfl, (show _ = L_clevislaw23RiscReads F_risc_Decode F_clevislaw23heads F_clevisref23Decode x by kernel_rfl).trans hL⟩
abbrev ps_clevislaw23RiscBack : List PT := [.agg ((.prod (.int .i64) (.prod (.int .i64) (.prod (.int .i64) (.prod (.int .i64) (.prod (.int .i64) (.prod (.bool) (.prod (.int .i64) (.int .i64)))))))))]
noncomputable def L_clevislaw23RiscBack (F_risc_Check : FT ps_risc_Check qs_risc_Check) (F_risc_Encode : FT ps_risc_Encode qs_risc_Encode) (F_risc_Decode : FT ps_risc_Decode qs_risc_Decode) (F_clevislaw23heads : FT ps_clevislaw23heads qs_clevislaw23heads)  (x : PTs.D ps_clevislaw23RiscBack) : Option Unit := match x with
  | (x0Op, x0D, x0A, x0B, x0Fn, x0Wide, x0Part, x0Imm) => 
      F_risc_Encode Unit (x0Op, x0D, x0A, x0B, x0Fn, x0Wide, x0Part, x0Imm) fun y =>
        F_risc_Check Unit (x0Op, x0D, x0A, x0B, x0Fn, x0Wide, x0Part, x0Imm) fun y_1 =>
          br (W.not y_1) (br (W.pick (W.eq y.2 2) (W.eq y.1 0) false) (F_clevislaw23heads Unit () fun y => br (W.pick true y false) (some ()) none) none)
            (F_risc_Decode Unit y.1 fun y_2 =>
              br
                (W.pick (W.pick (W.eq y.2 0) (W.eq y_2.2 0) false)
                  (W.and2 (W.eq x0Op y_2.1.1)
                    (W.and2 (W.eq x0D y_2.1.2.1)
                      (W.and2 (W.eq x0A y_2.1.2.2.1)
                        (W.and2 (W.eq x0B y_2.1.2.2.2.1)
                          (W.and2 (W.eq x0Fn y_2.1.2.2.2.2.1) (W.and2 (W.eqB x0Wide y_2.1.2.2.2.2.2.1) (W.and2 (W.eq x0Part y_2.1.2.2.2.2.2.2.1) (W.and2 (W.eq x0Imm y_2.1.2.2.2.2.2.2.2) true))))))))
                  false)
                (F_clevislaw23heads Unit () fun y => br (W.pick true y false) (some ()) none) none)
theorem E_clevislaw23RiscBack {F_risc_Check : FT ps_risc_Check qs_risc_Check} {F_risc_Encode : FT ps_risc_Encode qs_risc_Encode} {F_risc_Decode : FT ps_risc_Decode qs_risc_Decode} {F_clevislaw23heads : FT ps_clevislaw23heads qs_clevislaw23heads} (h_risc_Check : SpecOk Tryd.prog 10 (mkS ps_risc_Check qs_risc_Check F_risc_Check)) (h_risc_Encode : SpecOk Tryd.prog 8 (mkS ps_risc_Encode qs_risc_Encode F_risc_Encode)) (h_risc_Decode : SpecOk Tryd.prog 15 (mkS ps_risc_Decode qs_risc_Decode F_risc_Decode)) (h_clevislaw23heads : SpecOk Tryd.prog 14 (mkS ps_clevislaw23heads qs_clevislaw23heads F_clevislaw23heads)) (x : PTs.D ps_clevislaw23RiscBack) (hL : L_clevislaw23RiscBack F_risc_Check F_risc_Encode F_risc_Decode F_clevislaw23heads x = some ()) :
    ∃ (C : Cfg) (fl d : Nat), CfgOk C ∧ C.P = Tryd.prog ∧ call C fl d 5 (encL false ps_clevislaw23RiscBack x) [] getL = some () :=
  ⟨_, 10, 12, (cfgOk_cons (cfgOk_cons (cfgOk_cons (cfgOk_cons base h_clevislaw23heads) h_risc_Decode) h_risc_Encode) h_risc_Check), rfl, (show _ = L_clevislaw23RiscBack F_risc_Check F_risc_Encode F_risc_Decode F_clevislaw23heads x by obtain ⟨x0Op, x0D, x0A, x0B, x0Fn, x0Wide, x0Part, x0Imm⟩ := x; kernel_rfl).trans hL⟩
abbrev ps_clevislaw23RiscAgain : List PT := [.one (.int .u32)]
noncomputable def L_clevislaw23RiscAgain (F_risc_Check : FT ps_risc_Check qs_risc_Check) (F_risc_Encode : FT ps_risc_Encode qs_risc_Encode) (F_risc_Decode : FT ps_risc_Decode qs_risc_Decode) (F_clevislaw23heads : FT ps_clevislaw23heads qs_clevislaw23heads)  (x : PTs.D ps_clevislaw23RiscAgain) : Option Unit := match x with
  | x0 => 
      F_risc_Decode Unit x0 fun y =>
        br (W.ne y.2 0)
          (br
            (W.and2 (W.eq y.1.1 0)
              (W.and2 (W.eq y.1.2.1 0)
                (W.and2 (W.eq y.1.2.2.1 0)
                  (W.and2 (W.eq y.1.2.2.2.1 0) (W.and2 (W.eq y.1.2.2.2.2.1 0) (W.and2 (W.eqB y.1.2.2.2.2.2.1 false) (W.and2 (W.eq y.1.2.2.2.2.2.2.1 0) (W.and2 (W.eq y.1.2.2.2.2.2.2.2 0) true))))))))
            (F_clevislaw23heads Unit () fun y => br (W.pick true y false) (some ()) none) none)
          (F_risc_Encode Unit (y.1.1, y.1.2.1, y.1.2.2.1, y.1.2.2.2.1, y.1.2.2.2.2.1, y.1.2.2.2.2.2.1, y.1.2.2.2.2.2.2.1, y.1.2.2.2.2.2.2.2) fun y_1 =>
            br (W.pick (W.eq y_1.2 0) (W.eq y_1.1 x0) false)
              (F_risc_Check Unit (y.1.1, y.1.2.1, y.1.2.2.1, y.1.2.2.2.1, y.1.2.2.2.2.1, y.1.2.2.2.2.2.1, y.1.2.2.2.2.2.2.1, y.1.2.2.2.2.2.2.2) fun y_2 =>
                br (W.pick (W.pick true y_2 false) (W.eq y.1.1 (W.wrap IntKind.i64 (W.shr IntKind.u32 x0 26))) false)
                  (F_clevislaw23heads Unit () fun y => br (W.pick true y false) (some ()) none) none)
              none)
theorem E_clevislaw23RiscAgain {F_risc_Check : FT ps_risc_Check qs_risc_Check} {F_risc_Encode : FT ps_risc_Encode qs_risc_Encode} {F_risc_Decode : FT ps_risc_Decode qs_risc_Decode} {F_clevislaw23heads : FT ps_clevislaw23heads qs_clevislaw23heads} (h_risc_Check : SpecOk Tryd.prog 10 (mkS ps_risc_Check qs_risc_Check F_risc_Check)) (h_risc_Encode : SpecOk Tryd.prog 8 (mkS ps_risc_Encode qs_risc_Encode F_risc_Encode)) (h_risc_Decode : SpecOk Tryd.prog 15 (mkS ps_risc_Decode qs_risc_Decode F_risc_Decode)) (h_clevislaw23heads : SpecOk Tryd.prog 14 (mkS ps_clevislaw23heads qs_clevislaw23heads F_clevislaw23heads)) (x : PTs.D ps_clevislaw23RiscAgain) (hL : L_clevislaw23RiscAgain F_risc_Check F_risc_Encode F_risc_Decode F_clevislaw23heads x = some ()) :
    ∃ (C : Cfg) (fl d : Nat), CfgOk C ∧ C.P = Tryd.prog ∧ call C fl d 6 (encL false ps_clevislaw23RiscAgain x) [] getL = some () :=
  ⟨_, 10, 12, (cfgOk_cons (cfgOk_cons (cfgOk_cons (cfgOk_cons base h_clevislaw23heads) h_risc_Decode) h_risc_Encode) h_risc_Check), rfl, (show _ = L_clevislaw23RiscAgain F_risc_Check F_risc_Encode F_risc_Decode F_clevislaw23heads x by kernel_rfl).trans hL⟩
abbrev ps_clevislaw23RiscApart : List PT := [.agg ((.prod (.int .i64) (.prod (.int .i64) (.prod (.int .i64) (.prod (.int .i64) (.prod (.int .i64) (.prod (.bool) (.prod (.int .i64) (.int .i64))))))))), .agg ((.prod (.int .i64) (.prod (.int .i64) (.prod (.int .i64) (.prod (.int .i64) (.prod (.int .i64) (.prod (.bool) (.prod (.int .i64) (.int .i64)))))))))]
noncomputable def L_clevislaw23RiscApart (F_risc_Encode : FT ps_risc_Encode qs_risc_Encode) (F_clevislaw23heads : FT ps_clevislaw23heads qs_clevislaw23heads)  (x : PTs.D ps_clevislaw23RiscApart) : Option Unit := match x with
  | ((x0Op, x0D, x0A, x0B, x0Fn, x0Wide, x0Part, x0Imm), (x1Op, x1D, x1A, x1B, x1Fn, x1Wide, x1Part, x1Imm)) => 
      F_risc_Encode Unit (x0Op, x0D, x0A, x0B, x0Fn, x0Wide, x0Part, x0Imm) fun y =>
        F_risc_Encode Unit (x1Op, x1D, x1A, x1B, x1Fn, x1Wide, x1Part, x1Imm) fun y_1 =>
          br (W.pick (W.ne y.2 0) true (W.ne y_1.2 0)) (F_clevislaw23heads Unit () fun y => br y (some ()) none)
            (br
              (W.eqB (W.eq y.1 y_1.1)
                (W.and2 (W.eq x0Op x1Op)
                  (W.and2 (W.eq x0D x1D)
                    (W.and2 (W.eq x0A x1A) (W.and2 (W.eq x0B x1B) (W.and2 (W.eq x0Fn x1Fn) (W.and2 (W.eqB x0Wide x1Wide) (W.and2 (W.eq x0Part x1Part) (W.and2 (W.eq x0Imm x1Imm) true)))))))))
              (F_clevislaw23heads Unit () fun y => br (W.pick true y false) (some ()) none) none)
theorem E_clevislaw23RiscApart {F_risc_Encode : FT ps_risc_Encode qs_risc_Encode} {F_clevislaw23heads : FT ps_clevislaw23heads qs_clevislaw23heads} (h_risc_Encode : SpecOk Tryd.prog 8 (mkS ps_risc_Encode qs_risc_Encode F_risc_Encode)) (h_clevislaw23heads : SpecOk Tryd.prog 14 (mkS ps_clevislaw23heads qs_clevislaw23heads F_clevislaw23heads)) (x : PTs.D ps_clevislaw23RiscApart) (hL : L_clevislaw23RiscApart F_risc_Encode F_clevislaw23heads x = some ()) :
    ∃ (C : Cfg) (fl d : Nat), CfgOk C ∧ C.P = Tryd.prog ∧ call C fl d 7 (encL false ps_clevislaw23RiscApart x) [] getL = some () :=
  ⟨_, 10, 12, (cfgOk_cons (cfgOk_cons base h_clevislaw23heads) h_risc_Encode), rfl, (show _ = L_clevislaw23RiscApart F_risc_Encode F_clevislaw23heads x by obtain ⟨⟨x0Op, x0D, x0A, x0B, x0Fn, x0Wide, x0Part, x0Imm⟩, ⟨x1Op, x1D, x1A, x1B, x1Fn, x1Wide, x1Part, x1Imm⟩⟩ := x; kernel_rfl).trans hL⟩
end Go.Proofs.YtiojpgompgmicaaDoor
