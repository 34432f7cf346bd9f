import Derived.Test.YtobdjaokdmifiaaProg
import Derived.Test.YtobdjaokdmifiaaEnwZ3
import Derived.KernelRfl
set_option maxHeartbeats 0
set_option maxRecDepth 1000000
set_option linter.unusedVariables false
namespace Go.Proofs.Ytobdjaokdmifiaa
open Go Go.Eng
theorem base : CfgOk (Cw Try.prog [] noH) := cfgOk_nil (noGo_of (by kernel_rfl)) (by kernel_rfl)
abbrev ps_word_low : List PT := [.one (.int .u64), .one (.bool)]
abbrev qs_word_low : List PT := [.one (.int .u64)]
noncomputable def N_word_low   : FT ps_word_low qs_word_low := fun R x k => match x with
  | (x0, x1) => 
      br x1 (k x0) (k (W.wrap IntKind.u64 (W.wrap IntKind.u32 x0)))
theorem S_word_low   : SpecOk Try.prog 25 (mkS ps_word_low qs_word_low (N_word_low )) :=
  specOk_mk (fl := 10) (d := 12) base (by rintro R ⟨x0, x1⟩ k; kernel_rfl)
noncomputable def F_word_low : FT ps_word_low qs_word_low := N_word_low  
theorem ok_word_low : SpecOk Try.prog 25 (mkS ps_word_low qs_word_low F_word_low) := S_word_low 
abbrev ps_word_shift : List PT := [.one (.int .i64), .one (.int .u64), .one (.int .u64), .one (.bool)]
abbrev qs_word_shift : List PT := [.one (.int .u64)]
noncomputable def N_word_shift   : FT ps_word_shift qs_word_shift := fun R x k => match x with
  | (x0, x1, x2, x3) => 
      br (W.not x3)
        (br (W.eq x0 96) (k (W.wrap IntKind.u64 (W.shl IntKind.u64 x1 (W.wrap IntKind.u64 (W.and IntKind.u64 x2 31)))))
          (br (W.eq x0 112) (k (W.shr IntKind.u64 x1 (W.wrap IntKind.u64 (W.and IntKind.u64 x2 31))))
            (br x3 (k (W.wrap IntKind.u64 (W.shr IntKind.i64 (W.wrap IntKind.i64 x1) (W.wrap IntKind.u64 (W.and IntKind.u64 x2 31)))))
              (k (W.wrap IntKind.u64 (W.wrap IntKind.u32 (W.shr IntKind.i32 (W.wrap IntKind.i32 (W.wrap IntKind.u32 x1)) (W.wrap IntKind.u64 (W.and IntKind.u64 x2 31)))))))))
        (br (W.eq x0 96) (k (W.wrap IntKind.u64 (W.shl IntKind.u64 x1 (W.wrap IntKind.u64 (W.and IntKind.u64 x2 63)))))
          (br (W.eq x0 112) (k (W.shr IntKind.u64 x1 (W.wrap IntKind.u64 (W.and IntKind.u64 x2 63))))
            (br x3 (k (W.wrap IntKind.u64 (W.shr IntKind.i64 (W.wrap IntKind.i64 x1) (W.wrap IntKind.u64 (W.and IntKind.u64 x2 63)))))
              (k (W.wrap IntKind.u64 (W.wrap IntKind.u32 (W.shr IntKind.i32 (W.wrap IntKind.i32 (W.wrap IntKind.u32 x1)) (W.wrap IntKind.u64 (W.and IntKind.u64 x2 63)))))))))
theorem S_word_shift   : SpecOk Try.prog 26 (mkS ps_word_shift qs_word_shift (N_word_shift )) :=
  specOk_mk (fl := 10) (d := 12) base (by rintro R ⟨x0, x1, x2, x3⟩ k; kernel_rfl)
noncomputable def F_word_shift : FT ps_word_shift qs_word_shift := N_word_shift  
theorem ok_word_shift : SpecOk Try.prog 26 (mkS ps_word_shift qs_word_shift F_word_shift) := S_word_shift 
abbrev ps_word_plain : List PT := [.one (.int .i64), .one (.int .u64), .one (.int .u64)]
abbrev qs_word_plain : List PT := [.one (.int .u64), .one (.bool)]
noncomputable def N_word_plain   : FT ps_word_plain qs_word_plain := fun R x k => match x with
  | (x0, x1, x2) => 
      br (W.eq x0 0) (k (W.wrap IntKind.u64 (W.add x1 x2), true))
        (br (W.eq x0 16) (k (W.wrap IntKind.u64 (W.sub x1 x2), true))
          (br (W.eq x0 32) (k (W.wrap IntKind.u64 (W.mul x1 x2), true))
            (br (W.eq x0 64) (k (W.wrap IntKind.u64 (W.or IntKind.u64 x1 x2), true))
              (br (W.eq x0 80) (k (W.wrap IntKind.u64 (W.and IntKind.u64 x1 x2), true))
                (br (W.eq x0 160) (k (W.wrap IntKind.u64 (W.xor IntKind.u64 x1 x2), true))
                  (br (W.eq x0 128) (k (W.wrap IntKind.u64 (W.sub 0 x1), true)) (br (W.eq x0 176) (k (x2, true)) (k (0, false)))))))))
theorem S_word_plain   : SpecOk Try.prog 27 (mkS ps_word_plain qs_word_plain (N_word_plain )) :=
  specOk_mk (fl := 10) (d := 12) base (by rintro R ⟨x0, x1, x2⟩ k; kernel_rfl)
noncomputable def F_word_plain : FT ps_word_plain qs_word_plain := N_word_plain  
theorem ok_word_plain : SpecOk Try.prog 27 (mkS ps_word_plain qs_word_plain F_word_plain) := S_word_plain 
abbrev ps_word_Alu : List PT := [.one (.int .i64), .one (.int .u64), .one (.int .u64), .one (.bool)]
abbrev qs_word_Alu : List PT := [.one (.int .u64), .one (.bool)]
noncomputable def N_word_Alu (F_word_low : FT ps_word_low qs_word_low) (F_word_shift : FT ps_word_shift qs_word_shift) (F_word_plain : FT ps_word_plain qs_word_plain)  : FT ps_word_Alu qs_word_Alu := fun R x k => match x with
  | (x0, x1, x2, x3) => 
      F_word_low R (x1, x3) fun y =>
        F_word_low R (x2, x3) fun y_1 =>
          br (W.eq x0 48) (br (W.eq y_1 0) (k (0, true)) (br (W.eq y_1 0) none (k (W.wrap IntKind.u64 (W.quo y y_1), true))))
            (br (W.eq x0 144) (br (W.eq y_1 0) (k (y, true)) (br (W.eq y_1 0) none (k (W.rem y y_1, true))))
              (br (W.eq x0 96)
                (br (W.eq x0 96) (F_word_shift R (x0, y, y_1, x3) fun y => F_word_low R (y, x3) fun y => k (y, true)) (F_word_plain R (x0, y, y_1) fun y => F_word_low R (y.1, x3) fun y_2 => k (y_2, y.2)))
                (br (W.eq x0 112)
                  (br (W.eq x0 112) (F_word_shift R (x0, y, y_1, x3) fun y => F_word_low R (y, x3) fun y => k (y, true))
                    (F_word_plain R (x0, y, y_1) fun y => F_word_low R (y.1, x3) fun y_2 => k (y_2, y.2)))
                  (br (W.eq x0 192) (F_word_shift R (x0, y, y_1, x3) fun y => F_word_low R (y, x3) fun y => k (y, true))
                    (F_word_plain R (x0, y, y_1) fun y => F_word_low R (y.1, x3) fun y_2 => k (y_2, y.2))))))
theorem S_word_Alu {F_word_low : FT ps_word_low qs_word_low} {F_word_shift : FT ps_word_shift qs_word_shift} {F_word_plain : FT ps_word_plain qs_word_plain} (h_word_low : SpecOk Try.prog 25 (mkS ps_word_low qs_word_low F_word_low)) (h_word_shift : SpecOk Try.prog 26 (mkS ps_word_shift qs_word_shift F_word_shift)) (h_word_plain : SpecOk Try.prog 27 (mkS ps_word_plain qs_word_plain F_word_plain)) : SpecOk Try.prog 9 (mkS ps_word_Alu qs_word_Alu (N_word_Alu F_word_low F_word_shift F_word_plain)) :=
  specOk_mk (fl := 10) (d := 12) (cfgOk_cons (cfgOk_cons (cfgOk_cons base h_word_plain) h_word_shift) h_word_low) (by rintro R ⟨x0, x1, x2, x3⟩ k; kernel_rfl)
noncomputable def F_word_Alu : FT ps_word_Alu qs_word_Alu := N_word_Alu F_word_low F_word_shift F_word_plain 
theorem ok_word_Alu : SpecOk Try.prog 9 (mkS ps_word_Alu qs_word_Alu F_word_Alu) := S_word_Alu ok_word_low ok_word_shift ok_word_plain
abbrev ps_clevisref01neg : List PT := [.one (.int .u64), .one (.bool)]
abbrev qs_clevisref01neg : List PT := [.one (.bool)]
noncomputable def N_clevisref01neg   : FT ps_clevisref01neg qs_clevisref01neg := fun R x k => match x with
  | (x0, x1) => 
      br x1 (k (W.eq (W.shr IntKind.u64 x0 63) 1)) (k (W.eq (W.wrap IntKind.u64 (W.and IntKind.u64 (W.shr IntKind.u64 x0 31) 1)) 1))
theorem S_clevisref01neg   : SpecOk Try.prog 31 (mkS ps_clevisref01neg qs_clevisref01neg (N_clevisref01neg )) :=
  specOk_mk (fl := 10) (d := 12) base (by rintro R ⟨x0, x1⟩ k; kernel_rfl)
noncomputable def F_clevisref01neg : FT ps_clevisref01neg qs_clevisref01neg := N_clevisref01neg  
theorem ok_clevisref01neg : SpecOk Try.prog 31 (mkS ps_clevisref01neg qs_clevisref01neg F_clevisref01neg) := S_clevisref01neg 
abbrev ps_clevisref01shift : List PT := [.one (.int .i64), .one (.int .u64), .one (.int .i64), .one (.bool)]
abbrev qs_clevisref01shift : List PT := [.one (.int .u64)]
noncomputable def P_clevisref01shift_7_0 (F_clevisref01neg : FT ps_clevisref01neg qs_clevisref01neg) (fl : Nat)  (n : Nat) (R : Type) (y0 : Int) (y1 : Int) (y2 : Int) (y3 : Int) (y4 : Int) (k : PTs.D qs_clevisref01shift → Option R) : Option R :=
  callFrom (Cw Try.prog [(31, mkS ps_clevisref01neg qs_clevisref01neg F_clevisref01neg)] noH) fl 11 0 28 7 n [] (some (
      S.mk
        [V.int IntKind.i64 y0, V.int IntKind.u64 y1, V.int IntKind.i64 y2, V.any, V.any, V.any, V.any, V.any, V.any, V.int IntKind.u64 y3, V.int IntKind.i64 y4, V.any, V.any, V.any, V.any, V.any, V.any,
          V.any, V.any, V.any, V.any, V.any, V.any, V.any, V.any, V.any, V.any, V.any, V.any, V.any, V.any, V.any, V.any]
        [] [])) (getR qs_clevisref01shift k)
theorem P_clevisref01shift_7_0_s {F_clevisref01neg : FT ps_clevisref01neg qs_clevisref01neg} (fl : Nat)  (n : Nat) (R : Type) (y0 : Int) (y1 : Int) (y2 : Int) (y3 : Int) (y4 : Int) (k : PTs.D qs_clevisref01shift → Option R) : P_clevisref01shift_7_0 F_clevisref01neg fl  (n + 1) R y0 y1 y2 y3 y4 k =
      br (W.lt y4 y2)
        (br (W.eq y0 96) (P_clevisref01shift_7_0 F_clevisref01neg fl n R y0 (W.wrap IntKind.u64 (W.mul y1 2)) y2 y3 (W.wrap IntKind.i64 (W.add y4 1)) k)
          (P_clevisref01shift_7_0 F_clevisref01neg fl n R y0 (W.wrap IntKind.u64 (W.or IntKind.u64 (W.wrap IntKind.u64 (W.quo y1 2)) y3)) y2 y3 (W.wrap IntKind.i64 (W.add y4 1)) k))
        (k y1) := by kernel_rfl
noncomputable def N_clevisref01shift (F_clevisref01neg : FT ps_clevisref01neg qs_clevisref01neg) (fl : Nat) : FT ps_clevisref01shift qs_clevisref01shift := fun R x k => match x with
  | (x0, x1, x2, x3) => 
      F_clevisref01neg R (x1, x3) fun y =>
        br (W.pick y (W.eq x0 192) false) (br x3 (P_clevisref01shift_7_0 F_clevisref01neg fl fl R x0 x1 x2 9223372036854775808 0 k) (P_clevisref01shift_7_0 F_clevisref01neg fl fl R x0 x1 x2 2147483648 0 k))
          (P_clevisref01shift_7_0 F_clevisref01neg fl fl R x0 x1 x2 0 0 k)
theorem Q_clevisref01shift {F_clevisref01neg : FT ps_clevisref01neg qs_clevisref01neg} (fl : Nat) (R : Type) (x : PTs.D ps_clevisref01shift) (k : PTs.D qs_clevisref01shift → Option R) : call (Cw Try.prog [(31, mkS ps_clevisref01neg qs_clevisref01neg F_clevisref01neg)] noH) fl 12 28 (encL true ps_clevisref01shift x) [] (getR qs_clevisref01shift k) = N_clevisref01shift F_clevisref01neg fl R x k := by
  obtain ⟨x0, x1, x2, x3⟩ := x; kernel_rfl
theorem S_clevisref01shift {F_clevisref01neg : FT ps_clevisref01neg qs_clevisref01neg} (h_clevisref01neg : SpecOk Try.prog 31 (mkS ps_clevisref01neg qs_clevisref01neg F_clevisref01neg)) : SpecOk Try.prog 28 (mkS ps_clevisref01shift qs_clevisref01shift (N_clevisref01shift F_clevisref01neg W.big)) :=
  specOk_mk (fl := W.big) (d := 12) (cfgOk_cons base h_clevisref01neg) (fun R x k => Q_clevisref01shift W.big R x k)
noncomputable def F_clevisref01shift : FT ps_clevisref01shift qs_clevisref01shift := N_clevisref01shift F_clevisref01neg W.big
theorem ok_clevisref01shift : SpecOk Try.prog 28 (mkS ps_clevisref01shift qs_clevisref01shift F_clevisref01shift) := S_clevisref01shift ok_clevisref01neg
abbrev ps_clevisref01Alu : List PT := [.one (.int .i64), .one (.int .u64), .one (.int .u64), .one (.bool)]
abbrev qs_clevisref01Alu : List PT := [.one (.int .u64), .one (.bool)]
noncomputable def N_clevisref01Alu (F_clevisref01shift : FT ps_clevisref01shift qs_clevisref01shift)  : FT ps_clevisref01Alu qs_clevisref01Alu := fun R x k => match x with
  | (x0, x1, x2, x3) => 
      br (W.not x3)
        (br (W.eq x0 0)
          (br (W.not x3)
            (k
              (W.wrap IntKind.u64 (W.and IntKind.u64 (W.wrap IntKind.u64 (W.add (W.wrap IntKind.u64 (W.and IntKind.u64 x1 4294967295)) (W.wrap IntKind.u64 (W.and IntKind.u64 x2 4294967295)))) 4294967295),
                true))
            (k (W.wrap IntKind.u64 (W.add (W.wrap IntKind.u64 (W.and IntKind.u64 x1 4294967295)) (W.wrap IntKind.u64 (W.and IntKind.u64 x2 4294967295))), true)))
          (br (W.eq x0 16)
            (br (W.not x3)
              (k
                (W.wrap IntKind.u64 (W.and IntKind.u64 (W.wrap IntKind.u64 (W.sub (W.wrap IntKind.u64 (W.and IntKind.u64 x1 4294967295)) (W.wrap IntKind.u64 (W.and IntKind.u64 x2 4294967295)))) 4294967295),
                  true))
              (k (W.wrap IntKind.u64 (W.sub (W.wrap IntKind.u64 (W.and IntKind.u64 x1 4294967295)) (W.wrap IntKind.u64 (W.and IntKind.u64 x2 4294967295))), true)))
            (br (W.eq x0 32)
              (br (W.not x3)
                (k
                  (W.wrap IntKind.u64
                      (W.and IntKind.u64 (W.wrap IntKind.u64 (W.mul (W.wrap IntKind.u64 (W.and IntKind.u64 x1 4294967295)) (W.wrap IntKind.u64 (W.and IntKind.u64 x2 4294967295)))) 4294967295),
                    true))
                (k (W.wrap IntKind.u64 (W.mul (W.wrap IntKind.u64 (W.and IntKind.u64 x1 4294967295)) (W.wrap IntKind.u64 (W.and IntKind.u64 x2 4294967295))), true)))
              (br (W.eq x0 48)
                (br (W.ne (W.wrap IntKind.u64 (W.and IntKind.u64 x2 4294967295)) 0)
                  (br (W.eq (W.wrap IntKind.u64 (W.and IntKind.u64 x2 4294967295)) 0) none
                    (br (W.not x3)
                      (k
                        (W.wrap IntKind.u64
                            (W.and IntKind.u64 (W.wrap IntKind.u64 (W.quo (W.wrap IntKind.u64 (W.and IntKind.u64 x1 4294967295)) (W.wrap IntKind.u64 (W.and IntKind.u64 x2 4294967295)))) 4294967295),
                          true))
                      (k (W.wrap IntKind.u64 (W.quo (W.wrap IntKind.u64 (W.and IntKind.u64 x1 4294967295)) (W.wrap IntKind.u64 (W.and IntKind.u64 x2 4294967295))), true))))
                  (br (W.not x3) (k (0, true)) (k (0, true))))
                (br (W.eq x0 144)
                  (br (W.ne (W.wrap IntKind.u64 (W.and IntKind.u64 x2 4294967295)) 0)
                    (br (W.eq (W.wrap IntKind.u64 (W.and IntKind.u64 x2 4294967295)) 0) none
                      (br (W.not x3)
                        (k (W.wrap IntKind.u64 (W.and IntKind.u64 (W.rem (W.wrap IntKind.u64 (W.and IntKind.u64 x1 4294967295)) (W.wrap IntKind.u64 (W.and IntKind.u64 x2 4294967295))) 4294967295), true))
                        (k (W.rem (W.wrap IntKind.u64 (W.and IntKind.u64 x1 4294967295)) (W.wrap IntKind.u64 (W.and IntKind.u64 x2 4294967295)), true))))
                    (br (W.not x3) (k (W.wrap IntKind.u64 (W.and IntKind.u64 (W.wrap IntKind.u64 (W.and IntKind.u64 x1 4294967295)) 4294967295), true))
                      (k (W.wrap IntKind.u64 (W.and IntKind.u64 x1 4294967295), true))))
                  (br (W.eq x0 64)
                    (br (W.not x3)
                      (k
                        (W.wrap IntKind.u64
                            (W.and IntKind.u64 (W.wrap IntKind.u64 (W.or IntKind.u64 (W.wrap IntKind.u64 (W.and IntKind.u64 x1 4294967295)) (W.wrap IntKind.u64 (W.and IntKind.u64 x2 4294967295))))
                              4294967295),
                          true))
                      (k (W.wrap IntKind.u64 (W.or IntKind.u64 (W.wrap IntKind.u64 (W.and IntKind.u64 x1 4294967295)) (W.wrap IntKind.u64 (W.and IntKind.u64 x2 4294967295))), true)))
                    (br (W.eq x0 80)
                      (br (W.not x3)
                        (k
                          (W.wrap IntKind.u64
                              (W.and IntKind.u64 (W.wrap IntKind.u64 (W.and IntKind.u64 (W.wrap IntKind.u64 (W.and IntKind.u64 x1 4294967295)) (W.wrap IntKind.u64 (W.and IntKind.u64 x2 4294967295))))
                                4294967295),
                            true))
                        (k (W.wrap IntKind.u64 (W.and IntKind.u64 (W.wrap IntKind.u64 (W.and IntKind.u64 x1 4294967295)) (W.wrap IntKind.u64 (W.and IntKind.u64 x2 4294967295))), true)))
                      (br (W.eq x0 160)
                        (br (W.not x3)
                          (k
                            (W.wrap IntKind.u64
                                (W.and IntKind.u64 (W.wrap IntKind.u64 (W.xor IntKind.u64 (W.wrap IntKind.u64 (W.and IntKind.u64 x1 4294967295)) (W.wrap IntKind.u64 (W.and IntKind.u64 x2 4294967295))))
                                  4294967295),
                              true))
                          (k (W.wrap IntKind.u64 (W.xor IntKind.u64 (W.wrap IntKind.u64 (W.and IntKind.u64 x1 4294967295)) (W.wrap IntKind.u64 (W.and IntKind.u64 x2 4294967295))), true)))
                        (br (W.eq x0 96)
                          (br (W.eq x0 96)
                            (F_clevisref01shift R (x0, W.wrap IntKind.u64 (W.and IntKind.u64 x1 4294967295), W.wrap IntKind.i64 (W.rem (W.wrap IntKind.u64 (W.and IntKind.u64 x2 4294967295)) 32), x3)
                              fun y => br (W.not x3) (k (W.wrap IntKind.u64 (W.and IntKind.u64 y 4294967295), true)) (k (y, true)))
                            (br (W.eq x0 128)
                              (br (W.not x3) (k (W.wrap IntKind.u64 (W.and IntKind.u64 (W.wrap IntKind.u64 (W.sub 0 (W.wrap IntKind.u64 (W.and IntKind.u64 x1 4294967295)))) 4294967295), true))
                                (k (W.wrap IntKind.u64 (W.sub 0 (W.wrap IntKind.u64 (W.and IntKind.u64 x1 4294967295))), true)))
                              (br (W.eq x0 176)
                                (br (W.not x3) (k (W.wrap IntKind.u64 (W.and IntKind.u64 (W.wrap IntKind.u64 (W.and IntKind.u64 x2 4294967295)) 4294967295), true))
                                  (k (W.wrap IntKind.u64 (W.and IntKind.u64 x2 4294967295), true)))
                                (k (0, false)))))
                          (br (W.eq x0 112)
                            (br (W.eq x0 112)
                              (F_clevisref01shift R (x0, W.wrap IntKind.u64 (W.and IntKind.u64 x1 4294967295), W.wrap IntKind.i64 (W.rem (W.wrap IntKind.u64 (W.and IntKind.u64 x2 4294967295)) 32), x3)
                                fun y => br (W.not x3) (k (W.wrap IntKind.u64 (W.and IntKind.u64 y 4294967295), true)) (k (y, true)))
                              (br (W.eq x0 128)
                                (br (W.not x3) (k (W.wrap IntKind.u64 (W.and IntKind.u64 (W.wrap IntKind.u64 (W.sub 0 (W.wrap IntKind.u64 (W.and IntKind.u64 x1 4294967295)))) 4294967295), true))
                                  (k (W.wrap IntKind.u64 (W.sub 0 (W.wrap IntKind.u64 (W.and IntKind.u64 x1 4294967295))), true)))
                                (br (W.eq x0 176)
                                  (br (W.not x3) (k (W.wrap IntKind.u64 (W.and IntKind.u64 (W.wrap IntKind.u64 (W.and IntKind.u64 x2 4294967295)) 4294967295), true))
                                    (k (W.wrap IntKind.u64 (W.and IntKind.u64 x2 4294967295), true)))
                                  (k (0, false)))))
                            (br (W.eq x0 192)
                              (F_clevisref01shift R (x0, W.wrap IntKind.u64 (W.and IntKind.u64 x1 4294967295), W.wrap IntKind.i64 (W.rem (W.wrap IntKind.u64 (W.and IntKind.u64 x2 4294967295)) 32), x3)
                                fun y => br (W.not x3) (k (W.wrap IntKind.u64 (W.and IntKind.u64 y 4294967295), true)) (k (y, true)))
                              (br (W.eq x0 128)
                                (br (W.not x3) (k (W.wrap IntKind.u64 (W.and IntKind.u64 (W.wrap IntKind.u64 (W.sub 0 (W.wrap IntKind.u64 (W.and IntKind.u64 x1 4294967295)))) 4294967295), true))
                                  (k (W.wrap IntKind.u64 (W.sub 0 (W.wrap IntKind.u64 (W.and IntKind.u64 x1 4294967295))), true)))
                                (br (W.eq x0 176)
                                  (br (W.not x3) (k (W.wrap IntKind.u64 (W.and IntKind.u64 (W.wrap IntKind.u64 (W.and IntKind.u64 x2 4294967295)) 4294967295), true))
                                    (k (W.wrap IntKind.u64 (W.and IntKind.u64 x2 4294967295), true)))
                                  (k (0, false)))))))))))))))
        (br (W.eq x0 0) (br (W.not x3) (k (W.wrap IntKind.u64 (W.and IntKind.u64 (W.wrap IntKind.u64 (W.add x1 x2)) 4294967295), true)) (k (W.wrap IntKind.u64 (W.add x1 x2), true)))
          (br (W.eq x0 16) (br (W.not x3) (k (W.wrap IntKind.u64 (W.and IntKind.u64 (W.wrap IntKind.u64 (W.sub x1 x2)) 4294967295), true)) (k (W.wrap IntKind.u64 (W.sub x1 x2), true)))
            (br (W.eq x0 32) (br (W.not x3) (k (W.wrap IntKind.u64 (W.and IntKind.u64 (W.wrap IntKind.u64 (W.mul x1 x2)) 4294967295), true)) (k (W.wrap IntKind.u64 (W.mul x1 x2), true)))
              (br (W.eq x0 48)
                (br (W.ne x2 0)
                  (br (W.eq x2 0) none (br (W.not x3) (k (W.wrap IntKind.u64 (W.and IntKind.u64 (W.wrap IntKind.u64 (W.quo x1 x2)) 4294967295), true)) (k (W.wrap IntKind.u64 (W.quo x1 x2), true))))
                  (br (W.not x3) (k (0, true)) (k (0, true))))
                (br (W.eq x0 144)
                  (br (W.ne x2 0) (br (W.eq x2 0) none (br (W.not x3) (k (W.wrap IntKind.u64 (W.and IntKind.u64 (W.rem x1 x2) 4294967295), true)) (k (W.rem x1 x2, true))))
                    (br (W.not x3) (k (W.wrap IntKind.u64 (W.and IntKind.u64 x1 4294967295), true)) (k (x1, true))))
                  (br (W.eq x0 64)
                    (br (W.not x3) (k (W.wrap IntKind.u64 (W.and IntKind.u64 (W.wrap IntKind.u64 (W.or IntKind.u64 x1 x2)) 4294967295), true)) (k (W.wrap IntKind.u64 (W.or IntKind.u64 x1 x2), true)))
                    (br (W.eq x0 80)
                      (br (W.not x3) (k (W.wrap IntKind.u64 (W.and IntKind.u64 (W.wrap IntKind.u64 (W.and IntKind.u64 x1 x2)) 4294967295), true)) (k (W.wrap IntKind.u64 (W.and IntKind.u64 x1 x2), true)))
                      (br (W.eq x0 160)
                        (br (W.not x3) (k (W.wrap IntKind.u64 (W.and IntKind.u64 (W.wrap IntKind.u64 (W.xor IntKind.u64 x1 x2)) 4294967295), true)) (k (W.wrap IntKind.u64 (W.xor IntKind.u64 x1 x2), true)))
                        (br (W.eq x0 96)
                          (br (W.eq x0 96)
                            (F_clevisref01shift R (x0, x1, W.wrap IntKind.i64 (W.rem x2 64), x3) fun y => br (W.not x3) (k (W.wrap IntKind.u64 (W.and IntKind.u64 y 4294967295), true)) (k (y, true)))
                            (br (W.eq x0 128) (br (W.not x3) (k (W.wrap IntKind.u64 (W.and IntKind.u64 (W.wrap IntKind.u64 (W.sub 0 x1)) 4294967295), true)) (k (W.wrap IntKind.u64 (W.sub 0 x1), true)))
                              (br (W.eq x0 176) (br (W.not x3) (k (W.wrap IntKind.u64 (W.and IntKind.u64 x2 4294967295), true)) (k (x2, true))) (k (0, false)))))
                          (br (W.eq x0 112)
                            (br (W.eq x0 112)
                              (F_clevisref01shift R (x0, x1, W.wrap IntKind.i64 (W.rem x2 64), x3) fun y => br (W.not x3) (k (W.wrap IntKind.u64 (W.and IntKind.u64 y 4294967295), true)) (k (y, true)))
                              (br (W.eq x0 128) (br (W.not x3) (k (W.wrap IntKind.u64 (W.and IntKind.u64 (W.wrap IntKind.u64 (W.sub 0 x1)) 4294967295), true)) (k (W.wrap IntKind.u64 (W.sub 0 x1), true)))
                                (br (W.eq x0 176) (br (W.not x3) (k (W.wrap IntKind.u64 (W.and IntKind.u64 x2 4294967295), true)) (k (x2, true))) (k (0, false)))))
                            (br (W.eq x0 192)
                              (F_clevisref01shift R (x0, x1, W.wrap IntKind.i64 (W.rem x2 64), x3) fun y => br (W.not x3) (k (W.wrap IntKind.u64 (W.and IntKind.u64 y 4294967295), true)) (k (y, true)))
                              (br (W.eq x0 128) (br (W.not x3) (k (W.wrap IntKind.u64 (W.and IntKind.u64 (W.wrap IntKind.u64 (W.sub 0 x1)) 4294967295), true)) (k (W.wrap IntKind.u64 (W.sub 0 x1), true)))
                                (br (W.eq x0 176) (br (W.not x3) (k (W.wrap IntKind.u64 (W.and IntKind.u64 x2 4294967295), true)) (k (x2, true))) (k (0, false)))))))))))))))
theorem S_clevisref01Alu {F_clevisref01shift : FT ps_clevisref01shift qs_clevisref01shift} (h_clevisref01shift : SpecOk Try.prog 28 (mkS ps_clevisref01shift qs_clevisref01shift F_clevisref01shift)) : SpecOk Try.prog 10 (mkS ps_clevisref01Alu qs_clevisref01Alu (N_clevisref01Alu F_clevisref01shift)) :=
  specOk_mk (fl := 10) (d := 12) (cfgOk_cons base h_clevisref01shift) (by rintro R ⟨x0, x1, x2, x3⟩ k; kernel_rfl)
noncomputable def F_clevisref01Alu : FT ps_clevisref01Alu qs_clevisref01Alu := N_clevisref01Alu F_clevisref01shift 
theorem ok_clevisref01Alu : SpecOk Try.prog 10 (mkS ps_clevisref01Alu qs_clevisref01Alu F_clevisref01Alu) := S_clevisref01Alu ok_clevisref01shift
abbrev ps_word_compare_int64 : List PT := [.one (.int .i64), .one (.int .i64)]
abbrev qs_word_compare_int64 : List PT := [.one (.int .i64)]
noncomputable def N_word_compare_int64   : FT ps_word_compare_int64 qs_word_compare_int64 := fun R x k => match x with
  | (x0, x1) => 
      br (W.lt x0 x1) (k (-1)) (br (W.gt x0 x1) (k 1) (k 0))
theorem S_word_compare_int64   : SpecOk Try.prog 32 (mkS ps_word_compare_int64 qs_word_compare_int64 (N_word_compare_int64 )) :=
  specOk_mk (fl := 10) (d := 12) base (by rintro R ⟨x0, x1⟩ k; kernel_rfl)
noncomputable def F_word_compare_int64 : FT ps_word_compare_int64 qs_word_compare_int64 := N_word_compare_int64  
theorem ok_word_compare_int64 : SpecOk Try.prog 32 (mkS ps_word_compare_int64 qs_word_compare_int64 F_word_compare_int64) := S_word_compare_int64 
abbrev ps_word_compare_uint64 : List PT := [.one (.int .u64), .one (.int .u64)]
abbrev qs_word_compare_uint64 : List PT := [.one (.int .i64)]
noncomputable def N_word_compare_uint64   : FT ps_word_compare_uint64 qs_word_compare_uint64 := fun R x k => match x with
  | (x0, x1) => 
      br (W.lt x0 x1) (k (-1)) (br (W.gt x0 x1) (k 1) (k 0))
theorem S_word_compare_uint64   : SpecOk Try.prog 33 (mkS ps_word_compare_uint64 qs_word_compare_uint64 (N_word_compare_uint64 )) :=
  specOk_mk (fl := 10) (d := 12) base (by rintro R ⟨x0, x1⟩ k; kernel_rfl)
noncomputable def F_word_compare_uint64 : FT ps_word_compare_uint64 qs_word_compare_uint64 := N_word_compare_uint64  
theorem ok_word_compare_uint64 : SpecOk Try.prog 33 (mkS ps_word_compare_uint64 qs_word_compare_uint64 F_word_compare_uint64) := S_word_compare_uint64 
abbrev ps_word_order : List PT := [.one (.int .i64), .one (.int .u64), .one (.int .u64), .one (.bool)]
abbrev qs_word_order : List PT := [.one (.int .i64)]
noncomputable def N_word_order (F_word_compare_int64 : FT ps_word_compare_int64 qs_word_compare_int64) (F_word_compare_uint64 : FT ps_word_compare_uint64 qs_word_compare_uint64)  : FT ps_word_order qs_word_order := fun R x k => match x with
  | (x0, x1, x2, x3) => 
      br (W.eq x0 96)
        (br (W.not x3) (F_word_compare_int64 R (W.wrap IntKind.i64 (W.wrap IntKind.i32 (W.wrap IntKind.u32 x1)), W.wrap IntKind.i64 (W.wrap IntKind.i32 (W.wrap IntKind.u32 x2))) fun y => k y)
          (F_word_compare_int64 R (W.wrap IntKind.i64 x1, W.wrap IntKind.i64 x2) fun y => k y))
        (br (W.eq x0 112)
          (br (W.not x3) (F_word_compare_int64 R (W.wrap IntKind.i64 (W.wrap IntKind.i32 (W.wrap IntKind.u32 x1)), W.wrap IntKind.i64 (W.wrap IntKind.i32 (W.wrap IntKind.u32 x2))) fun y => k y)
            (F_word_compare_int64 R (W.wrap IntKind.i64 x1, W.wrap IntKind.i64 x2) fun y => k y))
          (br (W.eq x0 192)
            (br (W.not x3) (F_word_compare_int64 R (W.wrap IntKind.i64 (W.wrap IntKind.i32 (W.wrap IntKind.u32 x1)), W.wrap IntKind.i64 (W.wrap IntKind.i32 (W.wrap IntKind.u32 x2))) fun y => k y)
              (F_word_compare_int64 R (W.wrap IntKind.i64 x1, W.wrap IntKind.i64 x2) fun y => k y))
            (br (W.eq x0 208)
              (br (W.not x3) (F_word_compare_int64 R (W.wrap IntKind.i64 (W.wrap IntKind.i32 (W.wrap IntKind.u32 x1)), W.wrap IntKind.i64 (W.wrap IntKind.i32 (W.wrap IntKind.u32 x2))) fun y => k y)
                (F_word_compare_int64 R (W.wrap IntKind.i64 x1, W.wrap IntKind.i64 x2) fun y => k y))
              (F_word_compare_uint64 R (x1, x2) fun y => k y))))
theorem S_word_order {F_word_compare_int64 : FT ps_word_compare_int64 qs_word_compare_int64} {F_word_compare_uint64 : FT ps_word_compare_uint64 qs_word_compare_uint64} (h_word_compare_int64 : SpecOk Try.prog 32 (mkS ps_word_compare_int64 qs_word_compare_int64 F_word_compare_int64)) (h_word_compare_uint64 : SpecOk Try.prog 33 (mkS ps_word_compare_uint64 qs_word_compare_uint64 F_word_compare_uint64)) : SpecOk Try.prog 29 (mkS ps_word_order qs_word_order (N_word_order F_word_compare_int64 F_word_compare_uint64)) :=
  specOk_mk (fl := 10) (d := 12) (cfgOk_cons (cfgOk_cons base h_word_compare_uint64) h_word_compare_int64) (by rintro R ⟨x0, x1, x2, x3⟩ k; kernel_rfl)
noncomputable def F_word_order : FT ps_word_order qs_word_order := N_word_order F_word_compare_int64 F_word_compare_uint64 
theorem ok_word_order : SpecOk Try.prog 29 (mkS ps_word_order qs_word_order F_word_order) := S_word_order ok_word_compare_int64 ok_word_compare_uint64
abbrev ps_word_Cond : List PT := [.one (.int .i64), .one (.int .u64), .one (.int .u64), .one (.bool)]
abbrev qs_word_Cond : List PT := [.one (.bool), .one (.bool)]
noncomputable def N_word_Cond (F_word_low : FT ps_word_low qs_word_low) (F_word_order : FT ps_word_order qs_word_order)  : FT ps_word_Cond qs_word_Cond := fun R x k => match x with
  | (x0, x1, x2, x3) => 
      F_word_low R (x1, x3) fun y =>
        F_word_low R (x2, x3) fun y_1 =>
          F_word_order R (x0, y, y_1, x3) fun y_2 =>
            br (W.eq x0 16) (k (W.eq y_2 0, true))
              (br (W.eq x0 80) (k (W.ne y_2 0, true))
                (br (W.eq x0 64) (k (W.ne (W.wrap IntKind.u64 (W.and IntKind.u64 y y_1)) 0, true))
                  (br (W.eq x0 32)
                    (br (W.eq x0 32) (k (W.gt y_2 0, true))
                      (br (W.eq x0 48)
                        (br (W.eq x0 48) (k (W.ge y_2 0, true))
                          (br (W.eq x0 160)
                            (br (W.eq x0 160) (k (W.lt y_2 0, true))
                              (br (W.eq x0 176) (br (W.eq x0 176) (k (W.le y_2 0, true)) (k (false, false))) (br (W.eq x0 208) (k (W.le y_2 0, true)) (k (false, false)))))
                            (br (W.eq x0 192) (k (W.lt y_2 0, true))
                              (br (W.eq x0 176) (br (W.eq x0 176) (k (W.le y_2 0, true)) (k (false, false))) (br (W.eq x0 208) (k (W.le y_2 0, true)) (k (false, false)))))))
                        (br (W.eq x0 112) (k (W.ge y_2 0, true))
                          (br (W.eq x0 160)
                            (br (W.eq x0 160) (k (W.lt y_2 0, true))
                              (br (W.eq x0 176) (br (W.eq x0 176) (k (W.le y_2 0, true)) (k (false, false))) (br (W.eq x0 208) (k (W.le y_2 0, true)) (k (false, false)))))
                            (br (W.eq x0 192) (k (W.lt y_2 0, true))
                              (br (W.eq x0 176) (br (W.eq x0 176) (k (W.le y_2 0, true)) (k (false, false))) (br (W.eq x0 208) (k (W.le y_2 0, true)) (k (false, false)))))))))
                    (br (W.eq x0 96) (k (W.gt y_2 0, true))
                      (br (W.eq x0 48)
                        (br (W.eq x0 48) (k (W.ge y_2 0, true))
                          (br (W.eq x0 160)
                            (br (W.eq x0 160) (k (W.lt y_2 0, true))
                              (br (W.eq x0 176) (br (W.eq x0 176) (k (W.le y_2 0, true)) (k (false, false))) (br (W.eq x0 208) (k (W.le y_2 0, true)) (k (false, false)))))
                            (br (W.eq x0 192) (k (W.lt y_2 0, true))
                              (br (W.eq x0 176) (br (W.eq x0 176) (k (W.le y_2 0, true)) (k (false, false))) (br (W.eq x0 208) (k (W.le y_2 0, true)) (k (false, false)))))))
                        (br (W.eq x0 112) (k (W.ge y_2 0, true))
                          (br (W.eq x0 160)
                            (br (W.eq x0 160) (k (W.lt y_2 0, true))
                              (br (W.eq x0 176) (br (W.eq x0 176) (k (W.le y_2 0, true)) (k (false, false))) (br (W.eq x0 208) (k (W.le y_2 0, true)) (k (false, false)))))
                            (br (W.eq x0 192) (k (W.lt y_2 0, true))
                              (br (W.eq x0 176) (br (W.eq x0 176) (k (W.le y_2 0, true)) (k (false, false))) (br (W.eq x0 208) (k (W.le y_2 0, true)) (k (false, false))))))))))))
theorem S_word_Cond {F_word_low : FT ps_word_low qs_word_low} {F_word_order : FT ps_word_order qs_word_order} (h_word_low : SpecOk Try.prog 25 (mkS ps_word_low qs_word_low F_word_low)) (h_word_order : SpecOk Try.prog 29 (mkS ps_word_order qs_word_order F_word_order)) : SpecOk Try.prog 12 (mkS ps_word_Cond qs_word_Cond (N_word_Cond F_word_low F_word_order)) :=
  specOk_mk (fl := 10) (d := 12) (cfgOk_cons (cfgOk_cons base h_word_order) h_word_low) (by rintro R ⟨x0, x1, x2, x3⟩ k; kernel_rfl)
noncomputable def F_word_Cond : FT ps_word_Cond qs_word_Cond := N_word_Cond F_word_low F_word_order 
theorem ok_word_Cond : SpecOk Try.prog 12 (mkS ps_word_Cond qs_word_Cond F_word_Cond) := S_word_Cond ok_word_low ok_word_order
abbrev ps_word_Size : List PT := [.one (.int .i64)]
abbrev qs_word_Size : List PT := [.one (.bool)]
noncomputable def N_word_Size   : FT ps_word_Size qs_word_Size := fun R x k => match x with
  | x0 => 
      k (W.pick (W.pick (W.gt x0 0) (W.le x0 8) false) (W.eq (W.wrap IntKind.i64 (W.and IntKind.i64 x0 (W.wrap IntKind.i64 (W.sub x0 1)))) 0) false)
theorem S_word_Size   : SpecOk Try.prog 15 (mkS ps_word_Size qs_word_Size (N_word_Size )) :=
  specOk_mk (fl := 10) (d := 12) base (by intro R x0 k; kernel_rfl)
noncomputable def F_word_Size : FT ps_word_Size qs_word_Size := N_word_Size  
theorem ok_word_Size : SpecOk Try.prog 15 (mkS ps_word_Size qs_word_Size F_word_Size) := S_word_Size 
abbrev ps_word_Get : List PT := [.one (.slice (.int .u8))]
abbrev qs_word_Get : List PT := [.one (.int .u64)]
noncomputable def P_word_Get_5_0  (fl : Nat)  (n : Nat) (R : Type) (y0 : Int) (y1 : Int) (y2 : List Int) (k : PTs.D qs_word_Get → Option R) : Option R :=
  callFrom (Cw Try.prog [] noH) fl 11 0 16 5 n [] (some (
      S.mk [V.any, V.any, V.any, V.parr 0 8 1, V.int IntKind.u64 y0, V.any, V.any, V.any, V.any, V.int IntKind.i64 y1, V.any, V.any, V.any, V.any, V.any, V.any, V.any, V.any, V.any, V.any, V.any, V.any] []
        [Blk.row (Ty.int IntKind.u8) y2])) (getR qs_word_Get k)
theorem P_word_Get_5_0_s  (fl : Nat)  (n : Nat) (R : Type) (y0 : Int) (y1 : Int) (y2 : List Int) (k : PTs.D qs_word_Get → Option R) : P_word_Get_5_0  fl  (n + 1) R y0 y1 y2 k =
      br (W.lt y1 8)
        (br (W.and2 (W.le 0 (W.wrap IntKind.i64 (W.sub 7 y1))) (W.lt (W.wrap IntKind.i64 (W.sub 7 y1)) 8))
          (P_word_Get_5_0 fl n R (W.wrap IntKind.u64 (W.or IntKind.u64 (W.wrap IntKind.u64 (W.shl IntKind.u64 y0 8)) (W.wrap IntKind.u64 (W.get y2 (W.toNat (W.wrap IntKind.i64 (W.sub 7 y1))) 0))))
            (W.wrap IntKind.i64 (W.add y1 1)) y2 k)
          none)
        (k y0) := by kernel_rfl
noncomputable def N_word_Get  (fl : Nat) : FT ps_word_Get qs_word_Get := fun R x k => match x with
  | x0 => 
      P_word_Get_5_0 fl fl R 0 0 (W.over [0, 0, 0, 0, 0, 0, 0, 0] 0 (W.slice x0 0 (W.minN (W.len x0) 8))) k
theorem Q_word_Get  (fl : Nat) (R : Type) (x : PTs.D ps_word_Get) (k : PTs.D qs_word_Get → Option R) : call (Cw Try.prog [] noH) fl 12 16 (encL true ps_word_Get x) [] (getR qs_word_Get k) = N_word_Get  fl R x k := by
  kernel_rfl
theorem S_word_Get   : SpecOk Try.prog 16 (mkS ps_word_Get qs_word_Get (N_word_Get  W.big)) :=
  specOk_mk (fl := W.big) (d := 12) base (fun R x k => Q_word_Get W.big R x k)
noncomputable def F_word_Get : FT ps_word_Get qs_word_Get := N_word_Get  W.big
theorem ok_word_Get : SpecOk Try.prog 16 (mkS ps_word_Get qs_word_Get F_word_Get) := S_word_Get 
abbrev ps_clevislaw01heads : List PT := []
abbrev qs_clevislaw01heads : List PT := [.one (.bool)]
noncomputable def N_clevislaw01heads (F_word_Alu : FT ps_word_Alu qs_word_Alu) (F_word_Cond : FT ps_word_Cond qs_word_Cond) (F_word_Size : FT ps_word_Size qs_word_Size) (F_word_Get : FT ps_word_Get qs_word_Get)  : FT ps_clevislaw01heads qs_clevislaw01heads := fun R x k => match x with
  | () => 
      F_word_Alu R (48, 7, 0, true) fun y =>
        F_word_Alu R (144, 7, 0, true) fun y_1 =>
          F_word_Alu R (192, 2147483648, 4, false) fun y_2 =>
            F_word_Cond R (192, 18446744073709551615, 0, true) fun y_3 =>
              F_word_Alu R (208, 1, 1, true) fun y_4 =>
                br (W.pick (W.pick (W.pick (W.pick (W.pick (W.pick (W.eq y.1 0) y.2 false) (W.eq y_1.1 7) false) (W.eq y_2.1 4160749568) false) y_3.1 false) y_3.2 false) (W.not y_4.2) false)
                  (F_word_Get R [1, 2] fun y =>
                    br (W.pick true (W.eq y 513) false) (F_word_Size R 4 fun y => br (W.pick true y false) (F_word_Size R 3 fun y => k (W.pick true (W.not y) false)) (k false)) (k false))
                  (k false)
theorem S_clevislaw01heads {F_word_Alu : FT ps_word_Alu qs_word_Alu} {F_word_Cond : FT ps_word_Cond qs_word_Cond} {F_word_Size : FT ps_word_Size qs_word_Size} {F_word_Get : FT ps_word_Get qs_word_Get} (h_word_Alu : SpecOk Try.prog 9 (mkS ps_word_Alu qs_word_Alu F_word_Alu)) (h_word_Cond : SpecOk Try.prog 12 (mkS ps_word_Cond qs_word_Cond F_word_Cond)) (h_word_Size : SpecOk Try.prog 15 (mkS ps_word_Size qs_word_Size F_word_Size)) (h_word_Get : SpecOk Try.prog 16 (mkS ps_word_Get qs_word_Get F_word_Get)) : SpecOk Try.prog 11 (mkS ps_clevislaw01heads qs_clevislaw01heads (N_clevislaw01heads F_word_Alu F_word_Cond F_word_Size F_word_Get)) :=
  specOk_mk (fl := 10) (d := 12) (cfgOk_cons (cfgOk_cons (cfgOk_cons (cfgOk_cons base h_word_Get) h_word_Size) h_word_Cond) h_word_Alu) (by intro R x k; kernel_rfl)
noncomputable def F_clevislaw01heads : FT ps_clevislaw01heads qs_clevislaw01heads := N_clevislaw01heads F_word_Alu F_word_Cond F_word_Size F_word_Get 
theorem ok_clevislaw01heads : SpecOk Try.prog 11 (mkS ps_clevislaw01heads qs_clevislaw01heads F_clevislaw01heads) := S_clevislaw01heads ok_word_Alu ok_word_Cond ok_word_Size ok_word_Get
abbrev ps_clevislaw01WordReckons : List PT := [.one (.int .i64), .one (.int .u64), .one (.int .u64), .one (.bool)]
noncomputable def L_clevislaw01WordReckons (F_word_Alu : FT ps_word_Alu qs_word_Alu) (F_clevisref01Alu : FT ps_clevisref01Alu qs_clevisref01Alu) (F_clevislaw01heads : FT ps_clevislaw01heads qs_clevislaw01heads)  (x : PTs.D ps_clevislaw01WordReckons) : Option Unit := match x with
  | (x0, x1, x2, x3) => 
      F_word_Alu Unit (x0, x1, x2, x3) fun y =>
        F_clevisref01Alu Unit (x0, x1, x2, x3) fun y_1 =>
          br (W.pick (W.eq y.1 y_1.1) (W.eqB y.2 y_1.2) false) (F_clevislaw01heads Unit () fun y => br (W.pick true y false) (some ()) none) none
theorem E_clevislaw01WordReckons {F_word_Alu : FT ps_word_Alu qs_word_Alu} {F_clevisref01Alu : FT ps_clevisref01Alu qs_clevisref01Alu} {F_clevislaw01heads : FT ps_clevislaw01heads qs_clevislaw01heads} (h_word_Alu : SpecOk Try.prog 9 (mkS ps_word_Alu qs_word_Alu F_word_Alu)) (h_clevisref01Alu : SpecOk Try.prog 10 (mkS ps_clevisref01Alu qs_clevisref01Alu F_clevisref01Alu)) (h_clevislaw01heads : SpecOk Try.prog 11 (mkS ps_clevislaw01heads qs_clevislaw01heads F_clevislaw01heads)) (x : PTs.D ps_clevislaw01WordReckons) (hL : L_clevislaw01WordReckons F_word_Alu F_clevisref01Alu F_clevislaw01heads x = some ()) :
    ∃ (C : Cfg) (fl d : Nat), CfgOk C ∧ C.P = Try.prog ∧ call C fl d 3 (encL false ps_clevislaw01WordReckons x) [] getL = some () :=
  ⟨_, 10, 12, (cfgOk_cons (cfgOk_cons (cfgOk_cons base h_clevislaw01heads) h_clevisref01Alu) h_word_Alu), rfl, (show _ = L_clevislaw01WordReckons F_word_Alu F_clevisref01Alu F_clevislaw01heads x by obtain ⟨x0, x1, x2, x3⟩ := x; kernel_rfl).trans hL⟩
abbrev ps_clevisref01less : List PT := [.one (.int .u64), .one (.int .u64), .one (.bool), .one (.bool)]
abbrev qs_clevisref01less : List PT := [.one (.bool)]
noncomputable def N_clevisref01less (F_clevisref01neg : FT ps_clevisref01neg qs_clevisref01neg)  : FT ps_clevisref01less qs_clevisref01less := fun R x k => match x with
  | (x0, x1, x2, x3) => 
      br x2 (F_clevisref01neg R (x0, x3) fun y => F_clevisref01neg R (x1, x3) fun y_1 => br (W.pick true (W.not (W.eqB y y_1)) false) (F_clevisref01neg R (x0, x3) fun y => k y) (k (W.lt x0 x1)))
        (k (W.lt x0 x1))
theorem S_clevisref01less {F_clevisref01neg : FT ps_clevisref01neg qs_clevisref01neg} (h_clevisref01neg : SpecOk Try.prog 31 (mkS ps_clevisref01neg qs_clevisref01neg F_clevisref01neg)) : SpecOk Try.prog 30 (mkS ps_clevisref01less qs_clevisref01less (N_clevisref01less F_clevisref01neg)) :=
  specOk_mk (fl := 10) (d := 12) (cfgOk_cons base h_clevisref01neg) (by rintro R ⟨x0, x1, x2, x3⟩ k; kernel_rfl)
noncomputable def F_clevisref01less : FT ps_clevisref01less qs_clevisref01less := N_clevisref01less F_clevisref01neg 
theorem ok_clevisref01less : SpecOk Try.prog 30 (mkS ps_clevisref01less qs_clevisref01less F_clevisref01less) := S_clevisref01less ok_clevisref01neg
abbrev ps_clevisref01Cond : List PT := [.one (.int .i64), .one (.int .u64), .one (.int .u64), .one (.bool)]
abbrev qs_clevisref01Cond : List PT := [.one (.bool), .one (.bool)]
noncomputable def N_clevisref01Cond (F_clevisref01less : FT ps_clevisref01less qs_clevisref01less)  : FT ps_clevisref01Cond qs_clevisref01Cond := fun R x k => match x with
  | (x0, x1, x2, x3) => 
      br (W.not x3)
        (br (W.eq x0 16) (k (W.eq (W.wrap IntKind.u64 (W.and IntKind.u64 x1 4294967295)) (W.wrap IntKind.u64 (W.and IntKind.u64 x2 4294967295)), true))
          (br (W.eq x0 80) (k (W.ne (W.wrap IntKind.u64 (W.and IntKind.u64 x1 4294967295)) (W.wrap IntKind.u64 (W.and IntKind.u64 x2 4294967295)), true))
            (br (W.eq x0 64) (k (W.ne (W.wrap IntKind.u64 (W.and IntKind.u64 (W.wrap IntKind.u64 (W.and IntKind.u64 x1 4294967295)) (W.wrap IntKind.u64 (W.and IntKind.u64 x2 4294967295)))) 0, true))
              (br (W.eq x0 32) (F_clevisref01less R (W.wrap IntKind.u64 (W.and IntKind.u64 x2 4294967295), W.wrap IntKind.u64 (W.and IntKind.u64 x1 4294967295), false, x3) fun y => k (y, true))
                (br (W.eq x0 48) (F_clevisref01less R (W.wrap IntKind.u64 (W.and IntKind.u64 x1 4294967295), W.wrap IntKind.u64 (W.and IntKind.u64 x2 4294967295), false, x3) fun y => k (W.not y, true))
                  (br (W.eq x0 160) (F_clevisref01less R (W.wrap IntKind.u64 (W.and IntKind.u64 x1 4294967295), W.wrap IntKind.u64 (W.and IntKind.u64 x2 4294967295), false, x3) fun y => k (y, true))
                    (br (W.eq x0 176)
                      (F_clevisref01less R (W.wrap IntKind.u64 (W.and IntKind.u64 x2 4294967295), W.wrap IntKind.u64 (W.and IntKind.u64 x1 4294967295), false, x3) fun y => k (W.not y, true))
                      (br (W.eq x0 96) (F_clevisref01less R (W.wrap IntKind.u64 (W.and IntKind.u64 x2 4294967295), W.wrap IntKind.u64 (W.and IntKind.u64 x1 4294967295), true, x3) fun y => k (y, true))
                        (br (W.eq x0 112)
                          (F_clevisref01less R (W.wrap IntKind.u64 (W.and IntKind.u64 x1 4294967295), W.wrap IntKind.u64 (W.and IntKind.u64 x2 4294967295), true, x3) fun y => k (W.not y, true))
                          (br (W.eq x0 192) (F_clevisref01less R (W.wrap IntKind.u64 (W.and IntKind.u64 x1 4294967295), W.wrap IntKind.u64 (W.and IntKind.u64 x2 4294967295), true, x3) fun y => k (y, true))
                            (br (W.eq x0 208)
                              (F_clevisref01less R (W.wrap IntKind.u64 (W.and IntKind.u64 x2 4294967295), W.wrap IntKind.u64 (W.and IntKind.u64 x1 4294967295), true, x3) fun y => k (W.not y, true))
                              (k (false, false)))))))))))))
        (br (W.eq x0 16) (k (W.eq x1 x2, true))
          (br (W.eq x0 80) (k (W.ne x1 x2, true))
            (br (W.eq x0 64) (k (W.ne (W.wrap IntKind.u64 (W.and IntKind.u64 x1 x2)) 0, true))
              (br (W.eq x0 32) (F_clevisref01less R (x2, x1, false, x3) fun y => k (y, true))
                (br (W.eq x0 48) (F_clevisref01less R (x1, x2, false, x3) fun y => k (W.not y, true))
                  (br (W.eq x0 160) (F_clevisref01less R (x1, x2, false, x3) fun y => k (y, true))
                    (br (W.eq x0 176) (F_clevisref01less R (x2, x1, false, x3) fun y => k (W.not y, true))
                      (br (W.eq x0 96) (F_clevisref01less R (x2, x1, true, x3) fun y => k (y, true))
                        (br (W.eq x0 112) (F_clevisref01less R (x1, x2, true, x3) fun y => k (W.not y, true))
                          (br (W.eq x0 192) (F_clevisref01less R (x1, x2, true, x3) fun y => k (y, true))
                            (br (W.eq x0 208) (F_clevisref01less R (x2, x1, true, x3) fun y => k (W.not y, true)) (k (false, false)))))))))))))
theorem S_clevisref01Cond {F_clevisref01less : FT ps_clevisref01less qs_clevisref01less} (h_clevisref01less : SpecOk Try.prog 30 (mkS ps_clevisref01less qs_clevisref01less F_clevisref01less)) : SpecOk Try.prog 13 (mkS ps_clevisref01Cond qs_clevisref01Cond (N_clevisref01Cond F_clevisref01less)) :=
  specOk_mk (fl := 10) (d := 12) (cfgOk_cons base h_clevisref01less) (by rintro R ⟨x0, x1, x2, x3⟩ k; kernel_rfl)
noncomputable def F_clevisref01Cond : FT ps_clevisref01Cond qs_clevisref01Cond := N_clevisref01Cond F_clevisref01less 
theorem ok_clevisref01Cond : SpecOk Try.prog 13 (mkS ps_clevisref01Cond qs_clevisref01Cond F_clevisref01Cond) := S_clevisref01Cond ok_clevisref01less
abbrev ps_clevislaw01WordAsks : List PT := [.one (.int .i64), .one (.int .u64), .one (.int .u64), .one (.bool)]
noncomputable def L_clevislaw01WordAsks (F_word_Cond : FT ps_word_Cond qs_word_Cond) (F_clevislaw01heads : FT ps_clevislaw01heads qs_clevislaw01heads) (F_clevisref01Cond : FT ps_clevisref01Cond qs_clevisref01Cond)  (x : PTs.D ps_clevislaw01WordAsks) : Option Unit := match x with
  | (x0, x1, x2, x3) => 
      F_word_Cond Unit (x0, x1, x2, x3) fun y =>
        F_clevisref01Cond Unit (x0, x1, x2, x3) fun y_1 =>
          br (W.pick (W.eqB y.1 y_1.1) (W.eqB y.2 y_1.2) false) (F_clevislaw01heads Unit () fun y => br (W.pick true y false) (some ()) none) none
theorem E_clevislaw01WordAsks {F_word_Cond : FT ps_word_Cond qs_word_Cond} {F_clevislaw01heads : FT ps_clevislaw01heads qs_clevislaw01heads} {F_clevisref01Cond : FT ps_clevisref01Cond qs_clevisref01Cond} (h_word_Cond : SpecOk Try.prog 12 (mkS ps_word_Cond qs_word_Cond F_word_Cond)) (h_clevislaw01heads : SpecOk Try.prog 11 (mkS ps_clevislaw01heads qs_clevislaw01heads F_clevislaw01heads)) (h_clevisref01Cond : SpecOk Try.prog 13 (mkS ps_clevisref01Cond qs_clevisref01Cond F_clevisref01Cond)) (x : PTs.D ps_clevislaw01WordAsks) (hL : L_clevislaw01WordAsks F_word_Cond F_clevislaw01heads F_clevisref01Cond x = some ()) :
    ∃ (C : Cfg) (fl d : Nat), CfgOk C ∧ C.P = Try.prog ∧ call C fl d 4 (encL false ps_clevislaw01WordAsks x) [] getL = some () :=
  ⟨_, 10, 12, (cfgOk_cons (cfgOk_cons (cfgOk_cons base h_clevisref01Cond) h_clevislaw01heads) h_word_Cond), rfl, (show _ = L_clevislaw01WordAsks F_word_Cond F_clevislaw01heads F_clevisref01Cond x by obtain ⟨x0, x1, x2, x3⟩ := x; kernel_rfl).trans hL⟩
abbrev ps_clevislaw01WordTurns : List PT := [.one (.int .u64), .one (.int .u64), .one (.bool)]
noncomputable def P_clevislaw01WordTurns_3_0 (F_word_Cond : FT ps_word_Cond qs_word_Cond) (F_clevislaw01heads : FT ps_clevislaw01heads qs_clevislaw01heads) (fl : Nat)  (n : Nat) (R : Type) (y0 : Int) (y1 : Int) (y2 : Bool) (y3 : Nat) (y4 : Int) (y5 : List Int)  : Option Unit :=
  callFrom (Cw Try.prog [(12, mkS ps_word_Cond qs_word_Cond F_word_Cond), (11, mkS ps_clevislaw01heads qs_clevislaw01heads F_clevislaw01heads)] noH) fl 11 0 5 3 n [] (some (
      S.mk
        [V.int IntKind.u64 y0, V.int IntKind.u64 y1, V.bool y2, V.any, V.any, V.any, V.any, V.sl 0 1 y3, V.int IntKind.i64 y4, V.any, V.any, V.any, V.any, V.any, V.any, V.any, V.any, V.any, V.any, V.any,
          V.any, V.any, V.any, V.any, V.any, V.any, V.any, V.any, V.any, V.any, V.any, V.any, V.any, V.any, V.any, V.any, V.any, V.any, V.any, V.any, V.any, V.any, V.any, V.any, V.any, V.any, V.any, V.any,
          V.any, V.any, V.any, V.any, V.any, V.any, V.any, V.any, V.any, V.any, V.any, V.any, V.any, V.any, V.any, V.any, V.any, V.any, V.any, V.any, V.any, V.any, V.any, V.any, V.any, V.any, V.any, V.any,
          V.any, V.any, V.any, V.any, V.any, V.any, V.any, V.any, V.any, V.any, V.any, V.any, V.any, V.any, V.any, V.any, V.any, V.any, V.any, V.any, V.any, V.any, V.any, V.any, V.any, V.any]
        [] [Blk.row (Ty.int IntKind.i64) y5])) getL
theorem P_clevislaw01WordTurns_3_0_s {F_word_Cond : FT ps_word_Cond qs_word_Cond} {F_clevislaw01heads : FT ps_clevislaw01heads qs_clevislaw01heads} (fl : Nat)  (n : Nat) (R : Type) (y0 : Int) (y1 : Int) (y2 : Bool) (y3 : Nat) (y4 : Int) (y5 : List Int)  : P_clevislaw01WordTurns_3_0 F_word_Cond F_clevislaw01heads fl  (n + 1) R y0 y1 y2 y3 y4 y5  =
      br (W.lt (W.wrap IntKind.i64 (W.add y4 1)) (W.ofNat y3))
        (br (W.and2 (W.le 0 y4) (W.lt y4 (W.ofNat y3)))
          (F_word_Cond Unit (W.get y5 (W.toNat y4) 0, y0, y1, y2) fun y =>
            br (W.and2 (W.le 0 (W.wrap IntKind.i64 (W.add y4 1))) (W.lt (W.wrap IntKind.i64 (W.add y4 1)) (W.ofNat y3)))
              (F_word_Cond Unit (W.get y5 (W.toNat (W.wrap IntKind.i64 (W.add y4 1))) 0, y0, y1, y2) fun y_1 =>
                br (W.pick (W.pick (W.not y.2) true (W.not y_1.2)) true (W.eqB y.1 y_1.1)) none (P_clevislaw01WordTurns_3_0 F_word_Cond F_clevislaw01heads fl n Unit y0 y1 y2 y3 (W.wrap IntKind.i64 (W.add y4 2)) y5))
              none)
          none)
        (F_word_Cond Unit (32, y0, y1, y2) fun y =>
          F_word_Cond Unit (160, y1, y0, y2) fun y_1 =>
            F_word_Cond Unit (112, y0, y1, y2) fun y_2 =>
              F_word_Cond Unit (208, y1, y0, y2) fun y_3 =>
                br (W.pick (W.eqB y.1 y_1.1) (W.eqB y_2.1 y_3.1) false) (F_clevislaw01heads Unit () fun y => br (W.pick true y false) (some ()) none) none) := by kernel_rfl
noncomputable def L_clevislaw01WordTurns (F_word_Cond : FT ps_word_Cond qs_word_Cond) (F_clevislaw01heads : FT ps_clevislaw01heads qs_clevislaw01heads) (fl : Nat) (x : PTs.D ps_clevislaw01WordTurns) : Option Unit := match x with
  | (x0, x1, x2) => 
      P_clevislaw01WordTurns_3_0 F_word_Cond F_clevislaw01heads fl fl Unit x0 x1 x2 10 0 [16, 80, 32, 176, 48, 160, 96, 208, 112, 192]
theorem Q_clevislaw01WordTurns {F_word_Cond : FT ps_word_Cond qs_word_Cond} {F_clevislaw01heads : FT ps_clevislaw01heads qs_clevislaw01heads} (fl : Nat) (x : PTs.D ps_clevislaw01WordTurns) : call (Cw Try.prog [(12, mkS ps_word_Cond qs_word_Cond F_word_Cond), (11, mkS ps_clevislaw01heads qs_clevislaw01heads F_clevislaw01heads)] noH) fl 12 5 (encL false ps_clevislaw01WordTurns x) [] getL = L_clevislaw01WordTurns F_word_Cond F_clevislaw01heads fl x := by
  obtain ⟨x0, x1, x2⟩ := x; kernel_rfl
theorem E_clevislaw01WordTurns {F_word_Cond : FT ps_word_Cond qs_word_Cond} {F_clevislaw01heads : FT ps_clevislaw01heads qs_clevislaw01heads} (h_word_Cond : SpecOk Try.prog 12 (mkS ps_word_Cond qs_word_Cond F_word_Cond)) (h_clevislaw01heads : SpecOk Try.prog 11 (mkS ps_clevislaw01heads qs_clevislaw01heads F_clevislaw01heads)) (x : PTs.D ps_clevislaw01WordTurns) (fl : Nat) (hL : L_clevislaw01WordTurns F_word_Cond F_clevislaw01heads fl x = some ()) :
    ∃ (C : Cfg) (fl d : Nat), CfgOk C ∧ C.P = Try.prog ∧ call C fl d 5 (encL false ps_clevislaw01WordTurns x) [] getL = some () :=
  ⟨_, fl, 12, (cfgOk_cons (cfgOk_cons base h_clevislaw01heads) h_word_Cond), rfl, (Q_clevislaw01WordTurns fl x).trans hL⟩
abbrev ps_clevislaw01WordRing : List PT := [.one (.int .u64), .one (.int .u64), .one (.bool)]
noncomputable def L_clevislaw01WordRing (F_word_Alu : FT ps_word_Alu qs_word_Alu) (F_clevislaw01heads : FT ps_clevislaw01heads qs_clevislaw01heads)  (x : PTs.D ps_clevislaw01WordRing) : Option Unit := match x with
  | (x0, x1, x2) => 
      F_word_Alu Unit (0, x0, x1, x2) fun y =>
        F_word_Alu Unit (16, y.1, x1, x2) fun y =>
          F_word_Alu Unit (176, 0, x0, x2) fun y_1 =>
            F_word_Alu Unit (48, x0, x1, x2) fun y_2 =>
              F_word_Alu Unit (144, x0, x1, x2) fun y_3 =>
                F_word_Alu Unit (32, y_2.1, x1, x2) fun y_4 =>
                  F_word_Alu Unit (0, y_4.1, y_3.1, x2) fun y_5 =>
                    F_word_Alu Unit (128, x0, 0, x2) fun y_6 =>
                      F_word_Alu Unit (0, y_6.1, x0, x2) fun y_7 =>
                        F_word_Alu Unit (80, x0, x1, x2) fun y_8 =>
                          F_word_Alu Unit (64, x0, x1, x2) fun y_9 =>
                            F_word_Alu Unit (160, x0, x1, x2) fun y_10 =>
                              F_word_Alu Unit (0, y_8.1, y_10.1, x2) fun y_11 =>
                                br (W.pick (W.pick (W.pick (W.eq y.1 y_1.1) (W.eq y_5.1 y_1.1) false) (W.eq y_7.1 0) false) (W.eq y_11.1 y_9.1) false)
                                  (F_clevislaw01heads Unit () fun y => br (W.pick true y false) (some ()) none) none
theorem E_clevislaw01WordRing {F_word_Alu : FT ps_word_Alu qs_word_Alu} {F_clevislaw01heads : FT ps_clevislaw01heads qs_clevislaw01heads} (h_word_Alu : SpecOk Try.prog 9 (mkS ps_word_Alu qs_word_Alu F_word_Alu)) (h_clevislaw01heads : SpecOk Try.prog 11 (mkS ps_clevislaw01heads qs_clevislaw01heads F_clevislaw01heads)) (x : PTs.D ps_clevislaw01WordRing) (hL : L_clevislaw01WordRing F_word_Alu F_clevislaw01heads x = some ()) :
    ∃ (C : Cfg) (fl d : Nat), CfgOk C ∧ C.P = Try.prog ∧ call C fl d 6 (encL false ps_clevislaw01WordRing x) [] getL = some () :=
  ⟨_, 10, 12, (cfgOk_cons (cfgOk_cons base h_clevislaw01heads) h_word_Alu), rfl, (show _ = L_clevislaw01WordRing F_word_Alu F_clevislaw01heads x by obtain ⟨x0, x1, x2⟩ := x; kernel_rfl).trans hL⟩
abbrev ps_word_Put : List PT := [.one (.int .u64), .one (.int .i64)]
abbrev qs_word_Put : List PT := [.one (.slice (.int .u8))]
noncomputable def P_word_Put_5_0 (F_word_Size : FT ps_word_Size qs_word_Size) (fl : Nat)  (n : Nat) (R : Type) (y0 : Int) (y1 : Int) (y2 : Int) (y3 : List Int) (k : PTs.D qs_word_Put → Option R) : Option R :=
  callFrom (Cw Try.prog [(15, mkS ps_word_Size qs_word_Size F_word_Size)] noH) fl 11 0 14 5 n [] (some (
      S.mk
        [V.int IntKind.u64 y0, V.int IntKind.i64 y1, V.any, V.any, V.any, V.parr 0 8 1, V.any, V.any, V.any, V.any, V.int IntKind.i64 y2, V.any, V.any, V.any, V.any, V.any, V.any, V.any, V.any, V.any,
          V.any, V.any, V.any, V.any]
        [] [Blk.row (Ty.int IntKind.u8) y3])) (getR qs_word_Put k)
theorem P_word_Put_5_0_s {F_word_Size : FT ps_word_Size qs_word_Size} (fl : Nat)  (n : Nat) (R : Type) (y0 : Int) (y1 : Int) (y2 : Int) (y3 : List Int) (k : PTs.D qs_word_Put → Option R) : P_word_Put_5_0 F_word_Size fl  (n + 1) R y0 y1 y2 y3 k =
      br (W.lt y2 8)
        (br (W.lt (W.wrap IntKind.i64 (W.mul 8 y2)) 0) none
          (br (W.and2 (W.le 0 y2) (W.lt y2 8))
            (P_word_Put_5_0 F_word_Size fl n R y0 y1 (W.wrap IntKind.i64 (W.add y2 1)) (W.set y3 (W.toNat y2) (W.wrap IntKind.u8 (W.shr IntKind.u64 y0 (W.wrap IntKind.i64 (W.mul 8 y2))))) k) none))
        (br (W.and2 (W.le 0 y1) (W.and2 (W.le y1 y1) (W.le y1 8))) (k (W.slice y3 0 (W.toNat y1))) none) := by kernel_rfl
noncomputable def N_word_Put (F_word_Size : FT ps_word_Size qs_word_Size) (fl : Nat) : FT ps_word_Put qs_word_Put := fun R x k => match x with
  | (x0, x1) => 
      F_word_Size R x1 fun y => br (W.not y) (k []) (P_word_Put_5_0 F_word_Size fl fl R x0 x1 0 [0, 0, 0, 0, 0, 0, 0, 0] k)
theorem Q_word_Put {F_word_Size : FT ps_word_Size qs_word_Size} (fl : Nat) (R : Type) (x : PTs.D ps_word_Put) (k : PTs.D qs_word_Put → Option R) : call (Cw Try.prog [(15, mkS ps_word_Size qs_word_Size F_word_Size)] noH) fl 12 14 (encL true ps_word_Put x) [] (getR qs_word_Put k) = N_word_Put F_word_Size fl R x k := by
  obtain ⟨x0, x1⟩ := x; kernel_rfl
theorem S_word_Put {F_word_Size : FT ps_word_Size qs_word_Size} (h_word_Size : SpecOk Try.prog 15 (mkS ps_word_Size qs_word_Size F_word_Size)) : SpecOk Try.prog 14 (mkS ps_word_Put qs_word_Put (N_word_Put F_word_Size W.big)) :=
  specOk_mk (fl := W.big) (d := 12) (cfgOk_cons base h_word_Size) (fun R x k => Q_word_Put W.big R x k)
noncomputable def F_word_Put : FT ps_word_Put qs_word_Put := N_word_Put F_word_Size W.big
theorem ok_word_Put : SpecOk Try.prog 14 (mkS ps_word_Put qs_word_Put F_word_Put) := S_word_Put ok_word_Size
abbrev ps_word_Sign : List PT := [.one (.int .u64), .one (.int .i64)]
abbrev qs_word_Sign : List PT := [.one (.int .u64)]
noncomputable def N_word_Sign   : FT ps_word_Sign qs_word_Sign := fun R x k => match x with
  | (x0, x1) => 
      br (W.eq x1 1) (k (W.wrap IntKind.u64 (W.wrap IntKind.i8 x0)))
        (br (W.eq x1 2) (k (W.wrap IntKind.u64 (W.wrap IntKind.i16 x0))) (br (W.eq x1 4) (k (W.wrap IntKind.u64 (W.wrap IntKind.i32 x0))) (k x0)))
theorem S_word_Sign   : SpecOk Try.prog 17 (mkS ps_word_Sign qs_word_Sign (N_word_Sign )) :=
  specOk_mk (fl := 10) (d := 12) base (by rintro R ⟨x0, x1⟩ k; kernel_rfl)
noncomputable def F_word_Sign : FT ps_word_Sign qs_word_Sign := N_word_Sign  
theorem ok_word_Sign : SpecOk Try.prog 17 (mkS ps_word_Sign qs_word_Sign F_word_Sign) := S_word_Sign 
abbrev ps_clevislaw01WordBack : List PT := [.one (.int .u64), .one (.int .i64)]
noncomputable def L_clevislaw01WordBack (F_word_Size : FT ps_word_Size qs_word_Size) (F_word_Get : FT ps_word_Get qs_word_Get) (F_clevislaw01heads : FT ps_clevislaw01heads qs_clevislaw01heads) (F_word_Put : FT ps_word_Put qs_word_Put) (F_word_Sign : FT ps_word_Sign qs_word_Sign)  (x : PTs.D ps_clevislaw01WordBack) : Option Unit := match x with
  | (x0, x1) => 
      F_word_Put Unit (x0, x1) fun y =>
        F_word_Size Unit x1 fun y_1 =>
          br (W.not y_1) (br (W.eq (W.ofNat (W.len y)) 0) (F_clevislaw01heads Unit () fun y => br (W.pick true y false) (some ()) none) none)
            (br (W.lt x1 8)
              (br (W.eq (W.wrap IntKind.u64 (W.shl IntKind.u64 1 (W.wrap IntKind.u64 (W.wrap IntKind.i64 (W.mul 8 x1))))) 0) none
                (br (W.eq (W.ofNat (W.len y)) x1)
                  (F_word_Get Unit y fun y =>
                    br (W.pick true (W.eq y (W.rem x0 (W.wrap IntKind.u64 (W.shl IntKind.u64 1 (W.wrap IntKind.u64 (W.wrap IntKind.i64 (W.mul 8 x1))))))) false)
                      (F_word_Sign Unit (x0, x1) fun y =>
                        F_word_Sign Unit (y, x1) fun y =>
                          F_word_Sign Unit (x0, x1) fun y_2 => br (W.pick true (W.eq y y_2) false) (F_clevislaw01heads Unit () fun y => br (W.pick true y false) (some ()) none) none)
                      none)
                  none))
              (br (W.eq (W.ofNat (W.len y)) x1)
                (F_word_Get Unit y fun y =>
                  br (W.pick true (W.eq y x0) false)
                    (F_word_Sign Unit (x0, x1) fun y =>
                      F_word_Sign Unit (y, x1) fun y =>
                        F_word_Sign Unit (x0, x1) fun y_2 => br (W.pick true (W.eq y y_2) false) (F_clevislaw01heads Unit () fun y => br (W.pick true y false) (some ()) none) none)
                    none)
                none))
theorem E_clevislaw01WordBack {F_word_Size : FT ps_word_Size qs_word_Size} {F_word_Get : FT ps_word_Get qs_word_Get} {F_clevislaw01heads : FT ps_clevislaw01heads qs_clevislaw01heads} {F_word_Put : FT ps_word_Put qs_word_Put} {F_word_Sign : FT ps_word_Sign qs_word_Sign} (h_word_Size : SpecOk Try.prog 15 (mkS ps_word_Size qs_word_Size F_word_Size)) (h_word_Get : SpecOk Try.prog 16 (mkS ps_word_Get qs_word_Get F_word_Get)) (h_clevislaw01heads : SpecOk Try.prog 11 (mkS ps_clevislaw01heads qs_clevislaw01heads F_clevislaw01heads)) (h_word_Put : SpecOk Try.prog 14 (mkS ps_word_Put qs_word_Put F_word_Put)) (h_word_Sign : SpecOk Try.prog 17 (mkS ps_word_Sign qs_word_Sign F_word_Sign)) (x : PTs.D ps_clevislaw01WordBack) (hL : L_clevislaw01WordBack F_word_Size F_word_Get F_clevislaw01heads F_word_Put F_word_Sign x = some ()) :
    ∃ (C : Cfg) (fl d : Nat), CfgOk C ∧ C.P = Try.prog ∧ call C fl d 7 (encL false ps_clevislaw01WordBack x) [] getL = some () :=
  ⟨_, 10, 12, (cfgOk_cons (cfgOk_cons (cfgOk_cons (cfgOk_cons (cfgOk_cons base h_word_Sign) h_word_Put) h_clevislaw01heads) h_word_Get) h_word_Size), rfl, (show _ = L_clevislaw01WordBack F_word_Size F_word_Get F_clevislaw01heads F_word_Put F_word_Sign x by obtain ⟨x0, x1⟩ := x; kernel_rfl).trans hL⟩
abbrev ps_clevisref01Size : List PT := [.one (.int .i64)]
abbrev qs_clevisref01Size : List PT := [.one (.bool)]
noncomputable def N_clevisref01Size   : FT ps_clevisref01Size qs_clevisref01Size := fun R x k => match x with
  | x0 => 
      k (W.pick (W.pick (W.pick (W.eq x0 1) true (W.eq x0 2)) true (W.eq x0 4)) true (W.eq x0 8))
theorem S_clevisref01Size   : SpecOk Try.prog 18 (mkS ps_clevisref01Size qs_clevisref01Size (N_clevisref01Size )) :=
  specOk_mk (fl := 10) (d := 12) base (by intro R x0 k; kernel_rfl)
noncomputable def F_clevisref01Size : FT ps_clevisref01Size qs_clevisref01Size := N_clevisref01Size  
theorem ok_clevisref01Size : SpecOk Try.prog 18 (mkS ps_clevisref01Size qs_clevisref01Size F_clevisref01Size) := S_clevisref01Size 
abbrev ps_clevisref01Sign : List PT := [.one (.int .u64), .one (.int .i64)]
abbrev qs_clevisref01Sign : List PT := [.one (.int .u64)]
noncomputable def N_clevisref01Sign (F_clevisref01Size : FT ps_clevisref01Size qs_clevisref01Size)  : FT ps_clevisref01Sign qs_clevisref01Sign := fun R x k => match x with
  | (x0, x1) => 
      F_clevisref01Size R x1 fun y =>
        br (W.pick (W.not y) true (W.eq x1 8)) (k x0)
          (br (W.eq (W.wrap IntKind.u64 (W.shl IntKind.u64 1 (W.wrap IntKind.u64 (W.wrap IntKind.i64 (W.mul 8 x1))))) 0) none
            (br
              (W.ge (W.rem x0 (W.wrap IntKind.u64 (W.shl IntKind.u64 1 (W.wrap IntKind.u64 (W.wrap IntKind.i64 (W.mul 8 x1))))))
                (W.wrap IntKind.u64 (W.quo (W.wrap IntKind.u64 (W.shl IntKind.u64 1 (W.wrap IntKind.u64 (W.wrap IntKind.i64 (W.mul 8 x1))))) 2)))
              (k
                (W.wrap IntKind.u64
                  (W.sub (W.rem x0 (W.wrap IntKind.u64 (W.shl IntKind.u64 1 (W.wrap IntKind.u64 (W.wrap IntKind.i64 (W.mul 8 x1))))))
                    (W.wrap IntKind.u64 (W.shl IntKind.u64 1 (W.wrap IntKind.u64 (W.wrap IntKind.i64 (W.mul 8 x1))))))))
              (k (W.rem x0 (W.wrap IntKind.u64 (W.shl IntKind.u64 1 (W.wrap IntKind.u64 (W.wrap IntKind.i64 (W.mul 8 x1)))))))))
theorem S_clevisref01Sign {F_clevisref01Size : FT ps_clevisref01Size qs_clevisref01Size} (h_clevisref01Size : SpecOk Try.prog 18 (mkS ps_clevisref01Size qs_clevisref01Size F_clevisref01Size)) : SpecOk Try.prog 19 (mkS ps_clevisref01Sign qs_clevisref01Sign (N_clevisref01Sign F_clevisref01Size)) :=
  specOk_mk (fl := 10) (d := 12) (cfgOk_cons base h_clevisref01Size) (by rintro R ⟨x0, x1⟩ k; kernel_rfl)
noncomputable def F_clevisref01Sign : FT ps_clevisref01Sign qs_clevisref01Sign := N_clevisref01Sign F_clevisref01Size 
theorem ok_clevisref01Sign : SpecOk Try.prog 19 (mkS ps_clevisref01Sign qs_clevisref01Sign F_clevisref01Sign) := S_clevisref01Sign ok_clevisref01Size
abbrev ps_word_Imm : List PT := [.one (.int .i64), .one (.bool)]
abbrev qs_word_Imm : List PT := [.one (.int .u64)]
noncomputable def N_word_Imm (F_word_low : FT ps_word_low qs_word_low)  : FT ps_word_Imm qs_word_Imm := fun R x k => match x with
  | (x0, x1) => 
      F_word_low R (W.wrap IntKind.u64 (W.wrap IntKind.i32 x0), x1) fun y => k y
theorem S_word_Imm {F_word_low : FT ps_word_low qs_word_low} (h_word_low : SpecOk Try.prog 25 (mkS ps_word_low qs_word_low F_word_low)) : SpecOk Try.prog 20 (mkS ps_word_Imm qs_word_Imm (N_word_Imm F_word_low)) :=
  specOk_mk (fl := 10) (d := 12) (cfgOk_cons base h_word_low) (by rintro R ⟨x0, x1⟩ k; kernel_rfl)
noncomputable def F_word_Imm : FT ps_word_Imm qs_word_Imm := N_word_Imm F_word_low 
theorem ok_word_Imm : SpecOk Try.prog 20 (mkS ps_word_Imm qs_word_Imm F_word_Imm) := S_word_Imm ok_word_low
abbrev ps_clevisref01Imm : List PT := [.one (.int .i64), .one (.bool)]
abbrev qs_clevisref01Imm : List PT := [.one (.int .u64)]
noncomputable def N_clevisref01Imm (F_clevisref01Sign : FT ps_clevisref01Sign qs_clevisref01Sign)  : FT ps_clevisref01Imm qs_clevisref01Imm := fun R x k => match x with
  | (x0, x1) => 
      br x1 (F_clevisref01Sign R (W.wrap IntKind.u64 x0, 4) fun y => k y) (k (W.wrap IntKind.u64 (W.and IntKind.u64 (W.wrap IntKind.u64 x0) 4294967295)))
theorem S_clevisref01Imm {F_clevisref01Sign : FT ps_clevisref01Sign qs_clevisref01Sign} (h_clevisref01Sign : SpecOk Try.prog 19 (mkS ps_clevisref01Sign qs_clevisref01Sign F_clevisref01Sign)) : SpecOk Try.prog 21 (mkS ps_clevisref01Imm qs_clevisref01Imm (N_clevisref01Imm F_clevisref01Sign)) :=
  specOk_mk (fl := 10) (d := 12) (cfgOk_cons base h_clevisref01Sign) (by rintro R ⟨x0, x1⟩ k; kernel_rfl)
noncomputable def F_clevisref01Imm : FT ps_clevisref01Imm qs_clevisref01Imm := N_clevisref01Imm F_clevisref01Sign 
theorem ok_clevisref01Imm : SpecOk Try.prog 21 (mkS ps_clevisref01Imm qs_clevisref01Imm F_clevisref01Imm) := S_clevisref01Imm ok_clevisref01Sign
abbrev ps_clevisref01Get : List PT := [.one (.slice (.int .u8))]
abbrev qs_clevisref01Get : List PT := [.one (.int .u64)]
noncomputable def P_clevisref01Get_3_0  (fl : Nat)  (n : Nat) (R : Type) (y0 : List Int) (y1 : Int) (y2 : Int) (k : PTs.D qs_clevisref01Get → Option R) : Option R :=
  callFrom (Cw Try.prog [] noH) fl 11 0 22 3 n [] (some (
      S.mk
        [V.ro true (Ty.int IntKind.u8) y0, V.any, V.any, V.int IntKind.u64 y1, V.int IntKind.i64 y2, V.any, V.any, V.any, V.any, V.any, V.any, V.any, V.any, V.any, V.any, V.any, V.any, V.any, V.any, V.any,
          V.any, V.any, V.any, V.any, V.any, V.any, V.any]
        [] [])) (getR qs_clevisref01Get k)
theorem P_clevisref01Get_3_0_s  (fl : Nat)  (n : Nat) (R : Type) (y0 : List Int) (y1 : Int) (y2 : Int) (k : PTs.D qs_clevisref01Get → Option R) : P_clevisref01Get_3_0  fl  (n + 1) R y0 y1 y2 k =
      br (W.pick (W.lt y2 (W.ofNat (W.len y0))) (W.lt y2 8) false)
        (br (W.and2 (W.le 0 y2) (W.lt y2 (W.ofNat (W.len y0))))
          (P_clevisref01Get_3_0 fl n R y0
            (W.wrap IntKind.u64 (W.or IntKind.u64 y1 (W.wrap IntKind.u64 (W.shl IntKind.u64 (W.wrap IntKind.u64 (W.get y0 (W.toNat y2) 0)) (W.wrap IntKind.u64 (W.wrap IntKind.i64 (W.mul 8 y2)))))))
            (W.wrap IntKind.i64 (W.add y2 1)) k)
          none)
        (k y1) := by kernel_rfl
noncomputable def N_clevisref01Get  (fl : Nat) : FT ps_clevisref01Get qs_clevisref01Get := fun R x k => match x with
  | x0 => 
      P_clevisref01Get_3_0 fl fl R x0 0 0 k
theorem Q_clevisref01Get  (fl : Nat) (R : Type) (x : PTs.D ps_clevisref01Get) (k : PTs.D qs_clevisref01Get → Option R) : call (Cw Try.prog [] noH) fl 12 22 (encL true ps_clevisref01Get x) [] (getR qs_clevisref01Get k) = N_clevisref01Get  fl R x k := by
  kernel_rfl
theorem S_clevisref01Get   : SpecOk Try.prog 22 (mkS ps_clevisref01Get qs_clevisref01Get (N_clevisref01Get  W.big)) :=
  specOk_mk (fl := W.big) (d := 12) base (fun R x k => Q_clevisref01Get W.big R x k)
noncomputable def F_clevisref01Get : FT ps_clevisref01Get qs_clevisref01Get := N_clevisref01Get  W.big
theorem ok_clevisref01Get : SpecOk Try.prog 22 (mkS ps_clevisref01Get qs_clevisref01Get F_clevisref01Get) := S_clevisref01Get 
abbrev ps_clevisref01Same : List PT := [.one (.slice (.int .u8)), .one (.slice (.int .u8))]
abbrev qs_clevisref01Same : List PT := [.one (.bool)]
noncomputable def N_clevisref01Same   : FT ps_clevisref01Same qs_clevisref01Same := fun R x k => match x with
  | (x0, x1) => 
      br (W.leN (W.len x0) 140737488355328) (br (W.leN (W.len x1) 140737488355328) (k (W.eqS (W.bytes x0) (W.bytes x1))) none) none
theorem S_clevisref01Same   : SpecOk Try.prog 23 (mkS ps_clevisref01Same qs_clevisref01Same (N_clevisref01Same )) :=
  specOk_mk (fl := 10) (d := 12) base (by rintro R ⟨x0, x1⟩ k; kernel_rfl)
noncomputable def F_clevisref01Same : FT ps_clevisref01Same qs_clevisref01Same := N_clevisref01Same  
theorem ok_clevisref01Same : SpecOk Try.prog 23 (mkS ps_clevisref01Same qs_clevisref01Same F_clevisref01Same) := S_clevisref01Same 
abbrev ps_clevisref01Put : List PT := [.one (.int .u64), .one (.int .i64)]
abbrev qs_clevisref01Put : List PT := [.one (.slice (.int .u8))]
noncomputable def P_clevisref01Put_3_0 (F_clevisref01Size : FT ps_clevisref01Size qs_clevisref01Size) (fl : Nat)  (n : Nat) (R : Type) (y0 : Int) (y1 : Int) (y2 : Int) (k : PTs.D qs_clevisref01Put → Option R) : Option R :=
  callFrom (Cw Try.prog [(18, mkS ps_clevisref01Size qs_clevisref01Size F_clevisref01Size)] noH) fl 11 0 24 3 n [] (some (
      S.mk
        [V.int IntKind.u64 y0, V.int IntKind.i64 y1, V.any, V.any, V.any, V.nsl, V.int IntKind.i64 y2, V.any, V.any, V.any, V.any, V.any, V.any, V.any, V.any, V.any, V.any, V.any, V.any, V.any, V.any,
          V.any, V.any, V.any, V.any, V.any]
        [] [])) (getR qs_clevisref01Put k)
noncomputable def P_clevisref01Put_3_1 (F_clevisref01Size : FT ps_clevisref01Size qs_clevisref01Size) (fl : Nat)  (n : Nat) (R : Type) (y0 : Int) (y1 : Int) (y2 : Nat) (y3 : Int) (y4 : List Int) (k : PTs.D qs_clevisref01Put → Option R) : Option R :=
  callFrom (Cw Try.prog [(18, mkS ps_clevisref01Size qs_clevisref01Size F_clevisref01Size)] noH) fl 11 0 24 3 n [] (some (
      S.mk
        [V.int IntKind.u64 y0, V.int IntKind.i64 y1, V.any, V.any, V.any, V.sl 0 1 y2, V.int IntKind.i64 y3, V.any, V.any, V.any, V.any, V.any, V.any, V.any, V.any, V.any, V.any, V.any, V.any, V.any, V.any,
          V.any, V.any, V.any, V.any, V.any]
        [] [Blk.row (Ty.int IntKind.u8) y4])) (getR qs_clevisref01Put k)
theorem P_clevisref01Put_3_0_s {F_clevisref01Size : FT ps_clevisref01Size qs_clevisref01Size} (fl : Nat)  (n : Nat) (R : Type) (y0 : Int) (y1 : Int) (y2 : Int) (k : PTs.D qs_clevisref01Put → Option R) : P_clevisref01Put_3_0 F_clevisref01Size fl  (n + 1) R y0 y1 y2 k =
      br (W.lt y2 y1)
        (F_clevisref01Size R y1 fun y =>
          br (W.pick true y false)
            (br (W.leN (W.mulN 1 1) 140737488355328)
              (P_clevisref01Put_3_1 F_clevisref01Size fl n R y0 y1 1 (W.wrap IntKind.i64 (W.add y2 1)) [W.wrap IntKind.u8 (W.shr IntKind.u64 y0 (W.wrap IntKind.u64 (W.wrap IntKind.i64 (W.mul 8 y2))))] k) none)
            (k []))
        (k []) := by kernel_rfl
theorem P_clevisref01Put_3_1_s {F_clevisref01Size : FT ps_clevisref01Size qs_clevisref01Size} (fl : Nat)  (n : Nat) (R : Type) (y0 : Int) (y1 : Int) (y2 : Nat) (y3 : Int) (y4 : List Int) (k : PTs.D qs_clevisref01Put → Option R) : P_clevisref01Put_3_1 F_clevisref01Size fl  (n + 1) R y0 y1 y2 y3 y4 k =
      br (W.lt y3 y1)
        (F_clevisref01Size R y1 fun y =>
          br (W.pick true y false)
            (br (W.leN (W.mulN (W.addN y2 1) 1) 140737488355328)
              (P_clevisref01Put_3_1 F_clevisref01Size fl n R y0 y1 (W.addN y2 1) (W.wrap IntKind.i64 (W.add y3 1))
                (W.app y4 [W.wrap IntKind.u8 (W.shr IntKind.u64 y0 (W.wrap IntKind.u64 (W.wrap IntKind.i64 (W.mul 8 y3))))]) k)
              none)
            (k y4))
        (k y4) := by kernel_rfl
noncomputable def N_clevisref01Put (F_clevisref01Size : FT ps_clevisref01Size qs_clevisref01Size) (fl : Nat) : FT ps_clevisref01Put qs_clevisref01Put := fun R x k => match x with
  | (x0, x1) => 
      P_clevisref01Put_3_0 F_clevisref01Size fl fl R x0 x1 0 k
theorem Q_clevisref01Put {F_clevisref01Size : FT ps_clevisref01Size qs_clevisref01Size} (fl : Nat) (R : Type) (x : PTs.D ps_clevisref01Put) (k : PTs.D qs_clevisref01Put → Option R) : call (Cw Try.prog [(18, mkS ps_clevisref01Size qs_clevisref01Size F_clevisref01Size)] noH) fl 12 24 (encL true ps_clevisref01Put x) [] (getR qs_clevisref01Put k) = N_clevisref01Put F_clevisref01Size fl R x k := by
  obtain ⟨x0, x1⟩ := x; kernel_rfl
theorem S_clevisref01Put {F_clevisref01Size : FT ps_clevisref01Size qs_clevisref01Size} (h_clevisref01Size : SpecOk Try.prog 18 (mkS ps_clevisref01Size qs_clevisref01Size F_clevisref01Size)) : SpecOk Try.prog 24 (mkS ps_clevisref01Put qs_clevisref01Put (N_clevisref01Put F_clevisref01Size W.big)) :=
  specOk_mk (fl := W.big) (d := 12) (cfgOk_cons base h_clevisref01Size) (fun R x k => Q_clevisref01Put W.big R x k)
noncomputable def F_clevisref01Put : FT ps_clevisref01Put qs_clevisref01Put := N_clevisref01Put F_clevisref01Size W.big
theorem ok_clevisref01Put : SpecOk Try.prog 24 (mkS ps_clevisref01Put qs_clevisref01Put F_clevisref01Put) := S_clevisref01Put ok_clevisref01Size
abbrev ps_clevislaw01WordBytes : List PT := [.one (.int .u64), .one (.int .i64), .one (.slice (.int .u8)), .one (.int .i64)]
noncomputable def L_clevislaw01WordBytes (F_word_Size : FT ps_word_Size qs_word_Size) (F_word_Get : FT ps_word_Get qs_word_Get) (F_clevislaw01heads : FT ps_clevislaw01heads qs_clevislaw01heads) (F_word_Put : FT ps_word_Put qs_word_Put) (F_word_Sign : FT ps_word_Sign qs_word_Sign) (F_clevisref01Size : FT ps_clevisref01Size qs_clevisref01Size) (F_clevisref01Sign : FT ps_clevisref01Sign qs_clevisref01Sign) (F_word_Imm : FT ps_word_Imm qs_word_Imm) (F_clevisref01Imm : FT ps_clevisref01Imm qs_clevisref01Imm) (F_clevisref01Get : FT ps_clevisref01Get qs_clevisref01Get) (F_clevisref01Same : FT ps_clevisref01Same qs_clevisref01Same) (F_clevisref01Put : FT ps_clevisref01Put qs_clevisref01Put)  (x : PTs.D ps_clevislaw01WordBytes) : Option Unit := match x with
  | (x0, x1, x2, x3) => 
      F_word_Size Unit x1 fun y =>
        F_clevisref01Size Unit x1 fun y_1 =>
          br (W.eqB y y_1)
            (F_word_Sign Unit (x0, x1) fun y =>
              F_clevisref01Sign Unit (x0, x1) fun y_2 =>
                br (W.pick true (W.eq y y_2) false)
                  (F_word_Imm Unit (x3, true) fun y =>
                    F_clevisref01Imm Unit (x3, true) fun y_3 =>
                      br (W.pick true (W.eq y y_3) false)
                        (F_word_Imm Unit (x3, false) fun y =>
                          F_clevisref01Imm Unit (x3, false) fun y_4 =>
                            br (W.pick true (W.eq y y_4) false)
                              (F_word_Get Unit x2 fun y =>
                                F_clevisref01Get Unit x2 fun y_5 =>
                                  br (W.pick true (W.eq y y_5) false)
                                    (F_word_Put Unit (x0, x1) fun y =>
                                      F_clevisref01Put Unit (x0, x1) fun y_6 =>
                                        F_clevisref01Same Unit (y, y_6) fun y =>
                                          br (W.pick true y false) (F_clevislaw01heads Unit () fun y => br (W.pick true y false) (some ()) none) none)
                                    none)
                              none)
                        none)
                  none)
            none
theorem E_clevislaw01WordBytes {F_word_Size : FT ps_word_Size qs_word_Size} {F_word_Get : FT ps_word_Get qs_word_Get} {F_clevislaw01heads : FT ps_clevislaw01heads qs_clevislaw01heads} {F_word_Put : FT ps_word_Put qs_word_Put} {F_word_Sign : FT ps_word_Sign qs_word_Sign} {F_clevisref01Size : FT ps_clevisref01Size qs_clevisref01Size} {F_clevisref01Sign : FT ps_clevisref01Sign qs_clevisref01Sign} {F_word_Imm : FT ps_word_Imm qs_word_Imm} {F_clevisref01Imm : FT ps_clevisref01Imm qs_clevisref01Imm} {F_clevisref01Get : FT ps_clevisref01Get qs_clevisref01Get} {F_clevisref01Same : FT ps_clevisref01Same qs_clevisref01Same} {F_clevisref01Put : FT ps_clevisref01Put qs_clevisref01Put} (h_word_Size : SpecOk Try.prog 15 (mkS ps_word_Size qs_word_Size F_word_Size)) (h_word_Get : SpecOk Try.prog 16 (mkS ps_word_Get qs_word_Get F_word_Get)) (h_clevislaw01heads : SpecOk Try.prog 11 (mkS ps_clevislaw01heads qs_clevislaw01heads F_clevislaw01heads)) (h_word_Put : SpecOk Try.prog 14 (mkS ps_word_Put qs_word_Put F_word_Put)) (h_word_Sign : SpecOk Try.prog 17 (mkS ps_word_Sign qs_word_Sign F_word_Sign)) (h_clevisref01Size : SpecOk Try.prog 18 (mkS ps_clevisref01Size qs_clevisref01Size F_clevisref01Size)) (h_clevisref01Sign : SpecOk Try.prog 19 (mkS ps_clevisref01Sign qs_clevisref01Sign F_clevisref01Sign)) (h_word_Imm : SpecOk Try.prog 20 (mkS ps_word_Imm qs_word_Imm F_word_Imm)) (h_clevisref01Imm : SpecOk Try.prog 21 (mkS ps_clevisref01Imm qs_clevisref01Imm F_clevisref01Imm)) (h_clevisref01Get : SpecOk Try.prog 22 (mkS ps_clevisref01Get qs_clevisref01Get F_clevisref01Get)) (h_clevisref01Same : SpecOk Try.prog 23 (mkS ps_clevisref01Same qs_clevisref01Same F_clevisref01Same)) (h_clevisref01Put : SpecOk Try.prog 24 (mkS ps_clevisref01Put qs_clevisref01Put F_clevisref01Put)) (x : PTs.D ps_clevislaw01WordBytes) (hL : L_clevislaw01WordBytes F_word_Size F_word_Get F_clevislaw01heads F_word_Put F_word_Sign F_clevisref01Size F_clevisref01Sign F_word_Imm F_clevisref01Imm F_clevisref01Get F_clevisref01Same F_clevisref01Put x = some ()) :
    ∃ (C : Cfg) (fl d : Nat), CfgOk C ∧ C.P = Try.prog ∧ call C fl d 8 (encL false ps_clevislaw01WordBytes x) [] getL = some () :=
  ⟨_, 10, 12, (cfgOk_cons (cfgOk_cons (cfgOk_cons (cfgOk_cons (cfgOk_cons (cfgOk_cons (cfgOk_cons (cfgOk_cons (cfgOk_cons (cfgOk_cons (cfgOk_cons (cfgOk_cons base h_clevisref01Put) h_clevisref01Same) h_clevisref01Get) h_clevisref01Imm) h_word_Imm) h_clevisref01Sign) h_clevisref01Size) h_word_Sign) h_word_Put) h_clevislaw01heads) h_word_Get) h_word_Size), rfl, (show _ = L_clevislaw01WordBytes F_word_Size F_word_Get F_clevislaw01heads F_word_Put F_word_Sign F_clevisref01Size F_clevisref01Sign F_word_Imm F_clevisref01Imm F_clevisref01Get F_clevisref01Same F_clevisref01Put x by obtain ⟨x0, x1, x2, x3⟩ := x; kernel_rfl).trans hL⟩
end Go.Proofs.Ytobdjaokdmifiaa
