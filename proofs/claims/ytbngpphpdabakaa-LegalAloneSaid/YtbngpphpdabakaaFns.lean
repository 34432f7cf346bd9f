import Derived.Test.YtbngpphpdabakaaProg
import Derived.Test.YtbngpphpdabakaaEnwZ4
import Derived.KernelRfl
set_option maxHeartbeats 0
set_option maxRecDepth 1000000
set_option linter.unusedVariables false
namespace Go.Proofs.Ytbngpphpdabakaa
open Go Go.Eng
theorem base : CfgOk (Cw Try.prog [] noH) := cfgOk_nil (noGo_of (by kernel_rfl)) (by kernel_rfl) (by kernel_rfl)
abbrev ps_legal_class : List PT := [.one (.int .i64)]
abbrev qs_legal_class : List PT := [.one (.int .i64)]
noncomputable def N_legal_class   : FT ps_legal_class qs_legal_class := fun R x k => match x with
  | x0 => 
      br (W.pick (W.lt x0 0) true (W.gt x0 255)) (k (-1)) (k (W.wrap IntKind.i64 (W.and IntKind.i64 x0 7)))
theorem S_legal_class   : SpecOk Try.prog 23 (mkS ps_legal_class qs_legal_class (N_legal_class )) :=
  specOk_mk (fl := 10) (d := 12) base (by intro R x0 k; kernel_rfl)
noncomputable def F_legal_class : FT ps_legal_class qs_legal_class := N_legal_class  
theorem ok_legal_class : SpecOk Try.prog 23 (mkS ps_legal_class qs_legal_class F_legal_class) := S_legal_class 
abbrev ps_word_low : List PT := [.one (.int .u64), .one (.bool)]
abbrev qs_word_low : List PT := [.one (.int .u64)]
noncomputable def N_word_low   : FT ps_word_low qs_word_low := fun R x k => match x with
  | (x0, x1) => 
      br x1 (k x0) (k (W.wrap IntKind.u64 (W.wrap IntKind.u32 x0)))
theorem S_word_low   : SpecOk Try.prog 37 (mkS ps_word_low qs_word_low (N_word_low )) :=
  specOk_mk (fl := 10) (d := 12) base (by rintro R ⟨x0, x1⟩ k; kernel_rfl)
noncomputable def F_word_low : FT ps_word_low qs_word_low := N_word_low  
theorem ok_word_low : SpecOk Try.prog 37 (mkS ps_word_low qs_word_low F_word_low) := S_word_low 
abbrev ps_word_shift : List PT := [.one (.int .i64), .one (.int .u64), .one (.int .u64), .one (.bool)]
abbrev qs_word_shift : List PT := [.one (.int .u64)]
noncomputable def N_word_shift   : FT ps_word_shift qs_word_shift := fun R x k => match x with
  | (x0, x1, x2, x3) => 
      br (W.not x3)
        (br (W.eq x0 96) (k (W.wrap IntKind.u64 (W.shl IntKind.u64 x1 (W.wrap IntKind.u64 (W.and IntKind.u64 x2 31)))))
          (br (W.eq x0 112) (k (W.shr IntKind.u64 x1 (W.wrap IntKind.u64 (W.and IntKind.u64 x2 31))))
            (br x3 (k (W.wrap IntKind.u64 (W.shr IntKind.i64 (W.wrap IntKind.i64 x1) (W.wrap IntKind.u64 (W.and IntKind.u64 x2 31)))))
              (k (W.wrap IntKind.u64 (W.wrap IntKind.u32 (W.shr IntKind.i32 (W.wrap IntKind.i32 (W.wrap IntKind.u32 x1)) (W.wrap IntKind.u64 (W.and IntKind.u64 x2 31)))))))))
        (br (W.eq x0 96) (k (W.wrap IntKind.u64 (W.shl IntKind.u64 x1 (W.wrap IntKind.u64 (W.and IntKind.u64 x2 63)))))
          (br (W.eq x0 112) (k (W.shr IntKind.u64 x1 (W.wrap IntKind.u64 (W.and IntKind.u64 x2 63))))
            (br x3 (k (W.wrap IntKind.u64 (W.shr IntKind.i64 (W.wrap IntKind.i64 x1) (W.wrap IntKind.u64 (W.and IntKind.u64 x2 63)))))
              (k (W.wrap IntKind.u64 (W.wrap IntKind.u32 (W.shr IntKind.i32 (W.wrap IntKind.i32 (W.wrap IntKind.u32 x1)) (W.wrap IntKind.u64 (W.and IntKind.u64 x2 63)))))))))
theorem S_word_shift   : SpecOk Try.prog 38 (mkS ps_word_shift qs_word_shift (N_word_shift )) :=
  specOk_mk (fl := 10) (d := 12) base (by rintro R ⟨x0, x1, x2, x3⟩ k; kernel_rfl)
noncomputable def F_word_shift : FT ps_word_shift qs_word_shift := N_word_shift  
theorem ok_word_shift : SpecOk Try.prog 38 (mkS ps_word_shift qs_word_shift F_word_shift) := S_word_shift 
abbrev ps_word_plain : List PT := [.one (.int .i64), .one (.int .u64), .one (.int .u64)]
abbrev qs_word_plain : List PT := [.one (.int .u64), .one (.bool)]
noncomputable def N_word_plain   : FT ps_word_plain qs_word_plain := fun R x k => match x with
  | (x0, x1, x2) => 
      br (W.eq x0 0) (k (W.wrap IntKind.u64 (W.add x1 x2), true))
        (br (W.eq x0 16) (k (W.wrap IntKind.u64 (W.sub x1 x2), true))
          (br (W.eq x0 32) (k (W.wrap IntKind.u64 (W.mul x1 x2), true))
            (br (W.eq x0 64) (k (W.wrap IntKind.u64 (W.or IntKind.u64 x1 x2), true))
              (br (W.eq x0 80) (k (W.wrap IntKind.u64 (W.and IntKind.u64 x1 x2), true))
                (br (W.eq x0 160) (k (W.wrap IntKind.u64 (W.xor IntKind.u64 x1 x2), true))
                  (br (W.eq x0 128) (k (W.wrap IntKind.u64 (W.sub 0 x1), true)) (br (W.eq x0 176) (k (x2, true)) (k (0, false)))))))))
theorem S_word_plain   : SpecOk Try.prog 39 (mkS ps_word_plain qs_word_plain (N_word_plain )) :=
  specOk_mk (fl := 10) (d := 12) base (by rintro R ⟨x0, x1, x2⟩ k; kernel_rfl)
noncomputable def F_word_plain : FT ps_word_plain qs_word_plain := N_word_plain  
theorem ok_word_plain : SpecOk Try.prog 39 (mkS ps_word_plain qs_word_plain F_word_plain) := S_word_plain 
abbrev ps_word_Alu : List PT := [.one (.int .i64), .one (.int .u64), .one (.int .u64), .one (.bool)]
abbrev qs_word_Alu : List PT := [.one (.int .u64), .one (.bool)]
noncomputable def N_word_Alu (F_word_low : FT ps_word_low qs_word_low) (F_word_shift : FT ps_word_shift qs_word_shift) (F_word_plain : FT ps_word_plain qs_word_plain)  : FT ps_word_Alu qs_word_Alu := fun R x k => match x with
  | (x0, x1, x2, x3) => 
      F_word_low R (x1, x3) fun y =>
        F_word_low R (x2, x3) fun y_1 =>
          br (W.eq x0 48) (br (W.eq y_1 0) (k (0, true)) (br (W.eq y_1 0) none (k (W.wrap IntKind.u64 (W.quo y y_1), true))))
            (br (W.eq x0 144) (br (W.eq y_1 0) (k (y, true)) (br (W.eq y_1 0) none (k (W.rem y y_1, true))))
              (br (W.eq x0 96)
                (br (W.eq x0 96) (F_word_shift R (x0, y, y_1, x3) fun y => F_word_low R (y, x3) fun y => k (y, true)) (F_word_plain R (x0, y, y_1) fun y => F_word_low R (y.1, x3) fun y_2 => k (y_2, y.2)))
                (br (W.eq x0 112)
                  (br (W.eq x0 112) (F_word_shift R (x0, y, y_1, x3) fun y => F_word_low R (y, x3) fun y => k (y, true))
                    (F_word_plain R (x0, y, y_1) fun y => F_word_low R (y.1, x3) fun y_2 => k (y_2, y.2)))
                  (br (W.eq x0 192) (F_word_shift R (x0, y, y_1, x3) fun y => F_word_low R (y, x3) fun y => k (y, true))
                    (F_word_plain R (x0, y, y_1) fun y => F_word_low R (y.1, x3) fun y_2 => k (y_2, y.2))))))
theorem S_word_Alu {F_word_low : FT ps_word_low qs_word_low} {F_word_shift : FT ps_word_shift qs_word_shift} {F_word_plain : FT ps_word_plain qs_word_plain} (h_word_low : SpecOk Try.prog 37 (mkS ps_word_low qs_word_low F_word_low)) (h_word_shift : SpecOk Try.prog 38 (mkS ps_word_shift qs_word_shift F_word_shift)) (h_word_plain : SpecOk Try.prog 39 (mkS ps_word_plain qs_word_plain F_word_plain)) : SpecOk Try.prog 24 (mkS ps_word_Alu qs_word_Alu (N_word_Alu F_word_low F_word_shift F_word_plain)) :=
  specOk_mk (fl := 10) (d := 12) (cfgOk_cons (cfgOk_cons (cfgOk_cons base h_word_plain) h_word_shift) h_word_low) (by rintro R ⟨x0, x1, x2, x3⟩ k; kernel_rfl)
noncomputable def F_word_Alu : FT ps_word_Alu qs_word_Alu := N_word_Alu F_word_low F_word_shift F_word_plain 
theorem ok_word_Alu : SpecOk Try.prog 24 (mkS ps_word_Alu qs_word_Alu F_word_Alu) := S_word_Alu ok_word_low ok_word_shift ok_word_plain
abbrev ps_legal_Alu : List PT := [.one (.int .i64)]
abbrev qs_legal_Alu : List PT := [.one (.int .i64), .one (.bool), .one (.bool)]
noncomputable def N_legal_Alu (F_legal_class : FT ps_legal_class qs_legal_class) (F_word_Alu : FT ps_word_Alu qs_word_Alu)  : FT ps_legal_Alu qs_legal_Alu := fun R x k => match x with
  | x0 => 
      F_legal_class R x0 fun y =>
        F_word_Alu R (W.wrap IntKind.i64 (W.and IntKind.i64 x0 240), 0, 0, true) fun y_1 =>
          br
            (W.pick (W.pick (W.pick (W.ne y 4) (W.ne y 7) false) true (W.not y_1.2)) true
              (W.pick (W.eq (W.wrap IntKind.i64 (W.and IntKind.i64 x0 240)) 128) (W.gt (W.wrap IntKind.i64 (W.and IntKind.i64 x0 8)) 0) false))
            (k (0, false, false)) (k (W.wrap IntKind.i64 (W.and IntKind.i64 x0 240), W.eq y 7, true))
theorem S_legal_Alu {F_legal_class : FT ps_legal_class qs_legal_class} {F_word_Alu : FT ps_word_Alu qs_word_Alu} (h_legal_class : SpecOk Try.prog 23 (mkS ps_legal_class qs_legal_class F_legal_class)) (h_word_Alu : SpecOk Try.prog 24 (mkS ps_word_Alu qs_word_Alu F_word_Alu)) : SpecOk Try.prog 8 (mkS ps_legal_Alu qs_legal_Alu (N_legal_Alu F_legal_class F_word_Alu)) :=
  specOk_mk (fl := 10) (d := 12) (cfgOk_cons (cfgOk_cons base h_word_Alu) h_legal_class) (by intro R x0 k; kernel_rfl)
noncomputable def F_legal_Alu : FT ps_legal_Alu qs_legal_Alu := N_legal_Alu F_legal_class F_word_Alu 
theorem ok_legal_Alu : SpecOk Try.prog 8 (mkS ps_legal_Alu qs_legal_Alu F_legal_Alu) := S_legal_Alu ok_legal_class ok_word_Alu
abbrev ps_clevisref04Alu : List PT := [.one (.int .i64)]
abbrev qs_clevisref04Alu : List PT := [.one (.int .i64), .one (.bool), .one (.bool)]
noncomputable def N_clevisref04Alu   : FT ps_clevisref04Alu qs_clevisref04Alu := fun R x k => match x with
  | x0 => 
      br
        (W.pick
          (W.pick (W.pick (W.pick (W.lt x0 0) true (W.gt x0 255)) true (W.pick (W.ne (W.wrap IntKind.i64 (W.and IntKind.i64 x0 7)) 4) (W.ne (W.wrap IntKind.i64 (W.and IntKind.i64 x0 7)) 7) false)) true
            (W.gt (W.wrap IntKind.i64 (W.andNot IntKind.i64 x0 15)) 192))
          true (W.pick (W.eq (W.wrap IntKind.i64 (W.andNot IntKind.i64 x0 15)) 128) (W.ne (W.wrap IntKind.i64 (W.and IntKind.i64 x0 8)) 0) false))
        (k (0, false, false)) (k (W.wrap IntKind.i64 (W.andNot IntKind.i64 x0 15), W.eq (W.wrap IntKind.i64 (W.and IntKind.i64 x0 7)) 7, true))
theorem S_clevisref04Alu   : SpecOk Try.prog 9 (mkS ps_clevisref04Alu qs_clevisref04Alu (N_clevisref04Alu )) :=
  specOk_mk (fl := 10) (d := 12) base (by intro R x0 k; kernel_rfl)
noncomputable def F_clevisref04Alu : FT ps_clevisref04Alu qs_clevisref04Alu := N_clevisref04Alu  
theorem ok_clevisref04Alu : SpecOk Try.prog 9 (mkS ps_clevisref04Alu qs_clevisref04Alu F_clevisref04Alu) := S_clevisref04Alu 
abbrev ps_word_compare_int64 : List PT := [.one (.int .i64), .one (.int .i64)]
abbrev qs_word_compare_int64 : List PT := [.one (.int .i64)]
noncomputable def N_word_compare_int64   : FT ps_word_compare_int64 qs_word_compare_int64 := fun R x k => match x with
  | (x0, x1) => 
      br (W.lt x0 x1) (k (-1)) (br (W.gt x0 x1) (k 1) (k 0))
theorem S_word_compare_int64   : SpecOk Try.prog 42 (mkS ps_word_compare_int64 qs_word_compare_int64 (N_word_compare_int64 )) :=
  specOk_mk (fl := 10) (d := 12) base (by rintro R ⟨x0, x1⟩ k; kernel_rfl)
noncomputable def F_word_compare_int64 : FT ps_word_compare_int64 qs_word_compare_int64 := N_word_compare_int64  
theorem ok_word_compare_int64 : SpecOk Try.prog 42 (mkS ps_word_compare_int64 qs_word_compare_int64 F_word_compare_int64) := S_word_compare_int64 
abbrev ps_word_compare_uint64 : List PT := [.one (.int .u64), .one (.int .u64)]
abbrev qs_word_compare_uint64 : List PT := [.one (.int .i64)]
noncomputable def N_word_compare_uint64   : FT ps_word_compare_uint64 qs_word_compare_uint64 := fun R x k => match x with
  | (x0, x1) => 
      br (W.lt x0 x1) (k (-1)) (br (W.gt x0 x1) (k 1) (k 0))
theorem S_word_compare_uint64   : SpecOk Try.prog 43 (mkS ps_word_compare_uint64 qs_word_compare_uint64 (N_word_compare_uint64 )) :=
  specOk_mk (fl := 10) (d := 12) base (by rintro R ⟨x0, x1⟩ k; kernel_rfl)
noncomputable def F_word_compare_uint64 : FT ps_word_compare_uint64 qs_word_compare_uint64 := N_word_compare_uint64  
theorem ok_word_compare_uint64 : SpecOk Try.prog 43 (mkS ps_word_compare_uint64 qs_word_compare_uint64 F_word_compare_uint64) := S_word_compare_uint64 
abbrev ps_word_order : List PT := [.one (.int .i64), .one (.int .u64), .one (.int .u64), .one (.bool)]
abbrev qs_word_order : List PT := [.one (.int .i64)]
noncomputable def N_word_order (F_word_compare_int64 : FT ps_word_compare_int64 qs_word_compare_int64) (F_word_compare_uint64 : FT ps_word_compare_uint64 qs_word_compare_uint64)  : FT ps_word_order qs_word_order := fun R x k => match x with
  | (x0, x1, x2, x3) => 
      br (W.eq x0 96)
        (br (W.not x3) (F_word_compare_int64 R (W.wrap IntKind.i64 (W.wrap IntKind.i32 (W.wrap IntKind.u32 x1)), W.wrap IntKind.i64 (W.wrap IntKind.i32 (W.wrap IntKind.u32 x2))) fun y => k y)
          (F_word_compare_int64 R (W.wrap IntKind.i64 x1, W.wrap IntKind.i64 x2) fun y => k y))
        (br (W.eq x0 112)
          (br (W.not x3) (F_word_compare_int64 R (W.wrap IntKind.i64 (W.wrap IntKind.i32 (W.wrap IntKind.u32 x1)), W.wrap IntKind.i64 (W.wrap IntKind.i32 (W.wrap IntKind.u32 x2))) fun y => k y)
            (F_word_compare_int64 R (W.wrap IntKind.i64 x1, W.wrap IntKind.i64 x2) fun y => k y))
          (br (W.eq x0 192)
            (br (W.not x3) (F_word_compare_int64 R (W.wrap IntKind.i64 (W.wrap IntKind.i32 (W.wrap IntKind.u32 x1)), W.wrap IntKind.i64 (W.wrap IntKind.i32 (W.wrap IntKind.u32 x2))) fun y => k y)
              (F_word_compare_int64 R (W.wrap IntKind.i64 x1, W.wrap IntKind.i64 x2) fun y => k y))
            (br (W.eq x0 208)
              (br (W.not x3) (F_word_compare_int64 R (W.wrap IntKind.i64 (W.wrap IntKind.i32 (W.wrap IntKind.u32 x1)), W.wrap IntKind.i64 (W.wrap IntKind.i32 (W.wrap IntKind.u32 x2))) fun y => k y)
                (F_word_compare_int64 R (W.wrap IntKind.i64 x1, W.wrap IntKind.i64 x2) fun y => k y))
              (F_word_compare_uint64 R (x1, x2) fun y => k y))))
theorem S_word_order {F_word_compare_int64 : FT ps_word_compare_int64 qs_word_compare_int64} {F_word_compare_uint64 : FT ps_word_compare_uint64 qs_word_compare_uint64} (h_word_compare_int64 : SpecOk Try.prog 42 (mkS ps_word_compare_int64 qs_word_compare_int64 F_word_compare_int64)) (h_word_compare_uint64 : SpecOk Try.prog 43 (mkS ps_word_compare_uint64 qs_word_compare_uint64 F_word_compare_uint64)) : SpecOk Try.prog 40 (mkS ps_word_order qs_word_order (N_word_order F_word_compare_int64 F_word_compare_uint64)) :=
  specOk_mk (fl := 10) (d := 12) (cfgOk_cons (cfgOk_cons base h_word_compare_uint64) h_word_compare_int64) (by rintro R ⟨x0, x1, x2, x3⟩ k; kernel_rfl)
noncomputable def F_word_order : FT ps_word_order qs_word_order := N_word_order F_word_compare_int64 F_word_compare_uint64 
theorem ok_word_order : SpecOk Try.prog 40 (mkS ps_word_order qs_word_order F_word_order) := S_word_order ok_word_compare_int64 ok_word_compare_uint64
abbrev ps_word_Cond : List PT := [.one (.int .i64), .one (.int .u64), .one (.int .u64), .one (.bool)]
abbrev qs_word_Cond : List PT := [.one (.bool), .one (.bool)]
noncomputable def N_word_Cond (F_word_low : FT ps_word_low qs_word_low) (F_word_order : FT ps_word_order qs_word_order)  : FT ps_word_Cond qs_word_Cond := fun R x k => match x with
  | (x0, x1, x2, x3) => 
      F_word_low R (x1, x3) fun y =>
        F_word_low R (x2, x3) fun y_1 =>
          F_word_order R (x0, y, y_1, x3) fun y_2 =>
            br (W.eq x0 16) (k (W.eq y_2 0, true))
              (br (W.eq x0 80) (k (W.ne y_2 0, true))
                (br (W.eq x0 64) (k (W.ne (W.wrap IntKind.u64 (W.and IntKind.u64 y y_1)) 0, true))
                  (br (W.eq x0 32)
                    (br (W.eq x0 32) (k (W.gt y_2 0, true))
                      (br (W.eq x0 48)
                        (br (W.eq x0 48) (k (W.ge y_2 0, true))
                          (br (W.eq x0 160)
                            (br (W.eq x0 160) (k (W.lt y_2 0, true))
                              (br (W.eq x0 176) (br (W.eq x0 176) (k (W.le y_2 0, true)) (k (false, false))) (br (W.eq x0 208) (k (W.le y_2 0, true)) (k (false, false)))))
                            (br (W.eq x0 192) (k (W.lt y_2 0, true))
                              (br (W.eq x0 176) (br (W.eq x0 176) (k (W.le y_2 0, true)) (k (false, false))) (br (W.eq x0 208) (k (W.le y_2 0, true)) (k (false, false)))))))
                        (br (W.eq x0 112) (k (W.ge y_2 0, true))
                          (br (W.eq x0 160)
                            (br (W.eq x0 160) (k (W.lt y_2 0, true))
                              (br (W.eq x0 176) (br (W.eq x0 176) (k (W.le y_2 0, true)) (k (false, false))) (br (W.eq x0 208) (k (W.le y_2 0, true)) (k (false, false)))))
                            (br (W.eq x0 192) (k (W.lt y_2 0, true))
                              (br (W.eq x0 176) (br (W.eq x0 176) (k (W.le y_2 0, true)) (k (false, false))) (br (W.eq x0 208) (k (W.le y_2 0, true)) (k (false, false)))))))))
                    (br (W.eq x0 96) (k (W.gt y_2 0, true))
                      (br (W.eq x0 48)
                        (br (W.eq x0 48) (k (W.ge y_2 0, true))
                          (br (W.eq x0 160)
                            (br (W.eq x0 160) (k (W.lt y_2 0, true))
                              (br (W.eq x0 176) (br (W.eq x0 176) (k (W.le y_2 0, true)) (k (false, false))) (br (W.eq x0 208) (k (W.le y_2 0, true)) (k (false, false)))))
                            (br (W.eq x0 192) (k (W.lt y_2 0, true))
                              (br (W.eq x0 176) (br (W.eq x0 176) (k (W.le y_2 0, true)) (k (false, false))) (br (W.eq x0 208) (k (W.le y_2 0, true)) (k (false, false)))))))
                        (br (W.eq x0 112) (k (W.ge y_2 0, true))
                          (br (W.eq x0 160)
                            (br (W.eq x0 160) (k (W.lt y_2 0, true))
                              (br (W.eq x0 176) (br (W.eq x0 176) (k (W.le y_2 0, true)) (k (false, false))) (br (W.eq x0 208) (k (W.le y_2 0, true)) (k (false, false)))))
                            (br (W.eq x0 192) (k (W.lt y_2 0, true))
                              (br (W.eq x0 176) (br (W.eq x0 176) (k (W.le y_2 0, true)) (k (false, false))) (br (W.eq x0 208) (k (W.le y_2 0, true)) (k (false, false))))))))))))
theorem S_word_Cond {F_word_low : FT ps_word_low qs_word_low} {F_word_order : FT ps_word_order qs_word_order} (h_word_low : SpecOk Try.prog 37 (mkS ps_word_low qs_word_low F_word_low)) (h_word_order : SpecOk Try.prog 40 (mkS ps_word_order qs_word_order F_word_order)) : SpecOk Try.prog 25 (mkS ps_word_Cond qs_word_Cond (N_word_Cond F_word_low F_word_order)) :=
  specOk_mk (fl := 10) (d := 12) (cfgOk_cons (cfgOk_cons base h_word_order) h_word_low) (by rintro R ⟨x0, x1, x2, x3⟩ k; kernel_rfl)
noncomputable def F_word_Cond : FT ps_word_Cond qs_word_Cond := N_word_Cond F_word_low F_word_order 
theorem ok_word_Cond : SpecOk Try.prog 25 (mkS ps_word_Cond qs_word_Cond F_word_Cond) := S_word_Cond ok_word_low ok_word_order
abbrev ps_legal_Jump : List PT := [.one (.int .i64)]
abbrev qs_legal_Jump : List PT := [.one (.int .i64), .one (.bool), .one (.bool)]
noncomputable def N_legal_Jump (F_legal_class : FT ps_legal_class qs_legal_class) (F_word_Cond : FT ps_word_Cond qs_word_Cond)  : FT ps_legal_Jump qs_legal_Jump := fun R x k => match x with
  | x0 => 
      F_legal_class R x0 fun y =>
        F_word_Cond R (W.wrap IntKind.i64 (W.and IntKind.i64 x0 240), 0, 0, true) fun y_1 =>
          br (W.pick (W.pick (W.ne y 5) (W.ne y 6) false) true (W.not y_1.2)) (k (0, false, false)) (k (W.wrap IntKind.i64 (W.and IntKind.i64 x0 240), W.eq y 5, true))
theorem S_legal_Jump {F_legal_class : FT ps_legal_class qs_legal_class} {F_word_Cond : FT ps_word_Cond qs_word_Cond} (h_legal_class : SpecOk Try.prog 23 (mkS ps_legal_class qs_legal_class F_legal_class)) (h_word_Cond : SpecOk Try.prog 25 (mkS ps_word_Cond qs_word_Cond F_word_Cond)) : SpecOk Try.prog 10 (mkS ps_legal_Jump qs_legal_Jump (N_legal_Jump F_legal_class F_word_Cond)) :=
  specOk_mk (fl := 10) (d := 12) (cfgOk_cons (cfgOk_cons base h_word_Cond) h_legal_class) (by intro R x0 k; kernel_rfl)
noncomputable def F_legal_Jump : FT ps_legal_Jump qs_legal_Jump := N_legal_Jump F_legal_class F_word_Cond 
theorem ok_legal_Jump : SpecOk Try.prog 10 (mkS ps_legal_Jump qs_legal_Jump F_legal_Jump) := S_legal_Jump ok_legal_class ok_word_Cond
abbrev ps_clevisref04Jump : List PT := [.one (.int .i64)]
abbrev qs_clevisref04Jump : List PT := [.one (.int .i64), .one (.bool), .one (.bool)]
noncomputable def N_clevisref04Jump   : FT ps_clevisref04Jump qs_clevisref04Jump := fun R x k => match x with
  | x0 => 
      br
        (W.pick
          (W.pick
            (W.pick
              (W.pick (W.pick (W.pick (W.lt x0 0) true (W.gt x0 255)) true (W.pick (W.ne (W.wrap IntKind.i64 (W.and IntKind.i64 x0 7)) 5) (W.ne (W.wrap IntKind.i64 (W.and IntKind.i64 x0 7)) 6) false)) true
                (W.eq (W.wrap IntKind.i64 (W.andNot IntKind.i64 x0 15)) 0))
              true (W.eq (W.wrap IntKind.i64 (W.andNot IntKind.i64 x0 15)) 128))
            true (W.eq (W.wrap IntKind.i64 (W.andNot IntKind.i64 x0 15)) 144))
          true (W.gt (W.wrap IntKind.i64 (W.andNot IntKind.i64 x0 15)) 208))
        (k (0, false, false)) (k (W.wrap IntKind.i64 (W.andNot IntKind.i64 x0 15), W.eq (W.wrap IntKind.i64 (W.and IntKind.i64 x0 7)) 5, true))
theorem S_clevisref04Jump   : SpecOk Try.prog 11 (mkS ps_clevisref04Jump qs_clevisref04Jump (N_clevisref04Jump )) :=
  specOk_mk (fl := 10) (d := 12) base (by intro R x0 k; kernel_rfl)
noncomputable def F_clevisref04Jump : FT ps_clevisref04Jump qs_clevisref04Jump := N_clevisref04Jump  
theorem ok_clevisref04Jump : SpecOk Try.prog 11 (mkS ps_clevisref04Jump qs_clevisref04Jump F_clevisref04Jump) := S_clevisref04Jump 
abbrev ps_legal_Size : List PT := [.one (.int .i64)]
abbrev qs_legal_Size : List PT := [.one (.int .i64)]
noncomputable def N_legal_Size (F_legal_class : FT ps_legal_class qs_legal_class)  : FT ps_legal_Size qs_legal_Size := fun R x k => match x with
  | x0 => 
      F_legal_class R x0 fun y =>
        br (W.eq y 1)
          (br (W.eq (W.wrap IntKind.i64 (W.andNot IntKind.i64 x0 7)) 96) (k 4)
            (br (W.eq (W.wrap IntKind.i64 (W.andNot IntKind.i64 x0 7)) 104) (k 2)
              (br (W.eq (W.wrap IntKind.i64 (W.andNot IntKind.i64 x0 7)) 112) (k 1) (br (W.eq (W.wrap IntKind.i64 (W.andNot IntKind.i64 x0 7)) 120) (k 8) (k 0)))))
          (br (W.eq y 2)
            (br (W.eq (W.wrap IntKind.i64 (W.andNot IntKind.i64 x0 7)) 96) (k 4)
              (br (W.eq (W.wrap IntKind.i64 (W.andNot IntKind.i64 x0 7)) 104) (k 2)
                (br (W.eq (W.wrap IntKind.i64 (W.andNot IntKind.i64 x0 7)) 112) (k 1) (br (W.eq (W.wrap IntKind.i64 (W.andNot IntKind.i64 x0 7)) 120) (k 8) (k 0)))))
            (br (W.eq y 3)
              (br (W.eq (W.wrap IntKind.i64 (W.andNot IntKind.i64 x0 7)) 96) (k 4)
                (br (W.eq (W.wrap IntKind.i64 (W.andNot IntKind.i64 x0 7)) 104) (k 2)
                  (br (W.eq (W.wrap IntKind.i64 (W.andNot IntKind.i64 x0 7)) 112) (k 1) (br (W.eq (W.wrap IntKind.i64 (W.andNot IntKind.i64 x0 7)) 120) (k 8) (k 0)))))
              (k 0)))
theorem S_legal_Size {F_legal_class : FT ps_legal_class qs_legal_class} (h_legal_class : SpecOk Try.prog 23 (mkS ps_legal_class qs_legal_class F_legal_class)) : SpecOk Try.prog 12 (mkS ps_legal_Size qs_legal_Size (N_legal_Size F_legal_class)) :=
  specOk_mk (fl := 10) (d := 12) (cfgOk_cons base h_legal_class) (by intro R x0 k; kernel_rfl)
noncomputable def F_legal_Size : FT ps_legal_Size qs_legal_Size := N_legal_Size F_legal_class 
theorem ok_legal_Size : SpecOk Try.prog 12 (mkS ps_legal_Size qs_legal_Size F_legal_Size) := S_legal_Size ok_legal_class
abbrev ps_clevisref04Size : List PT := [.one (.int .i64)]
abbrev qs_clevisref04Size : List PT := [.one (.int .i64)]
noncomputable def N_clevisref04Size   : FT ps_clevisref04Size qs_clevisref04Size := fun R x k => match x with
  | x0 => 
      br (W.eq x0 97)
        (br (W.eq x0 97) (k 4)
          (br (W.eq x0 105)
            (br (W.eq x0 105) (k 2)
              (br (W.eq x0 113) (br (W.eq x0 113) (k 1) (br (W.eq x0 121) (br (W.eq x0 121) (k 8) (k 0)) (br (W.eq x0 122) (br (W.eq x0 122) (k 8) (k 0)) (br (W.eq x0 123) (k 8) (k 0)))))
                (br (W.eq x0 114) (br (W.eq x0 114) (k 1) (br (W.eq x0 121) (br (W.eq x0 121) (k 8) (k 0)) (br (W.eq x0 122) (br (W.eq x0 122) (k 8) (k 0)) (br (W.eq x0 123) (k 8) (k 0)))))
                  (br (W.eq x0 115) (k 1) (br (W.eq x0 121) (br (W.eq x0 121) (k 8) (k 0)) (br (W.eq x0 122) (br (W.eq x0 122) (k 8) (k 0)) (br (W.eq x0 123) (k 8) (k 0))))))))
            (br (W.eq x0 106)
              (br (W.eq x0 106) (k 2)
                (br (W.eq x0 113) (br (W.eq x0 113) (k 1) (br (W.eq x0 121) (br (W.eq x0 121) (k 8) (k 0)) (br (W.eq x0 122) (br (W.eq x0 122) (k 8) (k 0)) (br (W.eq x0 123) (k 8) (k 0)))))
                  (br (W.eq x0 114) (br (W.eq x0 114) (k 1) (br (W.eq x0 121) (br (W.eq x0 121) (k 8) (k 0)) (br (W.eq x0 122) (br (W.eq x0 122) (k 8) (k 0)) (br (W.eq x0 123) (k 8) (k 0)))))
                    (br (W.eq x0 115) (k 1) (br (W.eq x0 121) (br (W.eq x0 121) (k 8) (k 0)) (br (W.eq x0 122) (br (W.eq x0 122) (k 8) (k 0)) (br (W.eq x0 123) (k 8) (k 0))))))))
              (br (W.eq x0 107) (k 2)
                (br (W.eq x0 113) (br (W.eq x0 113) (k 1) (br (W.eq x0 121) (br (W.eq x0 121) (k 8) (k 0)) (br (W.eq x0 122) (br (W.eq x0 122) (k 8) (k 0)) (br (W.eq x0 123) (k 8) (k 0)))))
                  (br (W.eq x0 114) (br (W.eq x0 114) (k 1) (br (W.eq x0 121) (br (W.eq x0 121) (k 8) (k 0)) (br (W.eq x0 122) (br (W.eq x0 122) (k 8) (k 0)) (br (W.eq x0 123) (k 8) (k 0)))))
                    (br (W.eq x0 115) (k 1) (br (W.eq x0 121) (br (W.eq x0 121) (k 8) (k 0)) (br (W.eq x0 122) (br (W.eq x0 122) (k 8) (k 0)) (br (W.eq x0 123) (k 8) (k 0)))))))))))
        (br (W.eq x0 98)
          (br (W.eq x0 98) (k 4)
            (br (W.eq x0 105)
              (br (W.eq x0 105) (k 2)
                (br (W.eq x0 113) (br (W.eq x0 113) (k 1) (br (W.eq x0 121) (br (W.eq x0 121) (k 8) (k 0)) (br (W.eq x0 122) (br (W.eq x0 122) (k 8) (k 0)) (br (W.eq x0 123) (k 8) (k 0)))))
                  (br (W.eq x0 114) (br (W.eq x0 114) (k 1) (br (W.eq x0 121) (br (W.eq x0 121) (k 8) (k 0)) (br (W.eq x0 122) (br (W.eq x0 122) (k 8) (k 0)) (br (W.eq x0 123) (k 8) (k 0)))))
                    (br (W.eq x0 115) (k 1) (br (W.eq x0 121) (br (W.eq x0 121) (k 8) (k 0)) (br (W.eq x0 122) (br (W.eq x0 122) (k 8) (k 0)) (br (W.eq x0 123) (k 8) (k 0))))))))
              (br (W.eq x0 106)
                (br (W.eq x0 106) (k 2)
                  (br (W.eq x0 113) (br (W.eq x0 113) (k 1) (br (W.eq x0 121) (br (W.eq x0 121) (k 8) (k 0)) (br (W.eq x0 122) (br (W.eq x0 122) (k 8) (k 0)) (br (W.eq x0 123) (k 8) (k 0)))))
                    (br (W.eq x0 114) (br (W.eq x0 114) (k 1) (br (W.eq x0 121) (br (W.eq x0 121) (k 8) (k 0)) (br (W.eq x0 122) (br (W.eq x0 122) (k 8) (k 0)) (br (W.eq x0 123) (k 8) (k 0)))))
                      (br (W.eq x0 115) (k 1) (br (W.eq x0 121) (br (W.eq x0 121) (k 8) (k 0)) (br (W.eq x0 122) (br (W.eq x0 122) (k 8) (k 0)) (br (W.eq x0 123) (k 8) (k 0))))))))
                (br (W.eq x0 107) (k 2)
                  (br (W.eq x0 113) (br (W.eq x0 113) (k 1) (br (W.eq x0 121) (br (W.eq x0 121) (k 8) (k 0)) (br (W.eq x0 122) (br (W.eq x0 122) (k 8) (k 0)) (br (W.eq x0 123) (k 8) (k 0)))))
                    (br (W.eq x0 114) (br (W.eq x0 114) (k 1) (br (W.eq x0 121) (br (W.eq x0 121) (k 8) (k 0)) (br (W.eq x0 122) (br (W.eq x0 122) (k 8) (k 0)) (br (W.eq x0 123) (k 8) (k 0)))))
                      (br (W.eq x0 115) (k 1) (br (W.eq x0 121) (br (W.eq x0 121) (k 8) (k 0)) (br (W.eq x0 122) (br (W.eq x0 122) (k 8) (k 0)) (br (W.eq x0 123) (k 8) (k 0)))))))))))
          (br (W.eq x0 99) (k 4)
            (br (W.eq x0 105)
              (br (W.eq x0 105) (k 2)
                (br (W.eq x0 113) (br (W.eq x0 113) (k 1) (br (W.eq x0 121) (br (W.eq x0 121) (k 8) (k 0)) (br (W.eq x0 122) (br (W.eq x0 122) (k 8) (k 0)) (br (W.eq x0 123) (k 8) (k 0)))))
                  (br (W.eq x0 114) (br (W.eq x0 114) (k 1) (br (W.eq x0 121) (br (W.eq x0 121) (k 8) (k 0)) (br (W.eq x0 122) (br (W.eq x0 122) (k 8) (k 0)) (br (W.eq x0 123) (k 8) (k 0)))))
                    (br (W.eq x0 115) (k 1) (br (W.eq x0 121) (br (W.eq x0 121) (k 8) (k 0)) (br (W.eq x0 122) (br (W.eq x0 122) (k 8) (k 0)) (br (W.eq x0 123) (k 8) (k 0))))))))
              (br (W.eq x0 106)
                (br (W.eq x0 106) (k 2)
                  (br (W.eq x0 113) (br (W.eq x0 113) (k 1) (br (W.eq x0 121) (br (W.eq x0 121) (k 8) (k 0)) (br (W.eq x0 122) (br (W.eq x0 122) (k 8) (k 0)) (br (W.eq x0 123) (k 8) (k 0)))))
                    (br (W.eq x0 114) (br (W.eq x0 114) (k 1) (br (W.eq x0 121) (br (W.eq x0 121) (k 8) (k 0)) (br (W.eq x0 122) (br (W.eq x0 122) (k 8) (k 0)) (br (W.eq x0 123) (k 8) (k 0)))))
                      (br (W.eq x0 115) (k 1) (br (W.eq x0 121) (br (W.eq x0 121) (k 8) (k 0)) (br (W.eq x0 122) (br (W.eq x0 122) (k 8) (k 0)) (br (W.eq x0 123) (k 8) (k 0))))))))
                (br (W.eq x0 107) (k 2)
                  (br (W.eq x0 113) (br (W.eq x0 113) (k 1) (br (W.eq x0 121) (br (W.eq x0 121) (k 8) (k 0)) (br (W.eq x0 122) (br (W.eq x0 122) (k 8) (k 0)) (br (W.eq x0 123) (k 8) (k 0)))))
                    (br (W.eq x0 114) (br (W.eq x0 114) (k 1) (br (W.eq x0 121) (br (W.eq x0 121) (k 8) (k 0)) (br (W.eq x0 122) (br (W.eq x0 122) (k 8) (k 0)) (br (W.eq x0 123) (k 8) (k 0)))))
                      (br (W.eq x0 115) (k 1) (br (W.eq x0 121) (br (W.eq x0 121) (k 8) (k 0)) (br (W.eq x0 122) (br (W.eq x0 122) (k 8) (k 0)) (br (W.eq x0 123) (k 8) (k 0))))))))))))
theorem S_clevisref04Size   : SpecOk Try.prog 13 (mkS ps_clevisref04Size qs_clevisref04Size (N_clevisref04Size )) :=
  specOk_mk (fl := 10) (d := 12) base (by intro R x0 k; kernel_rfl)
noncomputable def F_clevisref04Size : FT ps_clevisref04Size qs_clevisref04Size := N_clevisref04Size  
theorem ok_clevisref04Size : SpecOk Try.prog 13 (mkS ps_clevisref04Size qs_clevisref04Size F_clevisref04Size) := S_clevisref04Size 
abbrev ps_legal_within : List PT := [.one (.int .i64), .one (.int .i64), .one (.int .i64)]
abbrev qs_legal_within : List PT := [.one (.bool)]
noncomputable def N_legal_within   : FT ps_legal_within qs_legal_within := fun R x k => match x with
  | (x0, x1, x2) => 
      k (W.pick (W.ge x0 x1) (W.le x0 x2) false)
theorem S_legal_within   : SpecOk Try.prog 31 (mkS ps_legal_within qs_legal_within (N_legal_within )) :=
  specOk_mk (fl := 10) (d := 12) base (by rintro R ⟨x0, x1, x2⟩ k; kernel_rfl)
noncomputable def F_legal_within : FT ps_legal_within qs_legal_within := N_legal_within  
theorem ok_legal_within : SpecOk Try.prog 31 (mkS ps_legal_within qs_legal_within F_legal_within) := S_legal_within 
abbrev ps_legal_fields : List PT := [.agg ((.prod (.int .i64) (.prod (.int .i64) (.prod (.int .i64) (.prod (.int .i64) (.prod (.int .i64) (.int .u64))))))), .one (.int .i64)]
abbrev qs_legal_fields : List PT := [.one (.bool)]
noncomputable def N_legal_fields (F_legal_within : FT ps_legal_within qs_legal_within)  : FT ps_legal_fields qs_legal_fields := fun R x k => match x with
  | ((x0Op, x0Dst, x0Src, x0Off, x0Imm, x0Wide), x1) => 
      F_legal_within R (x0Dst, 0, x1) fun y =>
        br y
          (F_legal_within R (x0Src, 0, 10) fun y =>
            br (W.pick true y false)
              (F_legal_within R (x0Off, -32768, 32767) fun y => br (W.pick true y false) (F_legal_within R (x0Imm, -2147483648, 2147483647) fun y => k (W.pick true y false)) (k false)) (k false))
          (k false)
theorem S_legal_fields {F_legal_within : FT ps_legal_within qs_legal_within} (h_legal_within : SpecOk Try.prog 31 (mkS ps_legal_within qs_legal_within F_legal_within)) : SpecOk Try.prog 27 (mkS ps_legal_fields qs_legal_fields (N_legal_fields F_legal_within)) :=
  specOk_mk (fl := 10) (d := 12) (cfgOk_cons base h_legal_within) (by rintro R ⟨⟨x0Op, x0Dst, x0Src, x0Off, x0Imm, x0Wide⟩, x1⟩ k; kernel_rfl)
noncomputable def F_legal_fields : FT ps_legal_fields qs_legal_fields := N_legal_fields F_legal_within 
theorem ok_legal_fields : SpecOk Try.prog 27 (mkS ps_legal_fields qs_legal_fields F_legal_fields) := S_legal_fields ok_legal_within
abbrev ps_legal_operand : List PT := [.agg ((.prod (.int .i64) (.prod (.int .i64) (.prod (.int .i64) (.prod (.int .i64) (.prod (.int .i64) (.int .u64)))))))]
abbrev qs_legal_operand : List PT := [.one (.bool)]
noncomputable def N_legal_operand   : FT ps_legal_operand qs_legal_operand := fun R x k => match x with
  | (x0Op, x0Dst, x0Src, x0Off, x0Imm, x0Wide) => 
      br (W.gt (W.wrap IntKind.i64 (W.and IntKind.i64 x0Op 8)) 0) (k (W.eq x0Imm 0)) (k (W.eq x0Src 0))
theorem S_legal_operand   : SpecOk Try.prog 29 (mkS ps_legal_operand qs_legal_operand (N_legal_operand )) :=
  specOk_mk (fl := 10) (d := 12) base (by rintro R ⟨x0Op, x0Dst, x0Src, x0Off, x0Imm, x0Wide⟩ k; kernel_rfl)
noncomputable def F_legal_operand : FT ps_legal_operand qs_legal_operand := N_legal_operand  
theorem ok_legal_operand : SpecOk Try.prog 29 (mkS ps_legal_operand qs_legal_operand F_legal_operand) := S_legal_operand 
abbrev ps_legal_alu : List PT := [.agg ((.prod (.int .i64) (.prod (.int .i64) (.prod (.int .i64) (.prod (.int .i64) (.prod (.int .i64) (.int .u64))))))), .one (.int .i64), .one (.bool)]
abbrev qs_legal_alu : List PT := [.one (.bool)]
noncomputable def N_legal_alu (F_legal_within : FT ps_legal_within qs_legal_within) (F_legal_operand : FT ps_legal_operand qs_legal_operand)  : FT ps_legal_alu qs_legal_alu := fun R x k => match x with
  | ((x0Op, x0Dst, x0Src, x0Off, x0Imm, x0Wide), x1, x2) => 
      F_legal_operand R (x0Op, x0Dst, x0Src, x0Off, x0Imm, x0Wide) fun y =>
        br (W.pick (W.not y) true (W.ne x0Off 0)) (k false)
          (br (W.eq x1 128) (k (W.eq x0Imm 0))
            (br (W.eq x1 96)
              (br (W.eq x1 96) (br (W.not (W.pick (W.pick x2 (W.le x0Imm 63) false) (W.ge x0Imm 0) false)) (F_legal_within R (x0Imm, 0, 31) fun y => k (W.pick false true y)) (k true)) (k true))
              (br (W.eq x1 112)
                (br (W.eq x1 112) (br (W.not (W.pick (W.pick x2 (W.le x0Imm 63) false) (W.ge x0Imm 0) false)) (F_legal_within R (x0Imm, 0, 31) fun y => k (W.pick false true y)) (k true)) (k true))
                (br (W.eq x1 192) (br (W.not (W.pick (W.pick x2 (W.le x0Imm 63) false) (W.ge x0Imm 0) false)) (F_legal_within R (x0Imm, 0, 31) fun y => k (W.pick false true y)) (k true)) (k true)))))
theorem S_legal_alu {F_legal_within : FT ps_legal_within qs_legal_within} {F_legal_operand : FT ps_legal_operand qs_legal_operand} (h_legal_within : SpecOk Try.prog 31 (mkS ps_legal_within qs_legal_within F_legal_within)) (h_legal_operand : SpecOk Try.prog 29 (mkS ps_legal_operand qs_legal_operand F_legal_operand)) : SpecOk Try.prog 28 (mkS ps_legal_alu qs_legal_alu (N_legal_alu F_legal_within F_legal_operand)) :=
  specOk_mk (fl := 10) (d := 12) (cfgOk_cons (cfgOk_cons base h_legal_operand) h_legal_within) (by rintro R ⟨⟨x0Op, x0Dst, x0Src, x0Off, x0Imm, x0Wide⟩, x1, x2⟩ k; kernel_rfl)
noncomputable def F_legal_alu : FT ps_legal_alu qs_legal_alu := N_legal_alu F_legal_within F_legal_operand 
theorem ok_legal_alu : SpecOk Try.prog 28 (mkS ps_legal_alu qs_legal_alu F_legal_alu) := S_legal_alu ok_legal_within ok_legal_operand
abbrev ps_legal_nought : List PT := [.one (.slice (.int .i64))]
abbrev qs_legal_nought : List PT := [.one (.bool)]
noncomputable def PL_legal_nought_2_0  (fl : Nat)  (R : Type) (k : PTs.D qs_legal_nought → Option R) : LoopI R :=
  locate (Cw Try.prog [] noH) fl (call (Cw Try.prog [] noH) fl 11) 0 30 2 [] (getR qs_legal_nought k)
noncomputable def P_legal_nought_2_0  (fl : Nat)  (n : Nat) (R : Type) (y0 : List Int) (y1 : Int) (y2 : Int) (k : PTs.D qs_legal_nought → Option R) : Option R :=
  loopH (PL_legal_nought_2_0  fl  R k).body (PL_legal_nought_2_0  fl  R k).head n (some (
      S.mk [V.any, V.any, V.any, V.any, V.any, V.ro true (Ty.int IntKind.i64) y0, V.int IntKind.i64 y1, V.int IntKind.i64 y2, V.any, V.any, V.any, V.any, V.any, V.any] [] [])) (PL_legal_nought_2_0  fl  R k).kont
theorem P_legal_nought_2_0_s  (fl : Nat)  (n : Nat) (R : Type) (y0 : List Int) (y1 : Int) (y2 : Int) (k : PTs.D qs_legal_nought → Option R) : P_legal_nought_2_0  fl  (n + 1) R y0 y1 y2 k =
      br (W.lt y2 y1) (br (W.and2 (W.le 0 y2) (W.lt y2 (W.ofNat (W.len y0)))) (br (W.ne (W.get y0 (W.toNat y2) 0) 0) (k false) (P_legal_nought_2_0 fl n R y0 y1 (W.wrap IntKind.i64 (W.add y2 1)) k)) none) (k true) := by kernel_rfl
noncomputable def N_legal_nought  (fl : Nat) : FT ps_legal_nought qs_legal_nought := fun R x k => match x with
  | x0 => 
      P_legal_nought_2_0 fl fl R x0 (W.ofNat (W.len x0)) 0 k
theorem Q_legal_nought  (fl : Nat) (R : Type) (x : PTs.D ps_legal_nought) (k : PTs.D qs_legal_nought → Option R) : call (Cw Try.prog [] noH) fl 12 30 (encL true ps_legal_nought x) [] (getR qs_legal_nought k) = N_legal_nought  fl R x k := by
  kernel_rfl
theorem S_legal_nought   : SpecOk Try.prog 30 (mkS ps_legal_nought qs_legal_nought (N_legal_nought  W.big)) :=
  specOk_mk (fl := W.big) (d := 12) base (fun R x k => Q_legal_nought W.big R x k)
noncomputable def F_legal_nought : FT ps_legal_nought qs_legal_nought := N_legal_nought  W.big
theorem ok_legal_nought : SpecOk Try.prog 30 (mkS ps_legal_nought qs_legal_nought F_legal_nought) := S_legal_nought 
abbrev ps_legal_two : List PT := [.agg ((.prod (.int .i64) (.prod (.int .i64) (.prod (.int .i64) (.prod (.int .i64) (.prod (.int .i64) (.int .u64)))))))]
abbrev qs_legal_two : List PT := [.one (.bool)]
noncomputable def N_legal_two (F_legal_within : FT ps_legal_within qs_legal_within) (F_legal_nought : FT ps_legal_nought qs_legal_nought)  : FT ps_legal_two qs_legal_two := fun R x k => match x with
  | (x0Op, x0Dst, x0Src, x0Off, x0Imm, x0Wide) => 
      F_legal_nought R [x0Off] fun y =>
        br (W.pick (W.not y) true (W.ne (W.wrap IntKind.u32 x0Wide) (W.wrap IntKind.u32 x0Imm))) (k false)
          (br (W.eq x0Src 1) (F_legal_within R (x0Imm, 0, 7) fun y => k (W.pick y (W.eq (W.shr IntKind.u64 x0Wide 32) 0) false)) (k (W.eq x0Src 0)))
theorem S_legal_two {F_legal_within : FT ps_legal_within qs_legal_within} {F_legal_nought : FT ps_legal_nought qs_legal_nought} (h_legal_within : SpecOk Try.prog 31 (mkS ps_legal_within qs_legal_within F_legal_within)) (h_legal_nought : SpecOk Try.prog 30 (mkS ps_legal_nought qs_legal_nought F_legal_nought)) : SpecOk Try.prog 32 (mkS ps_legal_two qs_legal_two (N_legal_two F_legal_within F_legal_nought)) :=
  specOk_mk (fl := 10) (d := 12) (cfgOk_cons (cfgOk_cons base h_legal_nought) h_legal_within) (by rintro R ⟨x0Op, x0Dst, x0Src, x0Off, x0Imm, x0Wide⟩ k; kernel_rfl)
noncomputable def F_legal_two : FT ps_legal_two qs_legal_two := N_legal_two F_legal_within F_legal_nought 
theorem ok_legal_two : SpecOk Try.prog 32 (mkS ps_legal_two qs_legal_two F_legal_two) := S_legal_two ok_legal_within ok_legal_nought
abbrev ps_legal_Ins : List PT := [.agg ((.prod (.int .i64) (.prod (.int .i64) (.prod (.int .i64) (.prod (.int .i64) (.prod (.int .i64) (.int .u64)))))))]
abbrev qs_legal_Ins : List PT := [.one (.bool)]
noncomputable def N_legal_Ins (F_legal_class : FT ps_legal_class qs_legal_class) (F_legal_Alu : FT ps_legal_Alu qs_legal_Alu) (F_legal_Jump : FT ps_legal_Jump qs_legal_Jump) (F_legal_Size : FT ps_legal_Size qs_legal_Size) (F_legal_within : FT ps_legal_within qs_legal_within) (F_legal_fields : FT ps_legal_fields qs_legal_fields) (F_legal_operand : FT ps_legal_operand qs_legal_operand) (F_legal_alu : FT ps_legal_alu qs_legal_alu) (F_legal_nought : FT ps_legal_nought qs_legal_nought) (F_legal_two : FT ps_legal_two qs_legal_two)  : FT ps_legal_Ins qs_legal_Ins := fun R x k => match x with
  | (x0Op, x0Dst, x0Src, x0Off, x0Imm, x0Wide) => 
      F_legal_Alu R x0Op fun y =>
        F_legal_Jump R x0Op fun y_1 =>
          br (W.not y.2.2)
            (F_legal_class R x0Op fun y_2 =>
              br (W.pick (W.pick false true (W.eq y_2 1)) true (W.eq x0Op 24))
                (F_legal_fields R ((x0Op, x0Dst, x0Src, x0Off, x0Imm, x0Wide), 9) fun y_3 =>
                  br (W.pick (W.not y_3) true (W.pick (W.ne x0Op 24) (W.ne x0Wide 0) false)) (k false)
                    (br y.2.2 (F_legal_alu R ((x0Op, x0Dst, x0Src, x0Off, x0Imm, x0Wide), y.1, y.2.1) fun y => k y)
                      (br y_1.2.2 (F_legal_operand R (x0Op, x0Dst, x0Src, x0Off, x0Imm, x0Wide) fun y => k y)
                        (br (W.eq x0Op 5) (F_legal_nought R [x0Dst, x0Src, x0Imm] fun y => k y)
                          (br (W.eq x0Op 133) (F_legal_nought R [x0Dst, x0Src, x0Off] fun y => br y (F_legal_within R (x0Imm, 1, 5) fun y => k (W.pick true y false)) (k false))
                            (br (W.eq x0Op 149) (F_legal_nought R [x0Dst, x0Src, x0Off, x0Imm] fun y => k y)
                              (br (W.eq x0Op 24) (F_legal_two R (x0Op, x0Dst, x0Src, x0Off, x0Imm, x0Wide) fun y => k y)
                                (F_legal_Size R x0Op fun y =>
                                  br (W.eq y 0) (k false) (F_legal_class R x0Op fun y => br (W.eq y 2) (F_legal_nought R [x0Src] fun y => k y) (F_legal_nought R [x0Imm] fun y => k y))))))))))
                (F_legal_fields R ((x0Op, x0Dst, x0Src, x0Off, x0Imm, x0Wide), 10) fun y_3 =>
                  br (W.pick (W.not y_3) true (W.pick (W.ne x0Op 24) (W.ne x0Wide 0) false)) (k false)
                    (br y.2.2 (F_legal_alu R ((x0Op, x0Dst, x0Src, x0Off, x0Imm, x0Wide), y.1, y.2.1) fun y => k y)
                      (br y_1.2.2 (F_legal_operand R (x0Op, x0Dst, x0Src, x0Off, x0Imm, x0Wide) fun y => k y)
                        (br (W.eq x0Op 5) (F_legal_nought R [x0Dst, x0Src, x0Imm] fun y => k y)
                          (br (W.eq x0Op 133) (F_legal_nought R [x0Dst, x0Src, x0Off] fun y => br y (F_legal_within R (x0Imm, 1, 5) fun y => k (W.pick true y false)) (k false))
                            (br (W.eq x0Op 149) (F_legal_nought R [x0Dst, x0Src, x0Off, x0Imm] fun y => k y)
                              (br (W.eq x0Op 24) (F_legal_two R (x0Op, x0Dst, x0Src, x0Off, x0Imm, x0Wide) fun y => k y)
                                (F_legal_Size R x0Op fun y =>
                                  br (W.eq y 0) (k false) (F_legal_class R x0Op fun y => br (W.eq y 2) (F_legal_nought R [x0Src] fun y => k y) (F_legal_nought R [x0Imm] fun y => k y)))))))))))
            (br (W.pick true true (W.eq x0Op 24))
              (F_legal_fields R ((x0Op, x0Dst, x0Src, x0Off, x0Imm, x0Wide), 9) fun y_2 =>
                br (W.pick (W.not y_2) true (W.pick (W.ne x0Op 24) (W.ne x0Wide 0) false)) (k false)
                  (br y.2.2 (F_legal_alu R ((x0Op, x0Dst, x0Src, x0Off, x0Imm, x0Wide), y.1, y.2.1) fun y => k y)
                    (br y_1.2.2 (F_legal_operand R (x0Op, x0Dst, x0Src, x0Off, x0Imm, x0Wide) fun y => k y)
                      (br (W.eq x0Op 5) (F_legal_nought R [x0Dst, x0Src, x0Imm] fun y => k y)
                        (br (W.eq x0Op 133) (F_legal_nought R [x0Dst, x0Src, x0Off] fun y => br y (F_legal_within R (x0Imm, 1, 5) fun y => k (W.pick true y false)) (k false))
                          (br (W.eq x0Op 149) (F_legal_nought R [x0Dst, x0Src, x0Off, x0Imm] fun y => k y)
                            (br (W.eq x0Op 24) (F_legal_two R (x0Op, x0Dst, x0Src, x0Off, x0Imm, x0Wide) fun y => k y)
                              (F_legal_Size R x0Op fun y =>
                                br (W.eq y 0) (k false) (F_legal_class R x0Op fun y => br (W.eq y 2) (F_legal_nought R [x0Src] fun y => k y) (F_legal_nought R [x0Imm] fun y => k y))))))))))
              (F_legal_fields R ((x0Op, x0Dst, x0Src, x0Off, x0Imm, x0Wide), 10) fun y_2 =>
                br (W.pick (W.not y_2) true (W.pick (W.ne x0Op 24) (W.ne x0Wide 0) false)) (k false)
                  (br y.2.2 (F_legal_alu R ((x0Op, x0Dst, x0Src, x0Off, x0Imm, x0Wide), y.1, y.2.1) fun y => k y)
                    (br y_1.2.2 (F_legal_operand R (x0Op, x0Dst, x0Src, x0Off, x0Imm, x0Wide) fun y => k y)
                      (br (W.eq x0Op 5) (F_legal_nought R [x0Dst, x0Src, x0Imm] fun y => k y)
                        (br (W.eq x0Op 133) (F_legal_nought R [x0Dst, x0Src, x0Off] fun y => br y (F_legal_within R (x0Imm, 1, 5) fun y => k (W.pick true y false)) (k false))
                          (br (W.eq x0Op 149) (F_legal_nought R [x0Dst, x0Src, x0Off, x0Imm] fun y => k y)
                            (br (W.eq x0Op 24) (F_legal_two R (x0Op, x0Dst, x0Src, x0Off, x0Imm, x0Wide) fun y => k y)
                              (F_legal_Size R x0Op fun y =>
                                br (W.eq y 0) (k false) (F_legal_class R x0Op fun y => br (W.eq y 2) (F_legal_nought R [x0Src] fun y => k y) (F_legal_nought R [x0Imm] fun y => k y)))))))))))
theorem S_legal_Ins {F_legal_class : FT ps_legal_class qs_legal_class} {F_legal_Alu : FT ps_legal_Alu qs_legal_Alu} {F_legal_Jump : FT ps_legal_Jump qs_legal_Jump} {F_legal_Size : FT ps_legal_Size qs_legal_Size} {F_legal_within : FT ps_legal_within qs_legal_within} {F_legal_fields : FT ps_legal_fields qs_legal_fields} {F_legal_operand : FT ps_legal_operand qs_legal_operand} {F_legal_alu : FT ps_legal_alu qs_legal_alu} {F_legal_nought : FT ps_legal_nought qs_legal_nought} {F_legal_two : FT ps_legal_two qs_legal_two} (h_legal_class : SpecOk Try.prog 23 (mkS ps_legal_class qs_legal_class F_legal_class)) (h_legal_Alu : SpecOk Try.prog 8 (mkS ps_legal_Alu qs_legal_Alu F_legal_Alu)) (h_legal_Jump : SpecOk Try.prog 10 (mkS ps_legal_Jump qs_legal_Jump F_legal_Jump)) (h_legal_Size : SpecOk Try.prog 12 (mkS ps_legal_Size qs_legal_Size F_legal_Size)) (h_legal_within : SpecOk Try.prog 31 (mkS ps_legal_within qs_legal_within F_legal_within)) (h_legal_fields : SpecOk Try.prog 27 (mkS ps_legal_fields qs_legal_fields F_legal_fields)) (h_legal_operand : SpecOk Try.prog 29 (mkS ps_legal_operand qs_legal_operand F_legal_operand)) (h_legal_alu : SpecOk Try.prog 28 (mkS ps_legal_alu qs_legal_alu F_legal_alu)) (h_legal_nought : SpecOk Try.prog 30 (mkS ps_legal_nought qs_legal_nought F_legal_nought)) (h_legal_two : SpecOk Try.prog 32 (mkS ps_legal_two qs_legal_two F_legal_two)) : SpecOk Try.prog 17 (mkS ps_legal_Ins qs_legal_Ins (N_legal_Ins F_legal_class F_legal_Alu F_legal_Jump F_legal_Size F_legal_within F_legal_fields F_legal_operand F_legal_alu F_legal_nought F_legal_two)) :=
  specOk_mk (fl := 10) (d := 12) (cfgOk_cons (cfgOk_cons (cfgOk_cons (cfgOk_cons (cfgOk_cons (cfgOk_cons (cfgOk_cons (cfgOk_cons (cfgOk_cons (cfgOk_cons base h_legal_two) h_legal_nought) h_legal_alu) h_legal_operand) h_legal_fields) h_legal_within) h_legal_Size) h_legal_Jump) h_legal_Alu) h_legal_class) (by rintro R ⟨x0Op, x0Dst, x0Src, x0Off, x0Imm, x0Wide⟩ k; kernel_rfl)
noncomputable def F_legal_Ins : FT ps_legal_Ins qs_legal_Ins := N_legal_Ins F_legal_class F_legal_Alu F_legal_Jump F_legal_Size F_legal_within F_legal_fields F_legal_operand F_legal_alu F_legal_nought F_legal_two 
theorem ok_legal_Ins : SpecOk Try.prog 17 (mkS ps_legal_Ins qs_legal_Ins F_legal_Ins) := S_legal_Ins ok_legal_class ok_legal_Alu ok_legal_Jump ok_legal_Size ok_legal_within ok_legal_fields ok_legal_operand ok_legal_alu ok_legal_nought ok_legal_two
abbrev ps_code_Hole : List PT := [.one (.slice ((.prod (.int .i64) (.prod (.int .i64) (.prod (.int .i64) (.prod (.int .i64) (.prod (.int .i64) (.int .u64)))))))), .one (.int .i64)]
abbrev qs_code_Hole : List PT := [.one (.bool)]
noncomputable def PL_code_Hole_4_0  (fl : Nat)  (R : Type) (k : PTs.D qs_code_Hole → Option R) : LoopI R :=
  locate (Cw Try.prog [] noH) fl (call (Cw Try.prog [] noH) fl 11) 0 26 4 [] (getR qs_code_Hole k)
noncomputable def P_code_Hole_4_0  (fl : Nat)  (n : Nat) (R : Type) (y0 : List (Int × Int × Int × Int × Int × Int)) (y1 : Int) (y2 : Int) (k : PTs.D qs_code_Hole → Option R) : Option R :=
  loopH (PL_code_Hole_4_0  fl  R k).body (PL_code_Hole_4_0  fl  R k).head n (some (
      S.mk
        [V.ro true (Ty.prod (Ty.int IntKind.i64) (Ty.prod (Ty.int IntKind.i64) (Ty.prod (Ty.int IntKind.i64) (Ty.prod (Ty.int IntKind.i64) (Ty.prod (Ty.int IntKind.i64) (Ty.int IntKind.u64)))))) y0,
          V.int IntKind.i64 y1, V.any, V.any, V.any, V.int IntKind.i64 y2, V.any, V.any, V.any, V.any, V.any, V.any, V.any, V.any, V.any, V.any, V.any, V.any, V.any, V.any, V.any, V.any, V.any, V.any,
          V.any, V.any, V.any, V.any, V.any, V.any, V.any, V.any, V.any]
        [] [])) (PL_code_Hole_4_0  fl  R k).kont
theorem P_code_Hole_4_0_s  (fl : Nat)  (n : Nat) (R : Type) (y0 : List (Int × Int × Int × Int × Int × Int)) (y1 : Int) (y2 : Int) (k : PTs.D qs_code_Hole → Option R) : P_code_Hole_4_0  fl  (n + 1) R y0 y1 y2 k =
      br
        (W.or2 (W.not (W.lt y2 y1))
          (W.and2 (W.le 0 (W.wrap IntKind.i64 (W.sub (W.wrap IntKind.i64 (W.sub y1 1)) y2))) (W.lt (W.wrap IntKind.i64 (W.sub (W.wrap IntKind.i64 (W.sub y1 1)) y2)) (W.ofNat (W.len y0)))))
        (br (W.pick (W.lt y2 y1) (W.eq (W.get y0 (W.toNat (W.wrap IntKind.i64 (W.sub (W.wrap IntKind.i64 (W.sub y1 1)) y2))) (0, 0, 0, 0, 0, 0)).1 24) false)
          (P_code_Hole_4_0 fl n R y0 y1 (W.wrap IntKind.i64 (W.add y2 1)) k) (k (W.eq (W.wrap IntKind.i64 (W.and IntKind.i64 y2 1)) 1)))
        none := by kernel_rfl
noncomputable def N_code_Hole  (fl : Nat) : FT ps_code_Hole qs_code_Hole := fun R x k => match x with
  | (x0, x1) => 
      br (W.pick (W.lt x1 1) true (W.ge x1 (W.ofNat (W.len x0)))) (k false) (P_code_Hole_4_0 fl fl R x0 x1 0 k)
theorem Q_code_Hole  (fl : Nat) (R : Type) (x : PTs.D ps_code_Hole) (k : PTs.D qs_code_Hole → Option R) : call (Cw Try.prog [] noH) fl 12 26 (encL true ps_code_Hole x) [] (getR qs_code_Hole k) = N_code_Hole  fl R x k := by
  obtain ⟨x0, x1⟩ := x; kernel_rfl
theorem S_code_Hole   : SpecOk Try.prog 26 (mkS ps_code_Hole qs_code_Hole (N_code_Hole  W.big)) :=
  specOk_mk (fl := W.big) (d := 12) base (fun R x k => Q_code_Hole W.big R x k)
noncomputable def F_code_Hole : FT ps_code_Hole qs_code_Hole := N_code_Hole  W.big
theorem ok_code_Hole : SpecOk Try.prog 26 (mkS ps_code_Hole qs_code_Hole F_code_Hole) := S_code_Hole 
abbrev ps_legal_Succ : List PT := [.one (.slice ((.prod (.int .i64) (.prod (.int .i64) (.prod (.int .i64) (.prod (.int .i64) (.prod (.int .i64) (.int .u64)))))))), .one (.int .i64)]
abbrev qs_legal_Succ : List PT := [.one (.slice (.int .i64))]
noncomputable def N_legal_Succ (F_legal_Jump : FT ps_legal_Jump qs_legal_Jump) (F_code_Hole : FT ps_code_Hole qs_code_Hole)  : FT ps_legal_Succ qs_legal_Succ := fun R x k => match x with
  | (x0, x1) => 
      br (W.not (W.pick (W.lt x1 0) true (W.ge x1 (W.ofNat (W.len x0)))))
        (F_code_Hole R (x0, x1) fun y =>
          br (W.pick false true y) (k [])
            (br (W.and2 (W.le 0 x1) (W.lt x1 (W.ofNat (W.len x0))))
              (F_legal_Jump R (W.get x0 (W.toNat x1) (0, 0, 0, 0, 0, 0)).1 fun y =>
                br (W.eq (W.get x0 (W.toNat x1) (0, 0, 0, 0, 0, 0)).1 149) (k [])
                  (br (W.eq (W.get x0 (W.toNat x1) (0, 0, 0, 0, 0, 0)).1 5) (k [W.wrap IntKind.i64 (W.add (W.wrap IntKind.i64 (W.add x1 1)) (W.get x0 (W.toNat x1) (0, 0, 0, 0, 0, 0)).2.2.2.1)])
                    (br y.2.2 (k [W.wrap IntKind.i64 (W.add x1 1), W.wrap IntKind.i64 (W.add (W.wrap IntKind.i64 (W.add x1 1)) (W.get x0 (W.toNat x1) (0, 0, 0, 0, 0, 0)).2.2.2.1)])
                      (br (W.eq (W.get x0 (W.toNat x1) (0, 0, 0, 0, 0, 0)).1 24) (k [W.wrap IntKind.i64 (W.add x1 2)]) (k [W.wrap IntKind.i64 (W.add x1 1)])))))
              none))
        (k [])
theorem S_legal_Succ {F_legal_Jump : FT ps_legal_Jump qs_legal_Jump} {F_code_Hole : FT ps_code_Hole qs_code_Hole} (h_legal_Jump : SpecOk Try.prog 10 (mkS ps_legal_Jump qs_legal_Jump F_legal_Jump)) (h_code_Hole : SpecOk Try.prog 26 (mkS ps_code_Hole qs_code_Hole F_code_Hole)) : SpecOk Try.prog 20 (mkS ps_legal_Succ qs_legal_Succ (N_legal_Succ F_legal_Jump F_code_Hole)) :=
  specOk_mk (fl := 10) (d := 12) (cfgOk_cons (cfgOk_cons base h_code_Hole) h_legal_Jump) (by rintro R ⟨x0, x1⟩ k; kernel_rfl)
noncomputable def F_legal_Succ : FT ps_legal_Succ qs_legal_Succ := N_legal_Succ F_legal_Jump F_code_Hole 
theorem ok_legal_Succ : SpecOk Try.prog 20 (mkS ps_legal_Succ qs_legal_Succ F_legal_Succ) := S_legal_Succ ok_legal_Jump ok_code_Hole
abbrev ps_legal_Check : List PT := [.one (.slice ((.prod (.int .i64) (.prod (.int .i64) (.prod (.int .i64) (.prod (.int .i64) (.prod (.int .i64) (.int .u64))))))))]
abbrev qs_legal_Check : List PT := [.one (.int .i64), .one (.int .i64)]
noncomputable def PL_legal_Check_6_0 (F_legal_Ins : FT ps_legal_Ins qs_legal_Ins) (F_code_Hole : FT ps_code_Hole qs_code_Hole) (F_legal_Succ : FT ps_legal_Succ qs_legal_Succ) (fl : Nat)  (R : Type) (k : PTs.D qs_legal_Check → Option R) : LoopI R :=
  locate (Cw Try.prog [(17, mkS ps_legal_Ins qs_legal_Ins F_legal_Ins), (26, mkS ps_code_Hole qs_code_Hole F_code_Hole), (20, mkS ps_legal_Succ qs_legal_Succ F_legal_Succ)] noH) fl (call (Cw Try.prog [(17, mkS ps_legal_Ins qs_legal_Ins F_legal_Ins), (26, mkS ps_code_Hole qs_code_Hole F_code_Hole), (20, mkS ps_legal_Succ qs_legal_Succ F_legal_Succ)] noH) fl 11) 0 15 6 [] (getR qs_legal_Check k)
noncomputable def P_legal_Check_6_0 (F_legal_Ins : FT ps_legal_Ins qs_legal_Ins) (F_code_Hole : FT ps_code_Hole qs_code_Hole) (F_legal_Succ : FT ps_legal_Succ qs_legal_Succ) (fl : Nat)  (n : Nat) (R : Type) (y0 : List (Int × Int × Int × Int × Int × Int)) (y1 : List (Int × Int × Int × Int × Int × Int)) (y2 : Int) (y3 : Int) (k : PTs.D qs_legal_Check → Option R) : Option R :=
  loopH (PL_legal_Check_6_0 F_legal_Ins F_code_Hole F_legal_Succ fl  R k).body (PL_legal_Check_6_0 F_legal_Ins F_code_Hole F_legal_Succ fl  R k).head n (some (
      S.mk
        [V.ro true (Ty.prod (Ty.int IntKind.i64) (Ty.prod (Ty.int IntKind.i64) (Ty.prod (Ty.int IntKind.i64) (Ty.prod (Ty.int IntKind.i64) (Ty.prod (Ty.int IntKind.i64) (Ty.int IntKind.u64)))))) y0, V.any,
          V.any, V.any, V.any, V.any, V.any, V.any, V.any, V.any, V.any, V.any, V.any, V.any, V.any, V.any,
          V.ro true (Ty.prod (Ty.int IntKind.i64) (Ty.prod (Ty.int IntKind.i64) (Ty.prod (Ty.int IntKind.i64) (Ty.prod (Ty.int IntKind.i64) (Ty.prod (Ty.int IntKind.i64) (Ty.int IntKind.u64)))))) y1,
          V.int IntKind.i64 y2, V.int IntKind.i64 y3, V.any, V.any, V.any, V.any, V.any, V.any, V.any, V.any, V.any, V.any, V.any, V.any, V.any, V.any, V.any, V.any, V.any, V.any, V.any, V.any, V.any,
          V.any, V.any, V.any, V.any, V.any, V.any, V.any, V.any, V.any, V.any, V.any, V.any, V.any, V.any, V.any, V.any, V.any, V.any, V.any, V.any, V.any, V.any, V.any, V.any, V.any, V.any, V.any, V.any,
          V.any, V.any, V.any, V.any, V.any, V.any, V.any]
        [] [])) (PL_legal_Check_6_0 F_legal_Ins F_code_Hole F_legal_Succ fl  R k).kont
noncomputable def PL_legal_Check_12_0 (F_legal_Ins : FT ps_legal_Ins qs_legal_Ins) (F_code_Hole : FT ps_code_Hole qs_code_Hole) (F_legal_Succ : FT ps_legal_Succ qs_legal_Succ) (fl : Nat) (o0 : Nat) (R : Type) (k : PTs.D qs_legal_Check → Option R) : LoopI R :=
  locate (Cw Try.prog [(17, mkS ps_legal_Ins qs_legal_Ins F_legal_Ins), (26, mkS ps_code_Hole qs_code_Hole F_code_Hole), (20, mkS ps_legal_Succ qs_legal_Succ F_legal_Succ)] noH) fl (call (Cw Try.prog [(17, mkS ps_legal_Ins qs_legal_Ins F_legal_Ins), (26, mkS ps_code_Hole qs_code_Hole F_code_Hole), (20, mkS ps_legal_Succ qs_legal_Succ F_legal_Succ)] noH) fl 11) 0 15 12 [o0] (getR qs_legal_Check k)
noncomputable def P_legal_Check_12_0 (F_legal_Ins : FT ps_legal_Ins qs_legal_Ins) (F_code_Hole : FT ps_code_Hole qs_code_Hole) (F_legal_Succ : FT ps_legal_Succ qs_legal_Succ) (fl : Nat) (o0 : Nat) (n : Nat) (R : Type) (y0 : List (Int × Int × Int × Int × Int × Int)) (y1 : Int) (y2 : List (Int × Int × Int × Int × Int × Int)) (y3 : Int) (y4 : Int) (y5 : List Int) (y6 : Int) (y7 : Int) (k : PTs.D qs_legal_Check → Option R) : Option R :=
  loopH (PL_legal_Check_12_0 F_legal_Ins F_code_Hole F_legal_Succ fl o0 R k).body (PL_legal_Check_12_0 F_legal_Ins F_code_Hole F_legal_Succ fl o0 R k).head n (some (
      S.mk
        [V.ro true (Ty.prod (Ty.int IntKind.i64) (Ty.prod (Ty.int IntKind.i64) (Ty.prod (Ty.int IntKind.i64) (Ty.prod (Ty.int IntKind.i64) (Ty.prod (Ty.int IntKind.i64) (Ty.int IntKind.u64)))))) y0, V.any,
          V.any, V.any, V.int IntKind.i64 y1, V.any, V.any, V.any, V.any, V.any, V.any, V.any, V.any, V.any, V.any, V.any,
          V.ro true (Ty.prod (Ty.int IntKind.i64) (Ty.prod (Ty.int IntKind.i64) (Ty.prod (Ty.int IntKind.i64) (Ty.prod (Ty.int IntKind.i64) (Ty.prod (Ty.int IntKind.i64) (Ty.int IntKind.u64)))))) y2,
          V.int IntKind.i64 y3, V.int IntKind.i64 y4, V.any, V.any, V.any, V.any, V.any, V.any, V.any, V.any, V.any, V.any, V.any, V.any, V.any, V.any, V.any, V.any, V.any, V.any, V.any, V.any, V.any,
          V.any, V.any, V.any, V.any, V.any, V.any, V.any, V.any, V.any, V.any, V.any, V.any, V.any, V.ro false (Ty.int IntKind.i64) y5, V.int IntKind.i64 y6, V.int IntKind.i64 y7, V.any, V.any, V.any,
          V.any, V.any, V.any, V.any, V.any, V.any, V.any, V.any, V.any, V.any, V.any, V.any, V.any, V.any, V.any, V.any]
        [] [])) (PL_legal_Check_12_0 F_legal_Ins F_code_Hole F_legal_Succ fl o0 R k).kont
theorem P_legal_Check_6_0_s {F_legal_Ins : FT ps_legal_Ins qs_legal_Ins} {F_code_Hole : FT ps_code_Hole qs_code_Hole} {F_legal_Succ : FT ps_legal_Succ qs_legal_Succ} (fl : Nat)  (n : Nat) (R : Type) (y0 : List (Int × Int × Int × Int × Int × Int)) (y1 : List (Int × Int × Int × Int × Int × Int)) (y2 : Int) (y3 : Int) (k : PTs.D qs_legal_Check → Option R) : P_legal_Check_6_0 F_legal_Ins F_code_Hole F_legal_Succ fl  (n + 1) R y0 y1 y2 y3 k =
      br (W.lt y3 y2)
        (br (W.and2 (W.le 0 y3) (W.lt y3 (W.ofNat (W.len y1))))
          (F_code_Hole R (y0, y3) fun y =>
            br y (P_legal_Check_6_0 F_legal_Ins F_code_Hole F_legal_Succ fl n R y0 y1 y2 (W.wrap IntKind.i64 (W.add y3 1)) k)
              (F_legal_Ins R
                ((W.get y1 (W.toNat y3) (0, 0, 0, 0, 0, 0)).1, (W.get y1 (W.toNat y3) (0, 0, 0, 0, 0, 0)).2.1, (W.get y1 (W.toNat y3) (0, 0, 0, 0, 0, 0)).2.2.1,
                  (W.get y1 (W.toNat y3) (0, 0, 0, 0, 0, 0)).2.2.2.1, (W.get y1 (W.toNat y3) (0, 0, 0, 0, 0, 0)).2.2.2.2.1, (W.get y1 (W.toNat y3) (0, 0, 0, 0, 0, 0)).2.2.2.2.2)
                fun y =>
                br
                  (W.or2 (W.not (W.and2 (W.and2 (W.not (W.not y)) (W.eq (W.get y1 (W.toNat y3) (0, 0, 0, 0, 0, 0)).1 24)) (W.not (W.eq (W.wrap IntKind.i64 (W.add y3 1)) (W.ofNat (W.len y0))))))
                    (W.and2 (W.le 0 (W.wrap IntKind.i64 (W.add y3 1))) (W.lt (W.wrap IntKind.i64 (W.add y3 1)) (W.ofNat (W.len y0)))))
                  (br
                    (W.pick (W.not y) true
                      (W.pick (W.eq (W.get y1 (W.toNat y3) (0, 0, 0, 0, 0, 0)).1 24)
                        (W.pick (W.eq (W.wrap IntKind.i64 (W.add y3 1)) (W.ofNat (W.len y0))) true
                          (W.not
                            (W.and2 (W.eq (W.get y0 (W.toNat (W.wrap IntKind.i64 (W.add y3 1))) (0, 0, 0, 0, 0, 0)).1 0)
                              (W.and2 (W.eq (W.get y0 (W.toNat (W.wrap IntKind.i64 (W.add y3 1))) (0, 0, 0, 0, 0, 0)).2.1 0)
                                (W.and2 (W.eq (W.get y0 (W.toNat (W.wrap IntKind.i64 (W.add y3 1))) (0, 0, 0, 0, 0, 0)).2.2.1 0)
                                  (W.and2 (W.eq (W.get y0 (W.toNat (W.wrap IntKind.i64 (W.add y3 1))) (0, 0, 0, 0, 0, 0)).2.2.2.1 0)
                                    (W.and2 (W.eq (W.get y0 (W.toNat (W.wrap IntKind.i64 (W.add y3 1))) (0, 0, 0, 0, 0, 0)).2.2.2.2.1 0)
                                      (W.and2 (W.eq (W.get y0 (W.toNat (W.wrap IntKind.i64 (W.add y3 1))) (0, 0, 0, 0, 0, 0)).2.2.2.2.2 0) true))))))))
                        false))
                    (k (y3, 40)) (F_legal_Succ R (y0, y3) fun y => P_legal_Check_12_0 F_legal_Ins F_code_Hole F_legal_Succ fl n fl R y0 y3 y1 y2 y3 y (W.ofNat (W.len y)) 0 k))
                  none))
          none)
        (k (0, 0)) := by kernel_rfl
theorem P_legal_Check_12_0_s {F_legal_Ins : FT ps_legal_Ins qs_legal_Ins} {F_code_Hole : FT ps_code_Hole qs_code_Hole} {F_legal_Succ : FT ps_legal_Succ qs_legal_Succ} (fl : Nat) (o0 : Nat) (n : Nat) (R : Type) (y0 : List (Int × Int × Int × Int × Int × Int)) (y1 : Int) (y2 : List (Int × Int × Int × Int × Int × Int)) (y3 : Int) (y4 : Int) (y5 : List Int) (y6 : Int) (y7 : Int) (k : PTs.D qs_legal_Check → Option R) : P_legal_Check_12_0 F_legal_Ins F_code_Hole F_legal_Succ fl o0 (n + 1) R y0 y1 y2 y3 y4 y5 y6 y7 k =
      br (W.lt y7 y6)
        (br (W.and2 (W.le 0 y7) (W.lt y7 (W.ofNat (W.len y5))))
          (br (W.not (W.pick (W.lt (W.get y5 (W.toNat y7) 0) 0) true (W.ge (W.get y5 (W.toNat y7) 0) (W.ofNat (W.len y0)))))
            (F_code_Hole R (y0, W.get y5 (W.toNat y7) 0) fun y =>
              br (W.pick false true y) (k (y1, 40)) (P_legal_Check_12_0 F_legal_Ins F_code_Hole F_legal_Succ fl o0 n R y0 y1 y2 y3 y4 y5 y6 (W.wrap IntKind.i64 (W.add y7 1)) k))
            (k (y1, 40)))
          none)
        (P_legal_Check_6_0 F_legal_Ins F_code_Hole F_legal_Succ fl o0 R y0 y2 y3 (W.wrap IntKind.i64 (W.add y4 1)) k) := by kernel_rfl
noncomputable def N_legal_Check (F_legal_Ins : FT ps_legal_Ins qs_legal_Ins) (F_code_Hole : FT ps_code_Hole qs_code_Hole) (F_legal_Succ : FT ps_legal_Succ qs_legal_Succ) (fl : Nat) : FT ps_legal_Check qs_legal_Check := fun R x k => match x with
  | x0 => 
      br (W.gt (W.ofNat (W.len x0)) 4096) (k (0, 31)) (br (W.eq (W.ofNat (W.len x0)) 0) (k (0, 40)) (P_legal_Check_6_0 F_legal_Ins F_code_Hole F_legal_Succ fl fl R x0 x0 (W.ofNat (W.len x0)) 0 k))
theorem Q_legal_Check {F_legal_Ins : FT ps_legal_Ins qs_legal_Ins} {F_code_Hole : FT ps_code_Hole qs_code_Hole} {F_legal_Succ : FT ps_legal_Succ qs_legal_Succ} (fl : Nat) (R : Type) (x : PTs.D ps_legal_Check) (k : PTs.D qs_legal_Check → Option R) : call (Cw Try.prog [(17, mkS ps_legal_Ins qs_legal_Ins F_legal_Ins), (26, mkS ps_code_Hole qs_code_Hole F_code_Hole), (20, mkS ps_legal_Succ qs_legal_Succ F_legal_Succ)] noH) fl 12 15 (encL true ps_legal_Check x) [] (getR qs_legal_Check k) = N_legal_Check F_legal_Ins F_code_Hole F_legal_Succ fl R x k := by
  kernel_rfl
theorem S_legal_Check {F_legal_Ins : FT ps_legal_Ins qs_legal_Ins} {F_code_Hole : FT ps_code_Hole qs_code_Hole} {F_legal_Succ : FT ps_legal_Succ qs_legal_Succ} (h_legal_Ins : SpecOk Try.prog 17 (mkS ps_legal_Ins qs_legal_Ins F_legal_Ins)) (h_code_Hole : SpecOk Try.prog 26 (mkS ps_code_Hole qs_code_Hole F_code_Hole)) (h_legal_Succ : SpecOk Try.prog 20 (mkS ps_legal_Succ qs_legal_Succ F_legal_Succ)) : SpecOk Try.prog 15 (mkS ps_legal_Check qs_legal_Check (N_legal_Check F_legal_Ins F_code_Hole F_legal_Succ W.big)) :=
  specOk_mk (fl := W.big) (d := 12) (cfgOk_cons (cfgOk_cons (cfgOk_cons base h_legal_Succ) h_code_Hole) h_legal_Ins) (fun R x k => Q_legal_Check W.big R x k)
noncomputable def F_legal_Check : FT ps_legal_Check qs_legal_Check := N_legal_Check F_legal_Ins F_code_Hole F_legal_Succ W.big
theorem ok_legal_Check : SpecOk Try.prog 15 (mkS ps_legal_Check qs_legal_Check F_legal_Check) := S_legal_Check ok_legal_Ins ok_code_Hole ok_legal_Succ
abbrev ps_clevisref04Ints : List PT := [.one (.slice (.int .i64)), .one (.slice (.int .i64))]
abbrev qs_clevisref04Ints : List PT := [.one (.bool)]
noncomputable def PL_clevisref04Ints_4_0  (fl : Nat)  (R : Type) (k : PTs.D qs_clevisref04Ints → Option R) : LoopI R :=
  locate (Cw Try.prog [] noH) fl (call (Cw Try.prog [] noH) fl 11) 0 19 4 [] (getR qs_clevisref04Ints k)
noncomputable def P_clevisref04Ints_4_0  (fl : Nat)  (n : Nat) (R : Type) (y0 : List Int) (y1 : List Int) (y2 : Int) (k : PTs.D qs_clevisref04Ints → Option R) : Option R :=
  loopH (PL_clevisref04Ints_4_0  fl  R k).body (PL_clevisref04Ints_4_0  fl  R k).head n (some (
      S.mk
        [V.ro true (Ty.int IntKind.i64) y0, V.ro true (Ty.int IntKind.i64) y1, V.any, V.any, V.any, V.int IntKind.i64 y2, V.any, V.any, V.any, V.any, V.any, V.any, V.any, V.any, V.any, V.any, V.any, V.any,
          V.any, V.any, V.any, V.any, V.any, V.any, V.any, V.any]
        [] [])) (PL_clevisref04Ints_4_0  fl  R k).kont
theorem P_clevisref04Ints_4_0_s  (fl : Nat)  (n : Nat) (R : Type) (y0 : List Int) (y1 : List Int) (y2 : Int) (k : PTs.D qs_clevisref04Ints → Option R) : P_clevisref04Ints_4_0  fl  (n + 1) R y0 y1 y2 k =
      br (W.lt y2 (W.ofNat (W.len y0)))
        (br (W.and2 (W.le 0 y2) (W.lt y2 (W.ofNat (W.len y0))))
          (br (W.and2 (W.le 0 y2) (W.lt y2 (W.ofNat (W.len y1)))) (br (W.ne (W.get y0 (W.toNat y2) 0) (W.get y1 (W.toNat y2) 0)) (k false) (P_clevisref04Ints_4_0 fl n R y0 y1 (W.wrap IntKind.i64 (W.add y2 1)) k)) none)
          none)
        (k true) := by kernel_rfl
noncomputable def N_clevisref04Ints  (fl : Nat) : FT ps_clevisref04Ints qs_clevisref04Ints := fun R x k => match x with
  | (x0, x1) => 
      br (W.ne (W.ofNat (W.len x0)) (W.ofNat (W.len x1))) (k false) (P_clevisref04Ints_4_0 fl fl R x0 x1 0 k)
theorem Q_clevisref04Ints  (fl : Nat) (R : Type) (x : PTs.D ps_clevisref04Ints) (k : PTs.D qs_clevisref04Ints → Option R) : call (Cw Try.prog [] noH) fl 12 19 (encL true ps_clevisref04Ints x) [] (getR qs_clevisref04Ints k) = N_clevisref04Ints  fl R x k := by
  obtain ⟨x0, x1⟩ := x; kernel_rfl
theorem S_clevisref04Ints   : SpecOk Try.prog 19 (mkS ps_clevisref04Ints qs_clevisref04Ints (N_clevisref04Ints  W.big)) :=
  specOk_mk (fl := W.big) (d := 12) base (fun R x k => Q_clevisref04Ints W.big R x k)
noncomputable def F_clevisref04Ints : FT ps_clevisref04Ints qs_clevisref04Ints := N_clevisref04Ints  W.big
theorem ok_clevisref04Ints : SpecOk Try.prog 19 (mkS ps_clevisref04Ints qs_clevisref04Ints F_clevisref04Ints) := S_clevisref04Ints 
abbrev ps_clevislaw04heads : List PT := []
abbrev qs_clevislaw04heads : List PT := [.one (.bool)]
noncomputable def N_clevislaw04heads (F_legal_Alu : FT ps_legal_Alu qs_legal_Alu) (F_legal_Jump : FT ps_legal_Jump qs_legal_Jump) (F_legal_Size : FT ps_legal_Size qs_legal_Size) (F_legal_Succ : FT ps_legal_Succ qs_legal_Succ) (F_legal_Check : FT ps_legal_Check qs_legal_Check) (F_clevisref04Ints : FT ps_clevisref04Ints qs_clevisref04Ints)  : FT ps_clevislaw04heads qs_clevislaw04heads := fun R x k => match x with
  | () => 
      F_legal_Check R [(183, 0, 0, 0, 5, 0), (149, 0, 0, 0, 0, 0)] fun y =>
        F_legal_Check R [(149, 0, 0, 0, 0, 0), (183, 0, 0, 0, 5, 0)] fun y_1 =>
          F_legal_Check R [] fun y_2 =>
            F_legal_Alu R 183 fun y_3 =>
              F_legal_Jump R 94 fun y_4 =>
                br
                  (W.pick
                    (W.pick
                      (W.pick
                        (W.pick (W.pick (W.pick (W.pick (W.pick (W.pick (W.eq y.2 0) (W.eq y_1.1 1) false) (W.eq y_1.2 40) false) (W.eq y_2.2 40) false) (W.eq y_3.1 176) false) y_3.2.1 false) y_3.2.2 false)
                        (W.eq y_4.1 80) false)
                      (W.not y_4.2.1) false)
                    y_4.2.2 false)
                  (F_legal_Size R 121 fun y =>
                    br (W.pick true (W.eq y 8) false)
                      (F_legal_Succ R ([(21, 0, 0, 1, 0, 0), (149, 0, 0, 0, 0, 0), (149, 0, 0, 0, 0, 0)], 0) fun y => F_clevisref04Ints R (y, [1, 2]) fun y => k (W.pick true y false)) (k false))
                  (k false)
theorem S_clevislaw04heads {F_legal_Alu : FT ps_legal_Alu qs_legal_Alu} {F_legal_Jump : FT ps_legal_Jump qs_legal_Jump} {F_legal_Size : FT ps_legal_Size qs_legal_Size} {F_legal_Succ : FT ps_legal_Succ qs_legal_Succ} {F_legal_Check : FT ps_legal_Check qs_legal_Check} {F_clevisref04Ints : FT ps_clevisref04Ints qs_clevisref04Ints} (h_legal_Alu : SpecOk Try.prog 8 (mkS ps_legal_Alu qs_legal_Alu F_legal_Alu)) (h_legal_Jump : SpecOk Try.prog 10 (mkS ps_legal_Jump qs_legal_Jump F_legal_Jump)) (h_legal_Size : SpecOk Try.prog 12 (mkS ps_legal_Size qs_legal_Size F_legal_Size)) (h_legal_Succ : SpecOk Try.prog 20 (mkS ps_legal_Succ qs_legal_Succ F_legal_Succ)) (h_legal_Check : SpecOk Try.prog 15 (mkS ps_legal_Check qs_legal_Check F_legal_Check)) (h_clevisref04Ints : SpecOk Try.prog 19 (mkS ps_clevisref04Ints qs_clevisref04Ints F_clevisref04Ints)) : SpecOk Try.prog 14 (mkS ps_clevislaw04heads qs_clevislaw04heads (N_clevislaw04heads F_legal_Alu F_legal_Jump F_legal_Size F_legal_Succ F_legal_Check F_clevisref04Ints)) :=
  specOk_mk (fl := 10) (d := 12) (cfgOk_cons (cfgOk_cons (cfgOk_cons (cfgOk_cons (cfgOk_cons (cfgOk_cons base h_clevisref04Ints) h_legal_Check) h_legal_Succ) h_legal_Size) h_legal_Jump) h_legal_Alu) (by intro R x k; kernel_rfl)
noncomputable def F_clevislaw04heads : FT ps_clevislaw04heads qs_clevislaw04heads := N_clevislaw04heads F_legal_Alu F_legal_Jump F_legal_Size F_legal_Succ F_legal_Check F_clevisref04Ints 
theorem ok_clevislaw04heads : SpecOk Try.prog 14 (mkS ps_clevislaw04heads qs_clevislaw04heads F_clevislaw04heads) := S_clevislaw04heads ok_legal_Alu ok_legal_Jump ok_legal_Size ok_legal_Succ ok_legal_Check ok_clevisref04Ints
abbrev ps_clevislaw04LegalOps : List PT := [.one (.int .i64)]
noncomputable def L_clevislaw04LegalOps (F_legal_Alu : FT ps_legal_Alu qs_legal_Alu) (F_clevisref04Alu : FT ps_clevisref04Alu qs_clevisref04Alu) (F_legal_Jump : FT ps_legal_Jump qs_legal_Jump) (F_clevisref04Jump : FT ps_clevisref04Jump qs_clevisref04Jump) (F_legal_Size : FT ps_legal_Size qs_legal_Size) (F_clevisref04Size : FT ps_clevisref04Size qs_clevisref04Size) (F_clevislaw04heads : FT ps_clevislaw04heads qs_clevislaw04heads)  (x : PTs.D ps_clevislaw04LegalOps) : Option Unit := match x with
  | x0 => 
      F_legal_Alu Unit x0 fun y =>
        F_clevisref04Alu Unit x0 fun y_1 =>
          F_legal_Jump Unit x0 fun y_2 =>
            F_clevisref04Jump Unit x0 fun y_3 =>
              br
                (W.pick (W.pick (W.pick (W.pick (W.pick (W.eq y.1 y_1.1) (W.eqB y.2.1 y_1.2.1) false) (W.eqB y.2.2 y_1.2.2) false) (W.eq y_2.1 y_3.1) false) (W.eqB y_2.2.1 y_3.2.1) false)
                  (W.eqB y_2.2.2 y_3.2.2) false)
                (F_legal_Size Unit x0 fun y =>
                  F_clevisref04Size Unit x0 fun y_4 => br (W.pick true (W.eq y y_4) false) (F_clevislaw04heads Unit () fun y => br (W.pick true y false) (some ()) none) none)
                none
theorem E_clevislaw04LegalOps {F_legal_Alu : FT ps_legal_Alu qs_legal_Alu} {F_clevisref04Alu : FT ps_clevisref04Alu qs_clevisref04Alu} {F_legal_Jump : FT ps_legal_Jump qs_legal_Jump} {F_clevisref04Jump : FT ps_clevisref04Jump qs_clevisref04Jump} {F_legal_Size : FT ps_legal_Size qs_legal_Size} {F_clevisref04Size : FT ps_clevisref04Size qs_clevisref04Size} {F_clevislaw04heads : FT ps_clevislaw04heads qs_clevislaw04heads} (h_legal_Alu : SpecOk Try.prog 8 (mkS ps_legal_Alu qs_legal_Alu F_legal_Alu)) (h_clevisref04Alu : SpecOk Try.prog 9 (mkS ps_clevisref04Alu qs_clevisref04Alu F_clevisref04Alu)) (h_legal_Jump : SpecOk Try.prog 10 (mkS ps_legal_Jump qs_legal_Jump F_legal_Jump)) (h_clevisref04Jump : SpecOk Try.prog 11 (mkS ps_clevisref04Jump qs_clevisref04Jump F_clevisref04Jump)) (h_legal_Size : SpecOk Try.prog 12 (mkS ps_legal_Size qs_legal_Size F_legal_Size)) (h_clevisref04Size : SpecOk Try.prog 13 (mkS ps_clevisref04Size qs_clevisref04Size F_clevisref04Size)) (h_clevislaw04heads : SpecOk Try.prog 14 (mkS ps_clevislaw04heads qs_clevislaw04heads F_clevislaw04heads)) (x : PTs.D ps_clevislaw04LegalOps) (hL : L_clevislaw04LegalOps F_legal_Alu F_clevisref04Alu F_legal_Jump F_clevisref04Jump F_legal_Size F_clevisref04Size F_clevislaw04heads x = some ()) :
    ∃ (C : Cfg) (fl d : Nat), CfgOk C ∧ C.P = Try.prog ∧ call C fl d 3 (encL false ps_clevislaw04LegalOps x) [] getL = some () :=
  ⟨_, 10, 12, (cfgOk_cons (cfgOk_cons (cfgOk_cons (cfgOk_cons (cfgOk_cons (cfgOk_cons (cfgOk_cons base h_clevislaw04heads) h_clevisref04Size) h_legal_Size) h_clevisref04Jump) h_legal_Jump) h_clevisref04Alu) h_legal_Alu), rfl, (show _ = L_clevislaw04LegalOps F_legal_Alu F_clevisref04Alu F_legal_Jump F_clevisref04Jump F_legal_Size F_clevisref04Size F_clevislaw04heads x by kernel_rfl).trans hL⟩
abbrev ps_clevisref04within : List PT := [.one (.int .i64), .one (.int .i64), .one (.int .i64)]
abbrev qs_clevisref04within : List PT := [.one (.bool)]
noncomputable def N_clevisref04within   : FT ps_clevisref04within qs_clevisref04within := fun R x k => match x with
  | (x0, x1, x2) => 
      k (W.pick (W.ge x0 x1) (W.le x0 x2) false)
theorem S_clevisref04within   : SpecOk Try.prog 35 (mkS ps_clevisref04within qs_clevisref04within (N_clevisref04within )) :=
  specOk_mk (fl := 10) (d := 12) base (by rintro R ⟨x0, x1, x2⟩ k; kernel_rfl)
noncomputable def F_clevisref04within : FT ps_clevisref04within qs_clevisref04within := N_clevisref04within  
theorem ok_clevisref04within : SpecOk Try.prog 35 (mkS ps_clevisref04within qs_clevisref04within F_clevisref04within) := S_clevisref04within 
abbrev ps_clevisref04fields : List PT := [.agg ((.prod (.int .i64) (.prod (.int .i64) (.prod (.int .i64) (.prod (.int .i64) (.prod (.int .i64) (.int .u64))))))), .one (.int .i64), .one (.bool), .one (.bool), .one (.bool)]
abbrev qs_clevisref04fields : List PT := [.one (.bool)]
noncomputable def N_clevisref04fields (F_clevisref04within : FT ps_clevisref04within qs_clevisref04within)  : FT ps_clevisref04fields qs_clevisref04fields := fun R x k => match x with
  | ((x0Op, x0Dst, x0Src, x0Off, x0Imm, x0Wide), x1, x2, x3, x4) => 
      F_clevisref04within R (x0Dst, 0, x1) fun y =>
        br (W.not (W.not y))
          (F_clevisref04within R (x0Src, 0, 10) fun y =>
            br (W.not (W.pick false true (W.not y)))
              (F_clevisref04within R (x0Off, -32768, 32767) fun y =>
                br (W.not (W.pick false true (W.not y)))
                  (F_clevisref04within R (x0Imm, -2147483648, 2147483647) fun y =>
                    br (W.pick false true (W.not y)) (k false)
                      (k (W.pick (W.pick (W.pick (W.pick x2 true (W.eq x0Src 0)) (W.pick x3 true (W.eq x0Off 0)) false) (W.pick x4 true (W.eq x0Imm 0)) false) (W.eq x0Wide 0) false)))
                  (k false))
              (k false))
          (k false)
theorem S_clevisref04fields {F_clevisref04within : FT ps_clevisref04within qs_clevisref04within} (h_clevisref04within : SpecOk Try.prog 35 (mkS ps_clevisref04within qs_clevisref04within F_clevisref04within)) : SpecOk Try.prog 34 (mkS ps_clevisref04fields qs_clevisref04fields (N_clevisref04fields F_clevisref04within)) :=
  specOk_mk (fl := 10) (d := 12) (cfgOk_cons base h_clevisref04within) (by rintro R ⟨⟨x0Op, x0Dst, x0Src, x0Off, x0Imm, x0Wide⟩, x1, x2, x3, x4⟩ k; kernel_rfl)
noncomputable def F_clevisref04fields : FT ps_clevisref04fields qs_clevisref04fields := N_clevisref04fields F_clevisref04within 
theorem ok_clevisref04fields : SpecOk Try.prog 34 (mkS ps_clevisref04fields qs_clevisref04fields F_clevisref04fields) := S_clevisref04fields ok_clevisref04within
abbrev ps_clevisref04alu : List PT := [.agg ((.prod (.int .i64) (.prod (.int .i64) (.prod (.int .i64) (.prod (.int .i64) (.prod (.int .i64) (.int .u64))))))), .one (.int .i64), .one (.bool)]
abbrev qs_clevisref04alu : List PT := [.one (.bool)]
noncomputable def N_clevisref04alu (F_clevisref04within : FT ps_clevisref04within qs_clevisref04within) (F_clevisref04fields : FT ps_clevisref04fields qs_clevisref04fields)  : FT ps_clevisref04alu qs_clevisref04alu := fun R x k => match x with
  | ((x0Op, x0Dst, x0Src, x0Off, x0Imm, x0Wide), x1, x2) => 
      F_clevisref04fields R
        ((x0Op, x0Dst, x0Src, x0Off, x0Imm, x0Wide), 9, W.ne (W.wrap IntKind.i64 (W.and IntKind.i64 x0Op 8)) 0, false,
          W.pick (W.not (W.ne (W.wrap IntKind.i64 (W.and IntKind.i64 x0Op 8)) 0)) (W.ne x1 128) false)
        fun y =>
        br (W.not y) (k false)
          (br x2
            (br (W.not (W.pick (W.ne (W.wrap IntKind.i64 (W.and IntKind.i64 x0Op 8)) 0) true (W.pick (W.pick (W.ne x1 96) (W.ne x1 112) false) (W.ne x1 192) false)))
              (F_clevisref04within R (x0Imm, 0, 63) fun y => k (W.pick false true y)) (k true))
            (br (W.not (W.pick (W.ne (W.wrap IntKind.i64 (W.and IntKind.i64 x0Op 8)) 0) true (W.pick (W.pick (W.ne x1 96) (W.ne x1 112) false) (W.ne x1 192) false)))
              (F_clevisref04within R (x0Imm, 0, 31) fun y => k (W.pick false true y)) (k true)))
theorem S_clevisref04alu {F_clevisref04within : FT ps_clevisref04within qs_clevisref04within} {F_clevisref04fields : FT ps_clevisref04fields qs_clevisref04fields} (h_clevisref04within : SpecOk Try.prog 35 (mkS ps_clevisref04within qs_clevisref04within F_clevisref04within)) (h_clevisref04fields : SpecOk Try.prog 34 (mkS ps_clevisref04fields qs_clevisref04fields F_clevisref04fields)) : SpecOk Try.prog 33 (mkS ps_clevisref04alu qs_clevisref04alu (N_clevisref04alu F_clevisref04within F_clevisref04fields)) :=
  specOk_mk (fl := 10) (d := 12) (cfgOk_cons (cfgOk_cons base h_clevisref04fields) h_clevisref04within) (by rintro R ⟨⟨x0Op, x0Dst, x0Src, x0Off, x0Imm, x0Wide⟩, x1, x2⟩ k; kernel_rfl)
noncomputable def F_clevisref04alu : FT ps_clevisref04alu qs_clevisref04alu := N_clevisref04alu F_clevisref04within F_clevisref04fields 
theorem ok_clevisref04alu : SpecOk Try.prog 33 (mkS ps_clevisref04alu qs_clevisref04alu F_clevisref04alu) := S_clevisref04alu ok_clevisref04within ok_clevisref04fields
abbrev ps_clevisref01Size : List PT := [.one (.int .i64)]
abbrev qs_clevisref01Size : List PT := [.one (.bool)]
noncomputable def N_clevisref01Size   : FT ps_clevisref01Size qs_clevisref01Size := fun R x k => match x with
  | x0 => 
      k (W.pick (W.pick (W.pick (W.eq x0 1) true (W.eq x0 2)) true (W.eq x0 4)) true (W.eq x0 8))
theorem S_clevisref01Size   : SpecOk Try.prog 45 (mkS ps_clevisref01Size qs_clevisref01Size (N_clevisref01Size )) :=
  specOk_mk (fl := 10) (d := 12) base (by intro R x0 k; kernel_rfl)
noncomputable def F_clevisref01Size : FT ps_clevisref01Size qs_clevisref01Size := N_clevisref01Size  
theorem ok_clevisref01Size : SpecOk Try.prog 45 (mkS ps_clevisref01Size qs_clevisref01Size F_clevisref01Size) := S_clevisref01Size 
abbrev ps_clevisref01Sign : List PT := [.one (.int .u64), .one (.int .i64)]
abbrev qs_clevisref01Sign : List PT := [.one (.int .u64)]
noncomputable def N_clevisref01Sign (F_clevisref01Size : FT ps_clevisref01Size qs_clevisref01Size)  : FT ps_clevisref01Sign qs_clevisref01Sign := fun R x k => match x with
  | (x0, x1) => 
      F_clevisref01Size R x1 fun y =>
        br (W.pick (W.not y) true (W.eq x1 8)) (k x0)
          (br (W.eq (W.wrap IntKind.u64 (W.shl IntKind.u64 1 (W.wrap IntKind.u64 (W.wrap IntKind.i64 (W.mul 8 x1))))) 0) none
            (br
              (W.ge (W.rem x0 (W.wrap IntKind.u64 (W.shl IntKind.u64 1 (W.wrap IntKind.u64 (W.wrap IntKind.i64 (W.mul 8 x1))))))
                (W.wrap IntKind.u64 (W.quo (W.wrap IntKind.u64 (W.shl IntKind.u64 1 (W.wrap IntKind.u64 (W.wrap IntKind.i64 (W.mul 8 x1))))) 2)))
              (k
                (W.wrap IntKind.u64
                  (W.sub (W.rem x0 (W.wrap IntKind.u64 (W.shl IntKind.u64 1 (W.wrap IntKind.u64 (W.wrap IntKind.i64 (W.mul 8 x1))))))
                    (W.wrap IntKind.u64 (W.shl IntKind.u64 1 (W.wrap IntKind.u64 (W.wrap IntKind.i64 (W.mul 8 x1))))))))
              (k (W.rem x0 (W.wrap IntKind.u64 (W.shl IntKind.u64 1 (W.wrap IntKind.u64 (W.wrap IntKind.i64 (W.mul 8 x1)))))))))
theorem S_clevisref01Sign {F_clevisref01Size : FT ps_clevisref01Size qs_clevisref01Size} (h_clevisref01Size : SpecOk Try.prog 45 (mkS ps_clevisref01Size qs_clevisref01Size F_clevisref01Size)) : SpecOk Try.prog 44 (mkS ps_clevisref01Sign qs_clevisref01Sign (N_clevisref01Sign F_clevisref01Size)) :=
  specOk_mk (fl := 10) (d := 12) (cfgOk_cons base h_clevisref01Size) (by rintro R ⟨x0, x1⟩ k; kernel_rfl)
noncomputable def F_clevisref01Sign : FT ps_clevisref01Sign qs_clevisref01Sign := N_clevisref01Sign F_clevisref01Size 
theorem ok_clevisref01Sign : SpecOk Try.prog 44 (mkS ps_clevisref01Sign qs_clevisref01Sign F_clevisref01Sign) := S_clevisref01Sign ok_clevisref01Size
abbrev ps_clevisref01Imm : List PT := [.one (.int .i64), .one (.bool)]
abbrev qs_clevisref01Imm : List PT := [.one (.int .u64)]
noncomputable def N_clevisref01Imm (F_clevisref01Sign : FT ps_clevisref01Sign qs_clevisref01Sign)  : FT ps_clevisref01Imm qs_clevisref01Imm := fun R x k => match x with
  | (x0, x1) => 
      br x1 (F_clevisref01Sign R (W.wrap IntKind.u64 x0, 4) fun y => k y) (k (W.wrap IntKind.u64 (W.and IntKind.u64 (W.wrap IntKind.u64 x0) 4294967295)))
theorem S_clevisref01Imm {F_clevisref01Sign : FT ps_clevisref01Sign qs_clevisref01Sign} (h_clevisref01Sign : SpecOk Try.prog 44 (mkS ps_clevisref01Sign qs_clevisref01Sign F_clevisref01Sign)) : SpecOk Try.prog 41 (mkS ps_clevisref01Imm qs_clevisref01Imm (N_clevisref01Imm F_clevisref01Sign)) :=
  specOk_mk (fl := 10) (d := 12) (cfgOk_cons base h_clevisref01Sign) (by rintro R ⟨x0, x1⟩ k; kernel_rfl)
noncomputable def F_clevisref01Imm : FT ps_clevisref01Imm qs_clevisref01Imm := N_clevisref01Imm F_clevisref01Sign 
theorem ok_clevisref01Imm : SpecOk Try.prog 41 (mkS ps_clevisref01Imm qs_clevisref01Imm F_clevisref01Imm) := S_clevisref01Imm ok_clevisref01Sign
abbrev ps_clevisref04wide : List PT := [.agg ((.prod (.int .i64) (.prod (.int .i64) (.prod (.int .i64) (.prod (.int .i64) (.prod (.int .i64) (.int .u64)))))))]
abbrev qs_clevisref04wide : List PT := [.one (.bool)]
noncomputable def N_clevisref04wide (F_clevisref04within : FT ps_clevisref04within qs_clevisref04within) (F_clevisref01Imm : FT ps_clevisref01Imm qs_clevisref01Imm)  : FT ps_clevisref04wide qs_clevisref04wide := fun R x k => match x with
  | (x0Op, x0Dst, x0Src, x0Off, x0Imm, x0Wide) => 
      F_clevisref04within R (x0Dst, 0, 9) fun y =>
        br (W.not (W.pick (W.not y) true (W.ne x0Off 0)))
          (F_clevisref04within R (x0Imm, -2147483648, 2147483647) fun y =>
            br (W.pick false true (W.not y)) (k false)
              (br (W.eq x0Src 1) (F_clevisref04within R (x0Imm, 0, 7) fun y => k (W.pick y (W.eq x0Wide (W.wrap IntKind.u64 x0Imm)) false))
                (br (W.eq x0Src 0) (F_clevisref01Imm R (x0Imm, false) fun y => k (W.pick true (W.eq y (W.rem x0Wide 4294967296)) false)) (k false))))
          (k false)
theorem S_clevisref04wide {F_clevisref04within : FT ps_clevisref04within qs_clevisref04within} {F_clevisref01Imm : FT ps_clevisref01Imm qs_clevisref01Imm} (h_clevisref04within : SpecOk Try.prog 35 (mkS ps_clevisref04within qs_clevisref04within F_clevisref04within)) (h_clevisref01Imm : SpecOk Try.prog 41 (mkS ps_clevisref01Imm qs_clevisref01Imm F_clevisref01Imm)) : SpecOk Try.prog 36 (mkS ps_clevisref04wide qs_clevisref04wide (N_clevisref04wide F_clevisref04within F_clevisref01Imm)) :=
  specOk_mk (fl := 10) (d := 12) (cfgOk_cons (cfgOk_cons base h_clevisref01Imm) h_clevisref04within) (by rintro R ⟨x0Op, x0Dst, x0Src, x0Off, x0Imm, x0Wide⟩ k; kernel_rfl)
noncomputable def F_clevisref04wide : FT ps_clevisref04wide qs_clevisref04wide := N_clevisref04wide F_clevisref04within F_clevisref01Imm 
theorem ok_clevisref04wide : SpecOk Try.prog 36 (mkS ps_clevisref04wide qs_clevisref04wide F_clevisref04wide) := S_clevisref04wide ok_clevisref04within ok_clevisref01Imm
abbrev ps_clevisref04Ins : List PT := [.agg ((.prod (.int .i64) (.prod (.int .i64) (.prod (.int .i64) (.prod (.int .i64) (.prod (.int .i64) (.int .u64)))))))]
abbrev qs_clevisref04Ins : List PT := [.one (.bool)]
noncomputable def N_clevisref04Ins (F_clevisref04Alu : FT ps_clevisref04Alu qs_clevisref04Alu) (F_clevisref04Jump : FT ps_clevisref04Jump qs_clevisref04Jump) (F_clevisref04Size : FT ps_clevisref04Size qs_clevisref04Size) (F_clevisref04within : FT ps_clevisref04within qs_clevisref04within) (F_clevisref04fields : FT ps_clevisref04fields qs_clevisref04fields) (F_clevisref04alu : FT ps_clevisref04alu qs_clevisref04alu) (F_clevisref04wide : FT ps_clevisref04wide qs_clevisref04wide)  : FT ps_clevisref04Ins qs_clevisref04Ins := fun R x k => match x with
  | (x0Op, x0Dst, x0Src, x0Off, x0Imm, x0Wide) => 
      F_clevisref04Alu R x0Op fun y =>
        F_clevisref04Jump R x0Op fun y_1 =>
          br y.2.2 (F_clevisref04alu R ((x0Op, x0Dst, x0Src, x0Off, x0Imm, x0Wide), y.1, y.2.1) fun y => k y)
            (br y_1.2.2
              (F_clevisref04fields R
                ((x0Op, x0Dst, x0Src, x0Off, x0Imm, x0Wide), 10, W.ne (W.wrap IntKind.i64 (W.and IntKind.i64 x0Op 8)) 0, true, W.eq (W.wrap IntKind.i64 (W.and IntKind.i64 x0Op 8)) 0) fun y => k y)
              (br (W.eq x0Op 5) (F_clevisref04fields R ((x0Op, x0Dst, x0Src, x0Off, x0Imm, x0Wide), 0, false, true, false) fun y => k y)
                (br (W.eq x0Op 133)
                  (F_clevisref04fields R ((x0Op, x0Dst, x0Src, x0Off, x0Imm, x0Wide), 0, false, false, true) fun y =>
                    br y (F_clevisref04within R (x0Imm, 1, 5) fun y => k (W.pick true y false)) (k false))
                  (br (W.eq x0Op 149) (F_clevisref04fields R ((x0Op, x0Dst, x0Src, x0Off, x0Imm, x0Wide), 0, false, false, false) fun y => k y)
                    (br (W.eq x0Op 24) (F_clevisref04wide R (x0Op, x0Dst, x0Src, x0Off, x0Imm, x0Wide) fun y => k y)
                      (F_clevisref04Size R x0Op fun y =>
                        br (W.eq y 0) (k false)
                          (br (W.eq (W.wrap IntKind.i64 (W.and IntKind.i64 x0Op 7)) 1) (F_clevisref04fields R ((x0Op, x0Dst, x0Src, x0Off, x0Imm, x0Wide), 9, true, true, false) fun y => k y)
                            (br (W.eq (W.wrap IntKind.i64 (W.and IntKind.i64 x0Op 7)) 2) (F_clevisref04fields R ((x0Op, x0Dst, x0Src, x0Off, x0Imm, x0Wide), 10, false, true, true) fun y => k y)
                              (F_clevisref04fields R ((x0Op, x0Dst, x0Src, x0Off, x0Imm, x0Wide), 10, true, true, false) fun y => k y)))))))))
theorem S_clevisref04Ins {F_clevisref04Alu : FT ps_clevisref04Alu qs_clevisref04Alu} {F_clevisref04Jump : FT ps_clevisref04Jump qs_clevisref04Jump} {F_clevisref04Size : FT ps_clevisref04Size qs_clevisref04Size} {F_clevisref04within : FT ps_clevisref04within qs_clevisref04within} {F_clevisref04fields : FT ps_clevisref04fields qs_clevisref04fields} {F_clevisref04alu : FT ps_clevisref04alu qs_clevisref04alu} {F_clevisref04wide : FT ps_clevisref04wide qs_clevisref04wide} (h_clevisref04Alu : SpecOk Try.prog 9 (mkS ps_clevisref04Alu qs_clevisref04Alu F_clevisref04Alu)) (h_clevisref04Jump : SpecOk Try.prog 11 (mkS ps_clevisref04Jump qs_clevisref04Jump F_clevisref04Jump)) (h_clevisref04Size : SpecOk Try.prog 13 (mkS ps_clevisref04Size qs_clevisref04Size F_clevisref04Size)) (h_clevisref04within : SpecOk Try.prog 35 (mkS ps_clevisref04within qs_clevisref04within F_clevisref04within)) (h_clevisref04fields : SpecOk Try.prog 34 (mkS ps_clevisref04fields qs_clevisref04fields F_clevisref04fields)) (h_clevisref04alu : SpecOk Try.prog 33 (mkS ps_clevisref04alu qs_clevisref04alu F_clevisref04alu)) (h_clevisref04wide : SpecOk Try.prog 36 (mkS ps_clevisref04wide qs_clevisref04wide F_clevisref04wide)) : SpecOk Try.prog 18 (mkS ps_clevisref04Ins qs_clevisref04Ins (N_clevisref04Ins F_clevisref04Alu F_clevisref04Jump F_clevisref04Size F_clevisref04within F_clevisref04fields F_clevisref04alu F_clevisref04wide)) :=
  specOk_mk (fl := 10) (d := 12) (cfgOk_cons (cfgOk_cons (cfgOk_cons (cfgOk_cons (cfgOk_cons (cfgOk_cons (cfgOk_cons base h_clevisref04wide) h_clevisref04alu) h_clevisref04fields) h_clevisref04within) h_clevisref04Size) h_clevisref04Jump) h_clevisref04Alu) (by rintro R ⟨x0Op, x0Dst, x0Src, x0Off, x0Imm, x0Wide⟩ k; kernel_rfl)
noncomputable def F_clevisref04Ins : FT ps_clevisref04Ins qs_clevisref04Ins := N_clevisref04Ins F_clevisref04Alu F_clevisref04Jump F_clevisref04Size F_clevisref04within F_clevisref04fields F_clevisref04alu F_clevisref04wide 
theorem ok_clevisref04Ins : SpecOk Try.prog 18 (mkS ps_clevisref04Ins qs_clevisref04Ins F_clevisref04Ins) := S_clevisref04Ins ok_clevisref04Alu ok_clevisref04Jump ok_clevisref04Size ok_clevisref04within ok_clevisref04fields ok_clevisref04alu ok_clevisref04wide
abbrev ps_clevisref03Hole : List PT := [.one (.slice ((.prod (.int .i64) (.prod (.int .i64) (.prod (.int .i64) (.prod (.int .i64) (.prod (.int .i64) (.int .u64)))))))), .one (.int .i64)]
abbrev qs_clevisref03Hole : List PT := [.one (.bool)]
noncomputable def PL_clevisref03Hole_5_0  (fl : Nat)  (R : Type) (k : PTs.D qs_clevisref03Hole → Option R) : LoopI R :=
  locate (Cw Try.prog [] noH) fl (call (Cw Try.prog [] noH) fl 11) 0 22 5 [] (getR qs_clevisref03Hole k)
noncomputable def P_clevisref03Hole_5_0  (fl : Nat)  (n : Nat) (R : Type) (y0 : List (Int × Int × Int × Int × Int × Int)) (y1 : Int) (y2 : Int) (k : PTs.D qs_clevisref03Hole → Option R) : Option R :=
  loopH (PL_clevisref03Hole_5_0  fl  R k).body (PL_clevisref03Hole_5_0  fl  R k).head n (some (
      S.mk
        [V.ro true (Ty.prod (Ty.int IntKind.i64) (Ty.prod (Ty.int IntKind.i64) (Ty.prod (Ty.int IntKind.i64) (Ty.prod (Ty.int IntKind.i64) (Ty.prod (Ty.int IntKind.i64) (Ty.int IntKind.u64)))))) y0, V.any,
          V.any, V.any, V.any, V.int IntKind.i64 y1, V.int IntKind.i64 y2, V.any, V.any, V.any, V.any, V.any, V.any, V.any, V.any, V.any, V.any, V.any, V.any, V.any, V.any, V.any, V.any, V.any, V.any,
          V.any, V.any, V.any, V.any, V.any, V.any, V.any, V.any, V.any, V.any, V.any, V.any, V.any, V.any, V.any, V.any, V.any, V.any]
        [] [])) (PL_clevisref03Hole_5_0  fl  R k).kont
theorem P_clevisref03Hole_5_0_s  (fl : Nat)  (n : Nat) (R : Type) (y0 : List (Int × Int × Int × Int × Int × Int)) (y1 : Int) (y2 : Int) (k : PTs.D qs_clevisref03Hole → Option R) : P_clevisref03Hole_5_0  fl  (n + 1) R y0 y1 y2 k =
      br (W.or2 (W.not (W.ge y2 0)) (W.and2 (W.le 0 y2) (W.lt y2 (W.ofNat (W.len y0)))))
        (br (W.pick (W.ge y2 0) (W.eq (W.get y0 (W.toNat y2) (0, 0, 0, 0, 0, 0)).1 24) false) (P_clevisref03Hole_5_0 fl n R y0 (W.wrap IntKind.i64 (W.add y1 1)) (W.wrap IntKind.i64 (W.sub y2 1)) k)
          (k (W.eq (W.rem y1 2) 1)))
        none := by kernel_rfl
noncomputable def N_clevisref03Hole  (fl : Nat) : FT ps_clevisref03Hole qs_clevisref03Hole := fun R x k => match x with
  | (x0, x1) => 
      br (W.or2 (W.not (W.not (W.pick (W.lt x1 1) true (W.ge x1 (W.ofNat (W.len x0)))))) (W.and2 (W.le 0 (W.wrap IntKind.i64 (W.sub x1 1))) (W.lt (W.wrap IntKind.i64 (W.sub x1 1)) (W.ofNat (W.len x0)))))
        (br (W.pick (W.pick (W.lt x1 1) true (W.ge x1 (W.ofNat (W.len x0)))) true (W.ne (W.get x0 (W.toNat (W.wrap IntKind.i64 (W.sub x1 1))) (0, 0, 0, 0, 0, 0)).1 24)) (k false)
          (P_clevisref03Hole_5_0 fl fl R x0 0 (W.wrap IntKind.i64 (W.sub x1 1)) k))
        none
theorem Q_clevisref03Hole  (fl : Nat) (R : Type) (x : PTs.D ps_clevisref03Hole) (k : PTs.D qs_clevisref03Hole → Option R) : call (Cw Try.prog [] noH) fl 12 22 (encL true ps_clevisref03Hole x) [] (getR qs_clevisref03Hole k) = N_clevisref03Hole  fl R x k := by
  obtain ⟨x0, x1⟩ := x; kernel_rfl
theorem S_clevisref03Hole   : SpecOk Try.prog 22 (mkS ps_clevisref03Hole qs_clevisref03Hole (N_clevisref03Hole  W.big)) :=
  specOk_mk (fl := W.big) (d := 12) base (fun R x k => Q_clevisref03Hole W.big R x k)
noncomputable def F_clevisref03Hole : FT ps_clevisref03Hole qs_clevisref03Hole := N_clevisref03Hole  W.big
theorem ok_clevisref03Hole : SpecOk Try.prog 22 (mkS ps_clevisref03Hole qs_clevisref03Hole F_clevisref03Hole) := S_clevisref03Hole 
abbrev ps_clevisref04Succ : List PT := [.one (.slice ((.prod (.int .i64) (.prod (.int .i64) (.prod (.int .i64) (.prod (.int .i64) (.prod (.int .i64) (.int .u64)))))))), .one (.int .i64)]
abbrev qs_clevisref04Succ : List PT := [.one (.slice (.int .i64))]
noncomputable def N_clevisref04Succ (F_clevisref04Jump : FT ps_clevisref04Jump qs_clevisref04Jump) (F_clevisref03Hole : FT ps_clevisref03Hole qs_clevisref03Hole)  : FT ps_clevisref04Succ qs_clevisref04Succ := fun R x k => match x with
  | (x0, x1) => 
      br (W.not (W.pick (W.lt x1 0) true (W.ge x1 (W.ofNat (W.len x0)))))
        (F_clevisref03Hole R (x0, x1) fun y =>
          br (W.pick false true y) (k [])
            (br (W.and2 (W.le 0 x1) (W.lt x1 (W.ofNat (W.len x0))))
              (F_clevisref04Jump R (W.get x0 (W.toNat x1) (0, 0, 0, 0, 0, 0)).1 fun y =>
                br (W.eq (W.get x0 (W.toNat x1) (0, 0, 0, 0, 0, 0)).1 149) (k [])
                  (br (W.eq (W.get x0 (W.toNat x1) (0, 0, 0, 0, 0, 0)).1 5) (k [W.wrap IntKind.i64 (W.add (W.wrap IntKind.i64 (W.add x1 1)) (W.get x0 (W.toNat x1) (0, 0, 0, 0, 0, 0)).2.2.2.1)])
                    (br y.2.2 (k [W.wrap IntKind.i64 (W.add x1 1), W.wrap IntKind.i64 (W.add (W.wrap IntKind.i64 (W.add x1 1)) (W.get x0 (W.toNat x1) (0, 0, 0, 0, 0, 0)).2.2.2.1)])
                      (br (W.eq (W.get x0 (W.toNat x1) (0, 0, 0, 0, 0, 0)).1 24) (k [W.wrap IntKind.i64 (W.add x1 2)]) (k [W.wrap IntKind.i64 (W.add x1 1)])))))
              none))
        (k [])
theorem S_clevisref04Succ {F_clevisref04Jump : FT ps_clevisref04Jump qs_clevisref04Jump} {F_clevisref03Hole : FT ps_clevisref03Hole qs_clevisref03Hole} (h_clevisref04Jump : SpecOk Try.prog 11 (mkS ps_clevisref04Jump qs_clevisref04Jump F_clevisref04Jump)) (h_clevisref03Hole : SpecOk Try.prog 22 (mkS ps_clevisref03Hole qs_clevisref03Hole F_clevisref03Hole)) : SpecOk Try.prog 21 (mkS ps_clevisref04Succ qs_clevisref04Succ (N_clevisref04Succ F_clevisref04Jump F_clevisref03Hole)) :=
  specOk_mk (fl := 10) (d := 12) (cfgOk_cons (cfgOk_cons base h_clevisref03Hole) h_clevisref04Jump) (by rintro R ⟨x0, x1⟩ k; kernel_rfl)
noncomputable def F_clevisref04Succ : FT ps_clevisref04Succ qs_clevisref04Succ := N_clevisref04Succ F_clevisref04Jump F_clevisref03Hole 
theorem ok_clevisref04Succ : SpecOk Try.prog 21 (mkS ps_clevisref04Succ qs_clevisref04Succ F_clevisref04Succ) := S_clevisref04Succ ok_clevisref04Jump ok_clevisref03Hole
abbrev ps_clevisref04Check : List PT := [.one (.slice ((.prod (.int .i64) (.prod (.int .i64) (.prod (.int .i64) (.prod (.int .i64) (.prod (.int .i64) (.int .u64))))))))]
abbrev qs_clevisref04Check : List PT := [.one (.int .i64), .one (.int .i64)]
noncomputable def PL_clevisref04Check_6_0 (F_clevisref04Ins : FT ps_clevisref04Ins qs_clevisref04Ins) (F_clevisref03Hole : FT ps_clevisref03Hole qs_clevisref03Hole) (F_clevisref04Succ : FT ps_clevisref04Succ qs_clevisref04Succ) (fl : Nat)  (R : Type) (k : PTs.D qs_clevisref04Check → Option R) : LoopI R :=
  locate (Cw Try.prog [(18, mkS ps_clevisref04Ins qs_clevisref04Ins F_clevisref04Ins), (22, mkS ps_clevisref03Hole qs_clevisref03Hole F_clevisref03Hole), (21, mkS ps_clevisref04Succ qs_clevisref04Succ F_clevisref04Succ)] noH) fl (call (Cw Try.prog [(18, mkS ps_clevisref04Ins qs_clevisref04Ins F_clevisref04Ins), (22, mkS ps_clevisref03Hole qs_clevisref03Hole F_clevisref03Hole), (21, mkS ps_clevisref04Succ qs_clevisref04Succ F_clevisref04Succ)] noH) fl 11) 0 16 6 [] (getR qs_clevisref04Check k)
noncomputable def P_clevisref04Check_6_0 (F_clevisref04Ins : FT ps_clevisref04Ins qs_clevisref04Ins) (F_clevisref03Hole : FT ps_clevisref03Hole qs_clevisref03Hole) (F_clevisref04Succ : FT ps_clevisref04Succ qs_clevisref04Succ) (fl : Nat)  (n : Nat) (R : Type) (y0 : List (Int × Int × Int × Int × Int × Int)) (y1 : Int) (k : PTs.D qs_clevisref04Check → Option R) : Option R :=
  loopH (PL_clevisref04Check_6_0 F_clevisref04Ins F_clevisref03Hole F_clevisref04Succ fl  R k).body (PL_clevisref04Check_6_0 F_clevisref04Ins F_clevisref03Hole F_clevisref04Succ fl  R k).head n (some (
      S.mk
        [V.ro true (Ty.prod (Ty.int IntKind.i64) (Ty.prod (Ty.int IntKind.i64) (Ty.prod (Ty.int IntKind.i64) (Ty.prod (Ty.int IntKind.i64) (Ty.prod (Ty.int IntKind.i64) (Ty.int IntKind.u64)))))) y0, V.any,
          V.any, V.any, V.int IntKind.i64 y1, V.any, V.any, V.any, V.any, V.any, V.any, V.any, V.any, V.any, V.any, V.any, V.any, V.any, V.any, V.any, V.any, V.any, V.any, V.any, V.any, V.any, V.any, V.any,
          V.any, V.any, V.any, V.any, V.any, V.any, V.any, V.any, V.any, V.any, V.any, V.any, V.any, V.any, V.any, V.any, V.any, V.any, V.any, V.any, V.any, V.any, V.any, V.any, V.any, V.any, V.any, V.any,
          V.any, V.any, V.any, V.any, V.any, V.any, V.any, V.any, V.any, V.any, V.any, V.any, V.any, V.any, V.any, V.any, V.any, V.any, V.any, V.any, V.any, V.any, V.any, V.any, V.any, V.any, V.any, V.any,
          V.any]
        [] [])) (PL_clevisref04Check_6_0 F_clevisref04Ins F_clevisref03Hole F_clevisref04Succ fl  R k).kont
noncomputable def PL_clevisref04Check_13_0 (F_clevisref04Ins : FT ps_clevisref04Ins qs_clevisref04Ins) (F_clevisref03Hole : FT ps_clevisref03Hole qs_clevisref03Hole) (F_clevisref04Succ : FT ps_clevisref04Succ qs_clevisref04Succ) (fl : Nat) (o0 : Nat) (R : Type) (k : PTs.D qs_clevisref04Check → Option R) : LoopI R :=
  locate (Cw Try.prog [(18, mkS ps_clevisref04Ins qs_clevisref04Ins F_clevisref04Ins), (22, mkS ps_clevisref03Hole qs_clevisref03Hole F_clevisref03Hole), (21, mkS ps_clevisref04Succ qs_clevisref04Succ F_clevisref04Succ)] noH) fl (call (Cw Try.prog [(18, mkS ps_clevisref04Ins qs_clevisref04Ins F_clevisref04Ins), (22, mkS ps_clevisref03Hole qs_clevisref03Hole F_clevisref03Hole), (21, mkS ps_clevisref04Succ qs_clevisref04Succ F_clevisref04Succ)] noH) fl 11) 0 16 13 [o0] (getR qs_clevisref04Check k)
noncomputable def P_clevisref04Check_13_0 (F_clevisref04Ins : FT ps_clevisref04Ins qs_clevisref04Ins) (F_clevisref03Hole : FT ps_clevisref03Hole qs_clevisref03Hole) (F_clevisref04Succ : FT ps_clevisref04Succ qs_clevisref04Succ) (fl : Nat) (o0 : Nat) (n : Nat) (R : Type) (y0 : List (Int × Int × Int × Int × Int × Int)) (y1 : Int) (y2 : List Int) (y3 : Int) (k : PTs.D qs_clevisref04Check → Option R) : Option R :=
  loopH (PL_clevisref04Check_13_0 F_clevisref04Ins F_clevisref03Hole F_clevisref04Succ fl o0 R k).body (PL_clevisref04Check_13_0 F_clevisref04Ins F_clevisref03Hole F_clevisref04Succ fl o0 R k).head n (some (
      S.mk
        [V.ro true (Ty.prod (Ty.int IntKind.i64) (Ty.prod (Ty.int IntKind.i64) (Ty.prod (Ty.int IntKind.i64) (Ty.prod (Ty.int IntKind.i64) (Ty.prod (Ty.int IntKind.i64) (Ty.int IntKind.u64)))))) y0, V.any,
          V.any, V.any, V.int IntKind.i64 y1, V.ro false (Ty.int IntKind.i64) y2, V.int IntKind.i64 y3, V.any, V.any, V.any, V.any, V.any, V.any, V.any, V.any, V.any, V.any, V.any, V.any, V.any, V.any,
          V.any, V.any, V.any, V.any, V.any, V.any, V.any, V.any, V.any, V.any, V.any, V.any, V.any, V.any, V.any, V.any, V.any, V.any, V.any, V.any, V.any, V.any, V.any, V.any, V.any, V.any, V.any, V.any,
          V.any, V.any, V.any, V.any, V.any, V.any, V.any, V.any, V.any, V.any, V.any, V.any, V.any, V.any, V.any, V.any, V.any, V.any, V.any, V.any, V.any, V.any, V.any, V.any, V.any, V.any, V.any, V.any,
          V.any, V.any, V.any, V.any, V.any, V.any, V.any, V.any]
        [] [])) (PL_clevisref04Check_13_0 F_clevisref04Ins F_clevisref03Hole F_clevisref04Succ fl o0 R k).kont
theorem P_clevisref04Check_6_0_s {F_clevisref04Ins : FT ps_clevisref04Ins qs_clevisref04Ins} {F_clevisref03Hole : FT ps_clevisref03Hole qs_clevisref03Hole} {F_clevisref04Succ : FT ps_clevisref04Succ qs_clevisref04Succ} (fl : Nat)  (n : Nat) (R : Type) (y0 : List (Int × Int × Int × Int × Int × Int)) (y1 : Int) (k : PTs.D qs_clevisref04Check → Option R) : P_clevisref04Check_6_0 F_clevisref04Ins F_clevisref03Hole F_clevisref04Succ fl  (n + 1) R y0 y1 k =
      br (W.lt y1 (W.ofNat (W.len y0)))
        (F_clevisref03Hole R (y0, y1) fun y =>
          br y (P_clevisref04Check_6_0 F_clevisref04Ins F_clevisref03Hole F_clevisref04Succ fl n R y0 (W.wrap IntKind.i64 (W.add y1 1)) k)
            (br (W.and2 (W.le 0 y1) (W.lt y1 (W.ofNat (W.len y0))))
              (F_clevisref04Ins R
                ((W.get y0 (W.toNat y1) (0, 0, 0, 0, 0, 0)).1, (W.get y0 (W.toNat y1) (0, 0, 0, 0, 0, 0)).2.1, (W.get y0 (W.toNat y1) (0, 0, 0, 0, 0, 0)).2.2.1,
                  (W.get y0 (W.toNat y1) (0, 0, 0, 0, 0, 0)).2.2.2.1, (W.get y0 (W.toNat y1) (0, 0, 0, 0, 0, 0)).2.2.2.2.1, (W.get y0 (W.toNat y1) (0, 0, 0, 0, 0, 0)).2.2.2.2.2)
                fun y =>
                br (W.or2 (W.not (W.not (W.not y))) (W.and2 (W.le 0 y1) (W.lt y1 (W.ofNat (W.len y0)))))
                  (br
                    (W.or2 (W.not (W.and2 (W.and2 (W.not (W.not y)) (W.eq (W.get y0 (W.toNat y1) (0, 0, 0, 0, 0, 0)).1 24)) (W.not (W.ge (W.wrap IntKind.i64 (W.add y1 1)) (W.ofNat (W.len y0))))))
                      (W.and2 (W.le 0 (W.wrap IntKind.i64 (W.add y1 1))) (W.lt (W.wrap IntKind.i64 (W.add y1 1)) (W.ofNat (W.len y0)))))
                    (br
                      (W.pick (W.not y) true
                        (W.pick (W.eq (W.get y0 (W.toNat y1) (0, 0, 0, 0, 0, 0)).1 24)
                          (W.pick (W.ge (W.wrap IntKind.i64 (W.add y1 1)) (W.ofNat (W.len y0))) true
                            (W.not
                              (W.and2 (W.eq (W.get y0 (W.toNat (W.wrap IntKind.i64 (W.add y1 1))) (0, 0, 0, 0, 0, 0)).1 0)
                                (W.and2 (W.eq (W.get y0 (W.toNat (W.wrap IntKind.i64 (W.add y1 1))) (0, 0, 0, 0, 0, 0)).2.1 0)
                                  (W.and2 (W.eq (W.get y0 (W.toNat (W.wrap IntKind.i64 (W.add y1 1))) (0, 0, 0, 0, 0, 0)).2.2.1 0)
                                    (W.and2 (W.eq (W.get y0 (W.toNat (W.wrap IntKind.i64 (W.add y1 1))) (0, 0, 0, 0, 0, 0)).2.2.2.1 0)
                                      (W.and2 (W.eq (W.get y0 (W.toNat (W.wrap IntKind.i64 (W.add y1 1))) (0, 0, 0, 0, 0, 0)).2.2.2.2.1 0)
                                        (W.and2 (W.eq (W.get y0 (W.toNat (W.wrap IntKind.i64 (W.add y1 1))) (0, 0, 0, 0, 0, 0)).2.2.2.2.2 0) true))))))))
                          false))
                      (k (y1, 40)) (F_clevisref04Succ R (y0, y1) fun y => P_clevisref04Check_13_0 F_clevisref04Ins F_clevisref03Hole F_clevisref04Succ fl n fl R y0 y1 y 0 k))
                    none)
                  none)
              none))
        (k (0, 0)) := by kernel_rfl
theorem P_clevisref04Check_13_0_s {F_clevisref04Ins : FT ps_clevisref04Ins qs_clevisref04Ins} {F_clevisref03Hole : FT ps_clevisref03Hole qs_clevisref03Hole} {F_clevisref04Succ : FT ps_clevisref04Succ qs_clevisref04Succ} (fl : Nat) (o0 : Nat) (n : Nat) (R : Type) (y0 : List (Int × Int × Int × Int × Int × Int)) (y1 : Int) (y2 : List Int) (y3 : Int) (k : PTs.D qs_clevisref04Check → Option R) : P_clevisref04Check_13_0 F_clevisref04Ins F_clevisref03Hole F_clevisref04Succ fl o0 (n + 1) R y0 y1 y2 y3 k =
      br (W.lt y3 (W.ofNat (W.len y2)))
        (br (W.and2 (W.le 0 y3) (W.lt y3 (W.ofNat (W.len y2))))
          (br (W.or2 (W.not (W.not (W.lt (W.get y2 (W.toNat y3) 0) 0))) (W.and2 (W.le 0 y3) (W.lt y3 (W.ofNat (W.len y2)))))
            (br (W.or2 (W.not (W.not (W.pick (W.lt (W.get y2 (W.toNat y3) 0) 0) true (W.ge (W.get y2 (W.toNat y3) 0) (W.ofNat (W.len y0)))))) (W.and2 (W.le 0 y3) (W.lt y3 (W.ofNat (W.len y2)))))
              (br (W.not (W.pick (W.lt (W.get y2 (W.toNat y3) 0) 0) true (W.ge (W.get y2 (W.toNat y3) 0) (W.ofNat (W.len y0)))))
                (F_clevisref03Hole R (y0, W.get y2 (W.toNat y3) 0) fun y =>
                  br (W.pick false true y) (k (y1, 40)) (P_clevisref04Check_13_0 F_clevisref04Ins F_clevisref03Hole F_clevisref04Succ fl o0 n R y0 y1 y2 (W.wrap IntKind.i64 (W.add y3 1)) k))
                (k (y1, 40)))
              none)
            none)
          none)
        (P_clevisref04Check_6_0 F_clevisref04Ins F_clevisref03Hole F_clevisref04Succ fl o0 R y0 (W.wrap IntKind.i64 (W.add y1 1)) k) := by kernel_rfl
noncomputable def N_clevisref04Check (F_clevisref04Ins : FT ps_clevisref04Ins qs_clevisref04Ins) (F_clevisref03Hole : FT ps_clevisref03Hole qs_clevisref03Hole) (F_clevisref04Succ : FT ps_clevisref04Succ qs_clevisref04Succ) (fl : Nat) : FT ps_clevisref04Check qs_clevisref04Check := fun R x k => match x with
  | x0 => 
      br (W.gt (W.ofNat (W.len x0)) 4096) (k (0, 31)) (br (W.eq (W.ofNat (W.len x0)) 0) (k (0, 40)) (P_clevisref04Check_6_0 F_clevisref04Ins F_clevisref03Hole F_clevisref04Succ fl fl R x0 0 k))
theorem Q_clevisref04Check {F_clevisref04Ins : FT ps_clevisref04Ins qs_clevisref04Ins} {F_clevisref03Hole : FT ps_clevisref03Hole qs_clevisref03Hole} {F_clevisref04Succ : FT ps_clevisref04Succ qs_clevisref04Succ} (fl : Nat) (R : Type) (x : PTs.D ps_clevisref04Check) (k : PTs.D qs_clevisref04Check → Option R) : call (Cw Try.prog [(18, mkS ps_clevisref04Ins qs_clevisref04Ins F_clevisref04Ins), (22, mkS ps_clevisref03Hole qs_clevisref03Hole F_clevisref03Hole), (21, mkS ps_clevisref04Succ qs_clevisref04Succ F_clevisref04Succ)] noH) fl 12 16 (encL true ps_clevisref04Check x) [] (getR qs_clevisref04Check k) = N_clevisref04Check F_clevisref04Ins F_clevisref03Hole F_clevisref04Succ fl R x k := by
  kernel_rfl
theorem S_clevisref04Check {F_clevisref04Ins : FT ps_clevisref04Ins qs_clevisref04Ins} {F_clevisref03Hole : FT ps_clevisref03Hole qs_clevisref03Hole} {F_clevisref04Succ : FT ps_clevisref04Succ qs_clevisref04Succ} (h_clevisref04Ins : SpecOk Try.prog 18 (mkS ps_clevisref04Ins qs_clevisref04Ins F_clevisref04Ins)) (h_clevisref03Hole : SpecOk Try.prog 22 (mkS ps_clevisref03Hole qs_clevisref03Hole F_clevisref03Hole)) (h_clevisref04Succ : SpecOk Try.prog 21 (mkS ps_clevisref04Succ qs_clevisref04Succ F_clevisref04Succ)) : SpecOk Try.prog 16 (mkS ps_clevisref04Check qs_clevisref04Check (N_clevisref04Check F_clevisref04Ins F_clevisref03Hole F_clevisref04Succ W.big)) :=
  specOk_mk (fl := W.big) (d := 12) (cfgOk_cons (cfgOk_cons (cfgOk_cons base h_clevisref04Succ) h_clevisref03Hole) h_clevisref04Ins) (fun R x k => Q_clevisref04Check W.big R x k)
noncomputable def F_clevisref04Check : FT ps_clevisref04Check qs_clevisref04Check := N_clevisref04Check F_clevisref04Ins F_clevisref03Hole F_clevisref04Succ W.big
theorem ok_clevisref04Check : SpecOk Try.prog 16 (mkS ps_clevisref04Check qs_clevisref04Check F_clevisref04Check) := S_clevisref04Check ok_clevisref04Ins ok_clevisref03Hole ok_clevisref04Succ
abbrev ps_clevislaw04LegalChecks : List PT := [.one (.slice ((.prod (.int .i64) (.prod (.int .i64) (.prod (.int .i64) (.prod (.int .i64) (.prod (.int .i64) (.int .u64))))))))]
noncomputable def L_clevislaw04LegalChecks (F_legal_Check : FT ps_legal_Check qs_legal_Check) (F_clevislaw04heads : FT ps_clevislaw04heads qs_clevislaw04heads) (F_clevisref04Check : FT ps_clevisref04Check qs_clevisref04Check)  (x : PTs.D ps_clevislaw04LegalChecks) : Option Unit := match x with
  | x0 => 
      F_legal_Check Unit x0 fun y =>
        F_clevisref04Check Unit x0 fun y_1 => br (W.pick (W.eq y.1 y_1.1) (W.eq y.2 y_1.2) false) (F_clevislaw04heads Unit () fun y => br (W.pick true y false) (some ()) none) none
theorem E_clevislaw04LegalChecks {F_legal_Check : FT ps_legal_Check qs_legal_Check} {F_clevislaw04heads : FT ps_clevislaw04heads qs_clevislaw04heads} {F_clevisref04Check : FT ps_clevisref04Check qs_clevisref04Check} (h_legal_Check : SpecOk Try.prog 15 (mkS ps_legal_Check qs_legal_Check F_legal_Check)) (h_clevislaw04heads : SpecOk Try.prog 14 (mkS ps_clevislaw04heads qs_clevislaw04heads F_clevislaw04heads)) (h_clevisref04Check : SpecOk Try.prog 16 (mkS ps_clevisref04Check qs_clevisref04Check F_clevisref04Check)) (x : PTs.D ps_clevislaw04LegalChecks) (hL : L_clevislaw04LegalChecks F_legal_Check F_clevislaw04heads F_clevisref04Check x = some ()) :
    ∃ (C : Cfg) (fl d : Nat), CfgOk C ∧ C.P = Try.prog ∧ call C fl d 4 (encL false ps_clevislaw04LegalChecks x) [] getL = some () :=
  ⟨_, 10, 12, (cfgOk_cons (cfgOk_cons (cfgOk_cons base h_clevisref04Check) h_clevislaw04heads) h_legal_Check), rfl, (show _ = L_clevislaw04LegalChecks F_legal_Check F_clevislaw04heads F_clevisref04Check x by kernel_rfl).trans hL⟩
abbrev ps_clevislaw04LegalIns : List PT := [.one (.slice ((.prod (.int .i64) (.prod (.int .i64) (.prod (.int .i64) (.prod (.int .i64) (.prod (.int .i64) (.int .u64)))))))), .one (.int .i64), .agg ((.prod (.int .i64) (.prod (.int .i64) (.prod (.int .i64) (.prod (.int .i64) (.prod (.int .i64) (.int .u64)))))))]
noncomputable def L_clevislaw04LegalIns (F_legal_Ins : FT ps_legal_Ins qs_legal_Ins) (F_legal_Succ : FT ps_legal_Succ qs_legal_Succ) (F_clevisref04Ints : FT ps_clevisref04Ints qs_clevisref04Ints) (F_clevislaw04heads : FT ps_clevislaw04heads qs_clevislaw04heads) (F_clevisref04Ins : FT ps_clevisref04Ins qs_clevisref04Ins) (F_clevisref04Succ : FT ps_clevisref04Succ qs_clevisref04Succ)  (x : PTs.D ps_clevislaw04LegalIns) : Option Unit := match x with
  | (x0, x1, (x2Op, x2Dst, x2Src, x2Off, x2Imm, x2Wide)) => 
      F_legal_Ins Unit (x2Op, x2Dst, x2Src, x2Off, x2Imm, x2Wide) fun y =>
        F_clevisref04Ins Unit (x2Op, x2Dst, x2Src, x2Off, x2Imm, x2Wide) fun y_1 =>
          br (W.eqB y y_1)
            (F_legal_Succ Unit (x0, x1) fun y =>
              F_clevisref04Succ Unit (x0, x1) fun y_2 =>
                F_clevisref04Ints Unit (y, y_2) fun y => br (W.pick true y false) (F_clevislaw04heads Unit () fun y => br (W.pick true y false) (some ()) none) none)
            none
theorem E_clevislaw04LegalIns {F_legal_Ins : FT ps_legal_Ins qs_legal_Ins} {F_legal_Succ : FT ps_legal_Succ qs_legal_Succ} {F_clevisref04Ints : FT ps_clevisref04Ints qs_clevisref04Ints} {F_clevislaw04heads : FT ps_clevislaw04heads qs_clevislaw04heads} {F_clevisref04Ins : FT ps_clevisref04Ins qs_clevisref04Ins} {F_clevisref04Succ : FT ps_clevisref04Succ qs_clevisref04Succ} (h_legal_Ins : SpecOk Try.prog 17 (mkS ps_legal_Ins qs_legal_Ins F_legal_Ins)) (h_legal_Succ : SpecOk Try.prog 20 (mkS ps_legal_Succ qs_legal_Succ F_legal_Succ)) (h_clevisref04Ints : SpecOk Try.prog 19 (mkS ps_clevisref04Ints qs_clevisref04Ints F_clevisref04Ints)) (h_clevislaw04heads : SpecOk Try.prog 14 (mkS ps_clevislaw04heads qs_clevislaw04heads F_clevislaw04heads)) (h_clevisref04Ins : SpecOk Try.prog 18 (mkS ps_clevisref04Ins qs_clevisref04Ins F_clevisref04Ins)) (h_clevisref04Succ : SpecOk Try.prog 21 (mkS ps_clevisref04Succ qs_clevisref04Succ F_clevisref04Succ)) (x : PTs.D ps_clevislaw04LegalIns) (hL : L_clevislaw04LegalIns F_legal_Ins F_legal_Succ F_clevisref04Ints F_clevislaw04heads F_clevisref04Ins F_clevisref04Succ x = some ()) :
    ∃ (C : Cfg) (fl d : Nat), CfgOk C ∧ C.P = Try.prog ∧ call C fl d 5 (encL false ps_clevislaw04LegalIns x) [] getL = some () :=
  ⟨_, 10, 12, (cfgOk_cons (cfgOk_cons (cfgOk_cons (cfgOk_cons (cfgOk_cons (cfgOk_cons base h_clevisref04Succ) h_clevisref04Ins) h_clevislaw04heads) h_clevisref04Ints) h_legal_Succ) h_legal_Ins), rfl, (show _ = L_clevislaw04LegalIns F_legal_Ins F_legal_Succ F_clevisref04Ints F_clevislaw04heads F_clevisref04Ins F_clevisref04Succ x by obtain ⟨x0, x1, ⟨x2Op, x2Dst, x2Src, x2Off, x2Imm, x2Wide⟩⟩ := x; kernel_rfl).trans hL⟩
abbrev ps_clevislaw04LegalStays : List PT := [.one (.slice ((.prod (.int .i64) (.prod (.int .i64) (.prod (.int .i64) (.prod (.int .i64) (.prod (.int .i64) (.int .u64)))))))), .one (.slice (.bool))]
noncomputable def PL_clevislaw04LegalStays_6_0 (F_legal_Succ : FT ps_legal_Succ qs_legal_Succ) (F_legal_Check : FT ps_legal_Check qs_legal_Check) (F_clevislaw04heads : FT ps_clevislaw04heads qs_clevislaw04heads) (F_clevisref03Hole : FT ps_clevisref03Hole qs_clevisref03Hole) (fl : Nat)  (R : Type)  : LoopI Unit :=
  locate (Cw Try.prog [(20, mkS ps_legal_Succ qs_legal_Succ F_legal_Succ), (15, mkS ps_legal_Check qs_legal_Check F_legal_Check), (14, mkS ps_clevislaw04heads qs_clevislaw04heads F_clevislaw04heads), (22, mkS ps_clevisref03Hole qs_clevisref03Hole F_clevisref03Hole)] noH) fl (call (Cw Try.prog [(20, mkS ps_legal_Succ qs_legal_Succ F_legal_Succ), (15, mkS ps_legal_Check qs_legal_Check F_legal_Check), (14, mkS ps_clevislaw04heads qs_clevislaw04heads F_clevislaw04heads), (22, mkS ps_clevisref03Hole qs_clevisref03Hole F_clevisref03Hole)] noH) fl 11) 0 6 6 [] getL
noncomputable def P_clevislaw04LegalStays_6_0 (F_legal_Succ : FT ps_legal_Succ qs_legal_Succ) (F_legal_Check : FT ps_legal_Check qs_legal_Check) (F_clevislaw04heads : FT ps_clevislaw04heads qs_clevislaw04heads) (F_clevisref03Hole : FT ps_clevisref03Hole qs_clevisref03Hole) (fl : Nat)  (n : Nat) (R : Type) (y0 : List (Int × Int × Int × Int × Int × Int)) (y1 : List Bool) (y2 : Int) (y3 : Int)  : Option Unit :=
  loopH (PL_clevislaw04LegalStays_6_0 F_legal_Succ F_legal_Check F_clevislaw04heads F_clevisref03Hole fl  R ).body (PL_clevislaw04LegalStays_6_0 F_legal_Succ F_legal_Check F_clevislaw04heads F_clevisref03Hole fl  R ).head n (some (
      S.mk
        [V.ro false (Ty.prod (Ty.int IntKind.i64) (Ty.prod (Ty.int IntKind.i64) (Ty.prod (Ty.int IntKind.i64) (Ty.prod (Ty.int IntKind.i64) (Ty.prod (Ty.int IntKind.i64) (Ty.int IntKind.u64)))))) y0,
          V.ro false Ty.bool y1, V.any, V.any, V.any, V.any, V.any, V.int IntKind.i64 y2, V.int IntKind.i64 y3, V.any, V.any, V.any, V.any, V.any, V.any, V.any, V.any, V.any, V.any, V.any, V.any, V.any,
          V.any, V.any, V.any, V.any, V.any, V.any, V.any, V.any, V.any, V.any, V.any, V.any, V.any, V.any, V.any, V.any, V.any, V.any, V.any, V.any, V.any, V.any, V.any, V.any, V.any, V.any, V.any, V.any,
          V.any, V.any, V.any, V.any, V.any, V.any, V.any, V.any, V.any, V.any, V.any, V.any, V.any, V.any, V.any, V.any, V.any, V.any, V.any, V.any]
        [] [])) (PL_clevislaw04LegalStays_6_0 F_legal_Succ F_legal_Check F_clevislaw04heads F_clevisref03Hole fl  R ).kont
theorem P_clevislaw04LegalStays_6_0_s {F_legal_Succ : FT ps_legal_Succ qs_legal_Succ} {F_legal_Check : FT ps_legal_Check qs_legal_Check} {F_clevislaw04heads : FT ps_clevislaw04heads qs_clevislaw04heads} {F_clevisref03Hole : FT ps_clevisref03Hole qs_clevisref03Hole} (fl : Nat)  (n : Nat)  (y0 : List (Int × Int × Int × Int × Int × Int)) (y1 : List Bool) (y2 : Int) (y3 : Int)  : P_clevislaw04LegalStays_6_0 F_legal_Succ F_legal_Check F_clevislaw04heads F_clevisref03Hole fl  (n + 1) Unit y0 y1 y2 y3  =
      br (W.pick (W.lt y3 (W.ofNat (W.len y1))) (W.lt y3 1000) false)
        (br (W.not (W.pick (W.lt y2 0) true (W.ge y2 (W.ofNat (W.len y0)))))
          (F_clevisref03Hole Unit (y0, y2) fun y =>
            br (W.pick false true y) none
              (F_legal_Succ Unit (y0, y2) fun y =>
                br (W.eq (W.ofNat (W.len y)) 0)
                  (br (W.and2 (W.le 0 y2) (W.lt y2 (W.ofNat (W.len y0))))
                    (br (W.eq (W.get y0 (W.toNat y2) (0, 0, 0, 0, 0, 0)).1 149) (F_clevislaw04heads Unit () fun y => br (W.pick true y false) (some ()) none) none) none)
                  (br (W.and2 true (W.lt 0 (W.ofNat (W.len y))))
                    (br (W.and2 (W.le 0 y3) (W.lt y3 (W.ofNat (W.len y1))))
                      (br (W.get y1 (W.toNat y3) false)
                        (br (W.and2 (W.le 0 (W.wrap IntKind.i64 (W.sub (W.ofNat (W.len y)) 1))) (W.lt (W.wrap IntKind.i64 (W.sub (W.ofNat (W.len y)) 1)) (W.ofNat (W.len y))))
                          (P_clevislaw04LegalStays_6_0 F_legal_Succ F_legal_Check F_clevislaw04heads F_clevisref03Hole fl n Unit y0 y1 (W.get y (W.toNat (W.wrap IntKind.i64 (W.sub (W.ofNat (W.len y)) 1))) 0)
                            (W.wrap IntKind.i64 (W.add y3 1)))
                          none)
                        (P_clevislaw04LegalStays_6_0 F_legal_Succ F_legal_Check F_clevislaw04heads F_clevisref03Hole fl n Unit y0 y1 (W.get y 0 0) (W.wrap IntKind.i64 (W.add y3 1))))
                      none)
                    none)))
          none)
        (F_clevislaw04heads Unit () fun y => br y (some ()) none) := by kernel_rfl
noncomputable def L_clevislaw04LegalStays (F_legal_Succ : FT ps_legal_Succ qs_legal_Succ) (F_legal_Check : FT ps_legal_Check qs_legal_Check) (F_clevislaw04heads : FT ps_clevislaw04heads qs_clevislaw04heads) (F_clevisref03Hole : FT ps_clevisref03Hole qs_clevisref03Hole) (fl : Nat) (x : PTs.D ps_clevislaw04LegalStays) : Option Unit := match x with
  | (x0, x1) => 
      F_legal_Check Unit x0 fun y =>
        br (W.ne y.2 0) (F_clevislaw04heads Unit () fun y => br y (some ()) none) (P_clevislaw04LegalStays_6_0 F_legal_Succ F_legal_Check F_clevislaw04heads F_clevisref03Hole fl fl Unit x0 x1 0 0)
theorem Q_clevislaw04LegalStays {F_legal_Succ : FT ps_legal_Succ qs_legal_Succ} {F_legal_Check : FT ps_legal_Check qs_legal_Check} {F_clevislaw04heads : FT ps_clevislaw04heads qs_clevislaw04heads} {F_clevisref03Hole : FT ps_clevisref03Hole qs_clevisref03Hole} (fl : Nat) (x : PTs.D ps_clevislaw04LegalStays) : call (Cw Try.prog [(20, mkS ps_legal_Succ qs_legal_Succ F_legal_Succ), (15, mkS ps_legal_Check qs_legal_Check F_legal_Check), (14, mkS ps_clevislaw04heads qs_clevislaw04heads F_clevislaw04heads), (22, mkS ps_clevisref03Hole qs_clevisref03Hole F_clevisref03Hole)] noH) fl 12 6 (encL false ps_clevislaw04LegalStays x) [] getL = L_clevislaw04LegalStays F_legal_Succ F_legal_Check F_clevislaw04heads F_clevisref03Hole fl x := by
  obtain ⟨x0, x1⟩ := x; kernel_rfl
theorem E_clevislaw04LegalStays {F_legal_Succ : FT ps_legal_Succ qs_legal_Succ} {F_legal_Check : FT ps_legal_Check qs_legal_Check} {F_clevislaw04heads : FT ps_clevislaw04heads qs_clevislaw04heads} {F_clevisref03Hole : FT ps_clevisref03Hole qs_clevisref03Hole} (h_legal_Succ : SpecOk Try.prog 20 (mkS ps_legal_Succ qs_legal_Succ F_legal_Succ)) (h_legal_Check : SpecOk Try.prog 15 (mkS ps_legal_Check qs_legal_Check F_legal_Check)) (h_clevislaw04heads : SpecOk Try.prog 14 (mkS ps_clevislaw04heads qs_clevislaw04heads F_clevislaw04heads)) (h_clevisref03Hole : SpecOk Try.prog 22 (mkS ps_clevisref03Hole qs_clevisref03Hole F_clevisref03Hole)) (x : PTs.D ps_clevislaw04LegalStays) (fl : Nat) (hL : L_clevislaw04LegalStays F_legal_Succ F_legal_Check F_clevislaw04heads F_clevisref03Hole fl x = some ()) :
    ∃ (C : Cfg) (fl d : Nat), CfgOk C ∧ C.P = Try.prog ∧ call C fl d 6 (encL false ps_clevislaw04LegalStays x) [] getL = some () :=
  ⟨_, fl, 12, (cfgOk_cons (cfgOk_cons (cfgOk_cons (cfgOk_cons base h_clevisref03Hole) h_clevislaw04heads) h_legal_Check) h_legal_Succ), rfl, (Q_clevislaw04LegalStays fl x).trans hL⟩
abbrev ps_clevislaw04LegalAlone : List PT := [.one (.slice ((.prod (.int .i64) (.prod (.int .i64) (.prod (.int .i64) (.prod (.int .i64) (.prod (.int .i64) (.int .u64)))))))), .one (.int .i64)]
noncomputable def L_clevislaw04LegalAlone (F_legal_Check : FT ps_legal_Check qs_legal_Check) (F_clevislaw04heads : FT ps_clevislaw04heads qs_clevislaw04heads) (F_clevisref03Hole : FT ps_clevisref03Hole qs_clevisref03Hole)  (x : PTs.D ps_clevislaw04LegalAlone) : Option Unit := match x with
  | (x0, x1) => 
      F_legal_Check Unit x0 fun y =>
        br (W.or2 (W.not (W.not (W.pick (W.pick (W.ne y.2 0) true (W.lt x1 0)) true (W.ge x1 (W.ofNat (W.len x0)))))) (W.and2 (W.le 0 x1) (W.lt x1 (W.ofNat (W.len x0)))))
          (br (W.not (W.pick (W.pick (W.pick (W.ne y.2 0) true (W.lt x1 0)) true (W.ge x1 (W.ofNat (W.len x0)))) true (W.eq (W.get x0 (W.toNat x1) (0, 0, 0, 0, 0, 0)).1 24)))
            (F_clevisref03Hole Unit (x0, x1) fun y =>
              br (W.pick false true y) (F_clevislaw04heads Unit () fun y => br y (some ()) none)
                (br (W.leN (W.mulN (W.len x0) 48) 140737488355328)
                  (br (W.and2 (W.le 0 x1) (W.lt x1 (W.ofNat (W.len x0))))
                    (F_legal_Check Unit (W.set x0 (W.toNat x1) (149, 0, 0, 0, 0, 0)) fun y =>
                      br (W.leN (W.mulN (W.len x0) 48) 140737488355328)
                        (br (W.and2 (W.le 0 x1) (W.lt x1 (W.ofNat (W.len x0))))
                          (F_legal_Check Unit (W.set x0 (W.toNat x1) (255, 0, 0, 0, 0, 0)) fun y_1 =>
                            br (W.pick (W.pick (W.pick (W.eq y.2 0) (W.eq y.1 0) false) (W.eq y_1.2 40) false) (W.eq y_1.1 x1) false)
                              (F_clevislaw04heads Unit () fun y => br (W.pick true y false) (some ()) none) none)
                          none)
                        none)
                    none)
                  none))
            (F_clevislaw04heads Unit () fun y => br y (some ()) none))
          none
theorem E_clevislaw04LegalAlone {F_legal_Check : FT ps_legal_Check qs_legal_Check} {F_clevislaw04heads : FT ps_clevislaw04heads qs_clevislaw04heads} {F_clevisref03Hole : FT ps_clevisref03Hole qs_clevisref03Hole} (h_legal_Check : SpecOk Try.prog 15 (mkS ps_legal_Check qs_legal_Check F_legal_Check)) (h_clevislaw04heads : SpecOk Try.prog 14 (mkS ps_clevislaw04heads qs_clevislaw04heads F_clevislaw04heads)) (h_clevisref03Hole : SpecOk Try.prog 22 (mkS ps_clevisref03Hole qs_clevisref03Hole F_clevisref03Hole)) (x : PTs.D ps_clevislaw04LegalAlone) (hL : L_clevislaw04LegalAlone F_legal_Check F_clevislaw04heads F_clevisref03Hole x = some ()) :
    ∃ (C : Cfg) (fl d : Nat), CfgOk C ∧ C.P = Try.prog ∧ call C fl d 7 (encL false ps_clevislaw04LegalAlone x) [] getL = some () :=
  ⟨_, 10, 12, (cfgOk_cons (cfgOk_cons (cfgOk_cons base h_clevisref03Hole) h_clevislaw04heads) h_legal_Check), rfl, (show _ = L_clevislaw04LegalAlone F_legal_Check F_clevislaw04heads F_clevisref03Hole x by obtain ⟨x0, x1⟩ := x; kernel_rfl).trans hL⟩
end Go.Proofs.Ytbngpphpdabakaa
