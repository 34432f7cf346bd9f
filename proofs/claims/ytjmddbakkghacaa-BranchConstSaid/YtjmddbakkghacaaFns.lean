import Derived.Test.YtjmddbakkghacaaProg
import Derived.Test.YtjmddbakkghacaaEnwZ4
import Derived.KernelRfl
set_option maxHeartbeats 0
set_option maxRecDepth 1000000
set_option linter.unusedVariables false
namespace Go.Proofs.Ytjmddbakkghacaa
open Go Go.Eng
theorem base : CfgOk (Cw Try.prog [] noH) := cfgOk_nil (noGo_of (by kernel_rfl)) (by kernel_rfl) (by kernel_rfl)
abbrev ps_clevisref01neg : List PT := [.one (.int .u64), .one (.bool)]
abbrev qs_clevisref01neg : List PT := [.one (.bool)]
noncomputable def N_clevisref01neg   : FT ps_clevisref01neg qs_clevisref01neg := fun R x k => match x with
  | (x0, x1) => 
      br x1 (k (W.eq (W.shr IntKind.u64 x0 63) 1)) (k (W.eq (W.wrap IntKind.u64 (W.and IntKind.u64 (W.shr IntKind.u64 x0 31) 1)) 1))
theorem S_clevisref01neg   : SpecOk Try.prog 35 (mkS ps_clevisref01neg qs_clevisref01neg (N_clevisref01neg )) :=
  specOk_mk (fl := 10) (d := 12) base (by rintro R ⟨x0, x1⟩ k; kernel_rfl)
noncomputable def F_clevisref01neg : FT ps_clevisref01neg qs_clevisref01neg := N_clevisref01neg  
theorem ok_clevisref01neg : SpecOk Try.prog 35 (mkS ps_clevisref01neg qs_clevisref01neg F_clevisref01neg) := S_clevisref01neg 
abbrev ps_clevisref01less : List PT := [.one (.int .u64), .one (.int .u64), .one (.bool), .one (.bool)]
abbrev qs_clevisref01less : List PT := [.one (.bool)]
noncomputable def N_clevisref01less (F_clevisref01neg : FT ps_clevisref01neg qs_clevisref01neg)  : FT ps_clevisref01less qs_clevisref01less := fun R x k => match x with
  | (x0, x1, x2, x3) => 
      br x2 (F_clevisref01neg R (x0, x3) fun y => F_clevisref01neg R (x1, x3) fun y_1 => br (W.pick true (W.not (W.eqB y y_1)) false) (F_clevisref01neg R (x0, x3) fun y => k y) (k (W.lt x0 x1)))
        (k (W.lt x0 x1))
theorem S_clevisref01less {F_clevisref01neg : FT ps_clevisref01neg qs_clevisref01neg} (h_clevisref01neg : SpecOk Try.prog 35 (mkS ps_clevisref01neg qs_clevisref01neg F_clevisref01neg)) : SpecOk Try.prog 18 (mkS ps_clevisref01less qs_clevisref01less (N_clevisref01less F_clevisref01neg)) :=
  specOk_mk (fl := 10) (d := 12) (cfgOk_cons base h_clevisref01neg) (by rintro R ⟨x0, x1, x2, x3⟩ k; kernel_rfl)
noncomputable def F_clevisref01less : FT ps_clevisref01less qs_clevisref01less := N_clevisref01less F_clevisref01neg 
theorem ok_clevisref01less : SpecOk Try.prog 18 (mkS ps_clevisref01less qs_clevisref01less F_clevisref01less) := S_clevisref01less ok_clevisref01neg
abbrev ps_clevisref01Cond : List PT := [.one (.int .i64), .one (.int .u64), .one (.int .u64), .one (.bool)]
abbrev qs_clevisref01Cond : List PT := [.one (.bool), .one (.bool)]
noncomputable def N_clevisref01Cond (F_clevisref01less : FT ps_clevisref01less qs_clevisref01less)  : FT ps_clevisref01Cond qs_clevisref01Cond := fun R x k => match x with
  | (x0, x1, x2, x3) => 
      br (W.not x3)
        (br (W.eq x0 16) (k (W.eq (W.wrap IntKind.u64 (W.and IntKind.u64 x1 4294967295)) (W.wrap IntKind.u64 (W.and IntKind.u64 x2 4294967295)), true))
          (br (W.eq x0 80) (k (W.ne (W.wrap IntKind.u64 (W.and IntKind.u64 x1 4294967295)) (W.wrap IntKind.u64 (W.and IntKind.u64 x2 4294967295)), true))
            (br (W.eq x0 64) (k (W.ne (W.wrap IntKind.u64 (W.and IntKind.u64 (W.wrap IntKind.u64 (W.and IntKind.u64 x1 4294967295)) (W.wrap IntKind.u64 (W.and IntKind.u64 x2 4294967295)))) 0, true))
              (br (W.eq x0 32) (F_clevisref01less R (W.wrap IntKind.u64 (W.and IntKind.u64 x2 4294967295), W.wrap IntKind.u64 (W.and IntKind.u64 x1 4294967295), false, x3) fun y => k (y, true))
                (br (W.eq x0 48) (F_clevisref01less R (W.wrap IntKind.u64 (W.and IntKind.u64 x1 4294967295), W.wrap IntKind.u64 (W.and IntKind.u64 x2 4294967295), false, x3) fun y => k (W.not y, true))
                  (br (W.eq x0 160) (F_clevisref01less R (W.wrap IntKind.u64 (W.and IntKind.u64 x1 4294967295), W.wrap IntKind.u64 (W.and IntKind.u64 x2 4294967295), false, x3) fun y => k (y, true))
                    (br (W.eq x0 176)
                      (F_clevisref01less R (W.wrap IntKind.u64 (W.and IntKind.u64 x2 4294967295), W.wrap IntKind.u64 (W.and IntKind.u64 x1 4294967295), false, x3) fun y => k (W.not y, true))
                      (br (W.eq x0 96) (F_clevisref01less R (W.wrap IntKind.u64 (W.and IntKind.u64 x2 4294967295), W.wrap IntKind.u64 (W.and IntKind.u64 x1 4294967295), true, x3) fun y => k (y, true))
                        (br (W.eq x0 112)
                          (F_clevisref01less R (W.wrap IntKind.u64 (W.and IntKind.u64 x1 4294967295), W.wrap IntKind.u64 (W.and IntKind.u64 x2 4294967295), true, x3) fun y => k (W.not y, true))
                          (br (W.eq x0 192) (F_clevisref01less R (W.wrap IntKind.u64 (W.and IntKind.u64 x1 4294967295), W.wrap IntKind.u64 (W.and IntKind.u64 x2 4294967295), true, x3) fun y => k (y, true))
                            (br (W.eq x0 208)
                              (F_clevisref01less R (W.wrap IntKind.u64 (W.and IntKind.u64 x2 4294967295), W.wrap IntKind.u64 (W.and IntKind.u64 x1 4294967295), true, x3) fun y => k (W.not y, true))
                              (k (false, false)))))))))))))
        (br (W.eq x0 16) (k (W.eq x1 x2, true))
          (br (W.eq x0 80) (k (W.ne x1 x2, true))
            (br (W.eq x0 64) (k (W.ne (W.wrap IntKind.u64 (W.and IntKind.u64 x1 x2)) 0, true))
              (br (W.eq x0 32) (F_clevisref01less R (x2, x1, false, x3) fun y => k (y, true))
                (br (W.eq x0 48) (F_clevisref01less R (x1, x2, false, x3) fun y => k (W.not y, true))
                  (br (W.eq x0 160) (F_clevisref01less R (x1, x2, false, x3) fun y => k (y, true))
                    (br (W.eq x0 176) (F_clevisref01less R (x2, x1, false, x3) fun y => k (W.not y, true))
                      (br (W.eq x0 96) (F_clevisref01less R (x2, x1, true, x3) fun y => k (y, true))
                        (br (W.eq x0 112) (F_clevisref01less R (x1, x2, true, x3) fun y => k (W.not y, true))
                          (br (W.eq x0 192) (F_clevisref01less R (x1, x2, true, x3) fun y => k (y, true))
                            (br (W.eq x0 208) (F_clevisref01less R (x2, x1, true, x3) fun y => k (W.not y, true)) (k (false, false)))))))))))))
theorem S_clevisref01Cond {F_clevisref01less : FT ps_clevisref01less qs_clevisref01less} (h_clevisref01less : SpecOk Try.prog 18 (mkS ps_clevisref01less qs_clevisref01less F_clevisref01less)) : SpecOk Try.prog 9 (mkS ps_clevisref01Cond qs_clevisref01Cond (N_clevisref01Cond F_clevisref01less)) :=
  specOk_mk (fl := 10) (d := 12) (cfgOk_cons base h_clevisref01less) (by rintro R ⟨x0, x1, x2, x3⟩ k; kernel_rfl)
noncomputable def F_clevisref01Cond : FT ps_clevisref01Cond qs_clevisref01Cond := N_clevisref01Cond F_clevisref01less 
theorem ok_clevisref01Cond : SpecOk Try.prog 9 (mkS ps_clevisref01Cond qs_clevisref01Cond F_clevisref01Cond) := S_clevisref01Cond ok_clevisref01less
abbrev ps_branch_Opposite : List PT := [.one (.int .i64)]
abbrev qs_branch_Opposite : List PT := [.one (.int .i64)]
noncomputable def N_branch_Opposite   : FT ps_branch_Opposite qs_branch_Opposite := fun R x k => match x with
  | x0 => 
      br (W.eq x0 16) (k 80)
        (br (W.eq x0 80) (k 16)
          (br (W.eq x0 32) (k 176)
            (br (W.eq x0 176) (k 32) (br (W.eq x0 48) (k 160) (br (W.eq x0 160) (k 48) (br (W.eq x0 96) (k 208) (br (W.eq x0 208) (k 96) (br (W.eq x0 112) (k 192) (br (W.eq x0 192) (k 112) (k (-1)))))))))))
theorem S_branch_Opposite   : SpecOk Try.prog 14 (mkS ps_branch_Opposite qs_branch_Opposite (N_branch_Opposite )) :=
  specOk_mk (fl := 10) (d := 12) base (by intro R x0 k; kernel_rfl)
noncomputable def F_branch_Opposite : FT ps_branch_Opposite qs_branch_Opposite := N_branch_Opposite  
theorem ok_branch_Opposite : SpecOk Try.prog 14 (mkS ps_branch_Opposite qs_branch_Opposite F_branch_Opposite) := S_branch_Opposite 
abbrev ps_bound_Value : List PT := [.agg ((.prod (.int .u64) (.prod (.int .u64) (.prod (.int .i64) (.prod (.int .i64) ((.prod (.int .u64) (.int .u64))))))))]
abbrev qs_bound_Value : List PT := [.one (.int .u64), .one (.bool)]
noncomputable def N_bound_Value   : FT ps_bound_Value qs_bound_Value := fun R x k => match x with
  | (x0Umin, x0Umax, x0Smin, x0Smax, (x0Bits_Value, x0Bits_Mask)) => 
      br (W.eq x0Umin x0Umax) (k (x0Umin, true)) (k (0, false))
theorem S_bound_Value   : SpecOk Try.prog 19 (mkS ps_bound_Value qs_bound_Value (N_bound_Value )) :=
  specOk_mk (fl := 10) (d := 12) base (by rintro R ⟨x0Umin, x0Umax, x0Smin, x0Smax, ⟨x0Bits_Value, x0Bits_Mask⟩⟩ k; kernel_rfl)
noncomputable def F_bound_Value : FT ps_bound_Value qs_bound_Value := N_bound_Value  
theorem ok_bound_Value : SpecOk Try.prog 19 (mkS ps_bound_Value qs_bound_Value F_bound_Value) := S_bound_Value 
abbrev ps_word_low : List PT := [.one (.int .u64), .one (.bool)]
abbrev qs_word_low : List PT := [.one (.int .u64)]
noncomputable def N_word_low   : FT ps_word_low qs_word_low := fun R x k => match x with
  | (x0, x1) => 
      br x1 (k x0) (k (W.wrap IntKind.u64 (W.wrap IntKind.u32 x0)))
theorem S_word_low   : SpecOk Try.prog 36 (mkS ps_word_low qs_word_low (N_word_low )) :=
  specOk_mk (fl := 10) (d := 12) base (by rintro R ⟨x0, x1⟩ k; kernel_rfl)
noncomputable def F_word_low : FT ps_word_low qs_word_low := N_word_low  
theorem ok_word_low : SpecOk Try.prog 36 (mkS ps_word_low qs_word_low F_word_low) := S_word_low 
abbrev ps_word_compare_int64 : List PT := [.one (.int .i64), .one (.int .i64)]
abbrev qs_word_compare_int64 : List PT := [.one (.int .i64)]
noncomputable def N_word_compare_int64   : FT ps_word_compare_int64 qs_word_compare_int64 := fun R x k => match x with
  | (x0, x1) => 
      br (W.lt x0 x1) (k (-1)) (br (W.gt x0 x1) (k 1) (k 0))
theorem S_word_compare_int64   : SpecOk Try.prog 61 (mkS ps_word_compare_int64 qs_word_compare_int64 (N_word_compare_int64 )) :=
  specOk_mk (fl := 10) (d := 12) base (by rintro R ⟨x0, x1⟩ k; kernel_rfl)
noncomputable def F_word_compare_int64 : FT ps_word_compare_int64 qs_word_compare_int64 := N_word_compare_int64  
theorem ok_word_compare_int64 : SpecOk Try.prog 61 (mkS ps_word_compare_int64 qs_word_compare_int64 F_word_compare_int64) := S_word_compare_int64 
abbrev ps_word_compare_uint64 : List PT := [.one (.int .u64), .one (.int .u64)]
abbrev qs_word_compare_uint64 : List PT := [.one (.int .i64)]
noncomputable def N_word_compare_uint64   : FT ps_word_compare_uint64 qs_word_compare_uint64 := fun R x k => match x with
  | (x0, x1) => 
      br (W.lt x0 x1) (k (-1)) (br (W.gt x0 x1) (k 1) (k 0))
theorem S_word_compare_uint64   : SpecOk Try.prog 62 (mkS ps_word_compare_uint64 qs_word_compare_uint64 (N_word_compare_uint64 )) :=
  specOk_mk (fl := 10) (d := 12) base (by rintro R ⟨x0, x1⟩ k; kernel_rfl)
noncomputable def F_word_compare_uint64 : FT ps_word_compare_uint64 qs_word_compare_uint64 := N_word_compare_uint64  
theorem ok_word_compare_uint64 : SpecOk Try.prog 62 (mkS ps_word_compare_uint64 qs_word_compare_uint64 F_word_compare_uint64) := S_word_compare_uint64 
abbrev ps_word_order : List PT := [.one (.int .i64), .one (.int .u64), .one (.int .u64), .one (.bool)]
abbrev qs_word_order : List PT := [.one (.int .i64)]
noncomputable def N_word_order (F_word_compare_int64 : FT ps_word_compare_int64 qs_word_compare_int64) (F_word_compare_uint64 : FT ps_word_compare_uint64 qs_word_compare_uint64)  : FT ps_word_order qs_word_order := fun R x k => match x with
  | (x0, x1, x2, x3) => 
      br (W.eq x0 96)
        (br (W.not x3) (F_word_compare_int64 R (W.wrap IntKind.i64 (W.wrap IntKind.i32 (W.wrap IntKind.u32 x1)), W.wrap IntKind.i64 (W.wrap IntKind.i32 (W.wrap IntKind.u32 x2))) fun y => k y)
          (F_word_compare_int64 R (W.wrap IntKind.i64 x1, W.wrap IntKind.i64 x2) fun y => k y))
        (br (W.eq x0 112)
          (br (W.not x3) (F_word_compare_int64 R (W.wrap IntKind.i64 (W.wrap IntKind.i32 (W.wrap IntKind.u32 x1)), W.wrap IntKind.i64 (W.wrap IntKind.i32 (W.wrap IntKind.u32 x2))) fun y => k y)
            (F_word_compare_int64 R (W.wrap IntKind.i64 x1, W.wrap IntKind.i64 x2) fun y => k y))
          (br (W.eq x0 192)
            (br (W.not x3) (F_word_compare_int64 R (W.wrap IntKind.i64 (W.wrap IntKind.i32 (W.wrap IntKind.u32 x1)), W.wrap IntKind.i64 (W.wrap IntKind.i32 (W.wrap IntKind.u32 x2))) fun y => k y)
              (F_word_compare_int64 R (W.wrap IntKind.i64 x1, W.wrap IntKind.i64 x2) fun y => k y))
            (br (W.eq x0 208)
              (br (W.not x3) (F_word_compare_int64 R (W.wrap IntKind.i64 (W.wrap IntKind.i32 (W.wrap IntKind.u32 x1)), W.wrap IntKind.i64 (W.wrap IntKind.i32 (W.wrap IntKind.u32 x2))) fun y => k y)
                (F_word_compare_int64 R (W.wrap IntKind.i64 x1, W.wrap IntKind.i64 x2) fun y => k y))
              (F_word_compare_uint64 R (x1, x2) fun y => k y))))
theorem S_word_order {F_word_compare_int64 : FT ps_word_compare_int64 qs_word_compare_int64} {F_word_compare_uint64 : FT ps_word_compare_uint64 qs_word_compare_uint64} (h_word_compare_int64 : SpecOk Try.prog 61 (mkS ps_word_compare_int64 qs_word_compare_int64 F_word_compare_int64)) (h_word_compare_uint64 : SpecOk Try.prog 62 (mkS ps_word_compare_uint64 qs_word_compare_uint64 F_word_compare_uint64)) : SpecOk Try.prog 37 (mkS ps_word_order qs_word_order (N_word_order F_word_compare_int64 F_word_compare_uint64)) :=
  specOk_mk (fl := 10) (d := 12) (cfgOk_cons (cfgOk_cons base h_word_compare_uint64) h_word_compare_int64) (by rintro R ⟨x0, x1, x2, x3⟩ k; kernel_rfl)
noncomputable def F_word_order : FT ps_word_order qs_word_order := N_word_order F_word_compare_int64 F_word_compare_uint64 
theorem ok_word_order : SpecOk Try.prog 37 (mkS ps_word_order qs_word_order F_word_order) := S_word_order ok_word_compare_int64 ok_word_compare_uint64
abbrev ps_word_Cond : List PT := [.one (.int .i64), .one (.int .u64), .one (.int .u64), .one (.bool)]
abbrev qs_word_Cond : List PT := [.one (.bool), .one (.bool)]
noncomputable def N_word_Cond (F_word_low : FT ps_word_low qs_word_low) (F_word_order : FT ps_word_order qs_word_order)  : FT ps_word_Cond qs_word_Cond := fun R x k => match x with
  | (x0, x1, x2, x3) => 
      F_word_low R (x1, x3) fun y =>
        F_word_low R (x2, x3) fun y_1 =>
          F_word_order R (x0, y, y_1, x3) fun y_2 =>
            br (W.eq x0 16) (k (W.eq y_2 0, true))
              (br (W.eq x0 80) (k (W.ne y_2 0, true))
                (br (W.eq x0 64) (k (W.ne (W.wrap IntKind.u64 (W.and IntKind.u64 y y_1)) 0, true))
                  (br (W.eq x0 32)
                    (br (W.eq x0 32) (k (W.gt y_2 0, true))
                      (br (W.eq x0 48)
                        (br (W.eq x0 48) (k (W.ge y_2 0, true))
                          (br (W.eq x0 160)
                            (br (W.eq x0 160) (k (W.lt y_2 0, true))
                              (br (W.eq x0 176) (br (W.eq x0 176) (k (W.le y_2 0, true)) (k (false, false))) (br (W.eq x0 208) (k (W.le y_2 0, true)) (k (false, false)))))
                            (br (W.eq x0 192) (k (W.lt y_2 0, true))
                              (br (W.eq x0 176) (br (W.eq x0 176) (k (W.le y_2 0, true)) (k (false, false))) (br (W.eq x0 208) (k (W.le y_2 0, true)) (k (false, false)))))))
                        (br (W.eq x0 112) (k (W.ge y_2 0, true))
                          (br (W.eq x0 160)
                            (br (W.eq x0 160) (k (W.lt y_2 0, true))
                              (br (W.eq x0 176) (br (W.eq x0 176) (k (W.le y_2 0, true)) (k (false, false))) (br (W.eq x0 208) (k (W.le y_2 0, true)) (k (false, false)))))
                            (br (W.eq x0 192) (k (W.lt y_2 0, true))
                              (br (W.eq x0 176) (br (W.eq x0 176) (k (W.le y_2 0, true)) (k (false, false))) (br (W.eq x0 208) (k (W.le y_2 0, true)) (k (false, false)))))))))
                    (br (W.eq x0 96) (k (W.gt y_2 0, true))
                      (br (W.eq x0 48)
                        (br (W.eq x0 48) (k (W.ge y_2 0, true))
                          (br (W.eq x0 160)
                            (br (W.eq x0 160) (k (W.lt y_2 0, true))
                              (br (W.eq x0 176) (br (W.eq x0 176) (k (W.le y_2 0, true)) (k (false, false))) (br (W.eq x0 208) (k (W.le y_2 0, true)) (k (false, false)))))
                            (br (W.eq x0 192) (k (W.lt y_2 0, true))
                              (br (W.eq x0 176) (br (W.eq x0 176) (k (W.le y_2 0, true)) (k (false, false))) (br (W.eq x0 208) (k (W.le y_2 0, true)) (k (false, false)))))))
                        (br (W.eq x0 112) (k (W.ge y_2 0, true))
                          (br (W.eq x0 160)
                            (br (W.eq x0 160) (k (W.lt y_2 0, true))
                              (br (W.eq x0 176) (br (W.eq x0 176) (k (W.le y_2 0, true)) (k (false, false))) (br (W.eq x0 208) (k (W.le y_2 0, true)) (k (false, false)))))
                            (br (W.eq x0 192) (k (W.lt y_2 0, true))
                              (br (W.eq x0 176) (br (W.eq x0 176) (k (W.le y_2 0, true)) (k (false, false))) (br (W.eq x0 208) (k (W.le y_2 0, true)) (k (false, false))))))))))))
theorem S_word_Cond {F_word_low : FT ps_word_low qs_word_low} {F_word_order : FT ps_word_order qs_word_order} (h_word_low : SpecOk Try.prog 36 (mkS ps_word_low qs_word_low F_word_low)) (h_word_order : SpecOk Try.prog 37 (mkS ps_word_order qs_word_order F_word_order)) : SpecOk Try.prog 20 (mkS ps_word_Cond qs_word_Cond (N_word_Cond F_word_low F_word_order)) :=
  specOk_mk (fl := 10) (d := 12) (cfgOk_cons (cfgOk_cons base h_word_order) h_word_low) (by rintro R ⟨x0, x1, x2, x3⟩ k; kernel_rfl)
noncomputable def F_word_Cond : FT ps_word_Cond qs_word_Cond := N_word_Cond F_word_low F_word_order 
theorem ok_word_Cond : SpecOk Try.prog 20 (mkS ps_word_Cond qs_word_Cond F_word_Cond) := S_word_Cond ok_word_low ok_word_order
abbrev ps_tnum_tidy : List PT := [.one (.int .u64), .one (.int .u64)]
abbrev qs_tnum_tidy : List PT := [.agg ((.prod (.int .u64) (.int .u64)))]
noncomputable def N_tnum_tidy   : FT ps_tnum_tidy qs_tnum_tidy := fun R x k => match x with
  | (x0, x1) => 
      k (W.wrap IntKind.u64 (W.andNot IntKind.u64 x0 x1), x1)
theorem S_tnum_tidy   : SpecOk Try.prog 63 (mkS ps_tnum_tidy qs_tnum_tidy (N_tnum_tidy )) :=
  specOk_mk (fl := 10) (d := 12) base (by rintro R ⟨x0, x1⟩ k; kernel_rfl)
noncomputable def F_tnum_tidy : FT ps_tnum_tidy qs_tnum_tidy := N_tnum_tidy  
theorem ok_tnum_tidy : SpecOk Try.prog 63 (mkS ps_tnum_tidy qs_tnum_tidy F_tnum_tidy) := S_tnum_tidy 
abbrev ps_tnum_Check : List PT := [.agg ((.prod (.int .u64) (.int .u64)))]
abbrev qs_tnum_Check : List PT := [.one (.bool)]
noncomputable def N_tnum_Check (F_tnum_tidy : FT ps_tnum_tidy qs_tnum_tidy)  : FT ps_tnum_Check qs_tnum_Check := fun R x k => match x with
  | (x0Value, x0Mask) => 
      F_tnum_tidy R (x0Value, x0Mask) fun y => k (W.and2 (W.eq x0Value y.1) (W.and2 (W.eq x0Mask y.2) true))
theorem S_tnum_Check {F_tnum_tidy : FT ps_tnum_tidy qs_tnum_tidy} (h_tnum_tidy : SpecOk Try.prog 63 (mkS ps_tnum_tidy qs_tnum_tidy F_tnum_tidy)) : SpecOk Try.prog 38 (mkS ps_tnum_Check qs_tnum_Check (N_tnum_Check F_tnum_tidy)) :=
  specOk_mk (fl := 10) (d := 12) (cfgOk_cons base h_tnum_tidy) (by rintro R ⟨x0Value, x0Mask⟩ k; kernel_rfl)
noncomputable def F_tnum_Check : FT ps_tnum_Check qs_tnum_Check := N_tnum_Check F_tnum_tidy 
theorem ok_tnum_Check : SpecOk Try.prog 38 (mkS ps_tnum_Check qs_tnum_Check F_tnum_Check) := S_tnum_Check ok_tnum_tidy
abbrev ps_bound_Check : List PT := [.agg ((.prod (.int .u64) (.prod (.int .u64) (.prod (.int .i64) (.prod (.int .i64) ((.prod (.int .u64) (.int .u64))))))))]
abbrev qs_bound_Check : List PT := [.one (.bool)]
noncomputable def N_bound_Check (F_tnum_Check : FT ps_tnum_Check qs_tnum_Check)  : FT ps_bound_Check qs_bound_Check := fun R x k => match x with
  | (x0Umin, x0Umax, x0Smin, x0Smax, (x0Bits_Value, x0Bits_Mask)) => 
      br (W.pick (W.le x0Umin x0Umax) (W.le x0Smin x0Smax) false) (F_tnum_Check R (x0Bits_Value, x0Bits_Mask) fun y => k (W.pick true y false)) (k false)
theorem S_bound_Check {F_tnum_Check : FT ps_tnum_Check qs_tnum_Check} (h_tnum_Check : SpecOk Try.prog 38 (mkS ps_tnum_Check qs_tnum_Check F_tnum_Check)) : SpecOk Try.prog 21 (mkS ps_bound_Check qs_bound_Check (N_bound_Check F_tnum_Check)) :=
  specOk_mk (fl := 10) (d := 12) (cfgOk_cons base h_tnum_Check) (by rintro R ⟨x0Umin, x0Umax, x0Smin, x0Smax, ⟨x0Bits_Value, x0Bits_Mask⟩⟩ k; kernel_rfl)
noncomputable def F_bound_Check : FT ps_bound_Check qs_bound_Check := N_bound_Check F_tnum_Check 
theorem ok_bound_Check : SpecOk Try.prog 21 (mkS ps_bound_Check qs_bound_Check F_bound_Check) := S_bound_Check ok_tnum_Check
abbrev ps_branch_near : List PT := [.one (.int .i64), .agg ((.prod (.int .u64) (.prod (.int .u64) (.prod (.int .i64) (.prod (.int .i64) ((.prod (.int .u64) (.int .u64)))))))), .agg ((.prod (.int .u64) (.prod (.int .u64) (.prod (.int .i64) (.prod (.int .i64) ((.prod (.int .u64) (.int .u64))))))))]
abbrev qs_branch_near : List PT := [.one (.bool)]
noncomputable def N_branch_near   : FT ps_branch_near qs_branch_near := fun R x k => match x with
  | (x0, (x1Umin, x1Umax, x1Smin, x1Smax, (x1Bits_Value, x1Bits_Mask)), (x2Umin, x2Umax, x2Smin, x2Smax, (x2Bits_Value, x2Bits_Mask))) => 
      br (W.eq x0 96) (k (W.le (W.max x1Umax x2Umax) 2147483647))
        (br (W.eq x0 112) (k (W.le (W.max x1Umax x2Umax) 2147483647))
          (br (W.eq x0 192) (k (W.le (W.max x1Umax x2Umax) 2147483647)) (br (W.eq x0 208) (k (W.le (W.max x1Umax x2Umax) 2147483647)) (k (W.le (W.max x1Umax x2Umax) 4294967295)))))
theorem S_branch_near   : SpecOk Try.prog 22 (mkS ps_branch_near qs_branch_near (N_branch_near )) :=
  specOk_mk (fl := 10) (d := 12) base (by rintro R ⟨x0, ⟨x1Umin, x1Umax, x1Smin, x1Smax, ⟨x1Bits_Value, x1Bits_Mask⟩⟩, ⟨x2Umin, x2Umax, x2Smin, x2Smax, ⟨x2Bits_Value, x2Bits_Mask⟩⟩⟩ k; kernel_rfl)
noncomputable def F_branch_near : FT ps_branch_near qs_branch_near := N_branch_near  
theorem ok_branch_near : SpecOk Try.prog 22 (mkS ps_branch_near qs_branch_near F_branch_near) := S_branch_near 
abbrev ps_tnum_Meet : List PT := [.agg ((.prod (.int .u64) (.int .u64))), .agg ((.prod (.int .u64) (.int .u64)))]
abbrev qs_tnum_Meet : List PT := [.agg ((.prod (.int .u64) (.int .u64))), .one (.bool)]
noncomputable def N_tnum_Meet (F_tnum_tidy : FT ps_tnum_tidy qs_tnum_tidy)  : FT ps_tnum_Meet qs_tnum_Meet := fun R x k => match x with
  | ((x0Value, x0Mask), (x1Value, x1Mask)) => 
      F_tnum_tidy R (W.wrap IntKind.u64 (W.or IntKind.u64 x0Value x1Value), W.wrap IntKind.u64 (W.and IntKind.u64 x0Mask x1Mask)) fun y =>
        k ((y.1, y.2), W.eq (W.wrap IntKind.u64 (W.andNot IntKind.u64 (W.wrap IntKind.u64 (W.andNot IntKind.u64 (W.wrap IntKind.u64 (W.xor IntKind.u64 x0Value x1Value)) x0Mask)) x1Mask)) 0)
theorem S_tnum_Meet {F_tnum_tidy : FT ps_tnum_tidy qs_tnum_tidy} (h_tnum_tidy : SpecOk Try.prog 63 (mkS ps_tnum_tidy qs_tnum_tidy F_tnum_tidy)) : SpecOk Try.prog 39 (mkS ps_tnum_Meet qs_tnum_Meet (N_tnum_Meet F_tnum_tidy)) :=
  specOk_mk (fl := 10) (d := 12) (cfgOk_cons base h_tnum_tidy) (by rintro R ⟨⟨x0Value, x0Mask⟩, ⟨x1Value, x1Mask⟩⟩ k; kernel_rfl)
noncomputable def F_tnum_Meet : FT ps_tnum_Meet qs_tnum_Meet := N_tnum_Meet F_tnum_tidy 
theorem ok_tnum_Meet : SpecOk Try.prog 39 (mkS ps_tnum_Meet qs_tnum_Meet F_tnum_Meet) := S_tnum_Meet ok_tnum_tidy
abbrev ps_bound_empty : List PT := [.agg ((.prod (.int .u64) (.prod (.int .u64) (.prod (.int .i64) (.prod (.int .i64) ((.prod (.int .u64) (.int .u64))))))))]
abbrev qs_bound_empty : List PT := [.one (.bool)]
noncomputable def N_bound_empty   : FT ps_bound_empty qs_bound_empty := fun R x k => match x with
  | (x0Umin, x0Umax, x0Smin, x0Smax, (x0Bits_Value, x0Bits_Mask)) => 
      k (W.pick (W.gt x0Umin x0Umax) true (W.gt x0Smin x0Smax))
theorem S_bound_empty   : SpecOk Try.prog 46 (mkS ps_bound_empty qs_bound_empty (N_bound_empty )) :=
  specOk_mk (fl := 10) (d := 12) base (by rintro R ⟨x0Umin, x0Umax, x0Smin, x0Smax, ⟨x0Bits_Value, x0Bits_Mask⟩⟩ k; kernel_rfl)
noncomputable def F_bound_empty : FT ps_bound_empty qs_bound_empty := N_bound_empty  
theorem ok_bound_empty : SpecOk Try.prog 46 (mkS ps_bound_empty qs_bound_empty F_bound_empty) := S_bound_empty 
abbrev ps_bits_Len64 : List PT := [.one (.int .u64)]
abbrev qs_bits_Len64 : List PT := [.one (.int .i64)]
noncomputable def lenTab : ByteArray := ⟨#[0, 1, 2, 2, 3, 3, 3, 3, 4, 4, 4, 4, 4, 4, 4, 4, 5, 5, 5, 5, 5, 5, 5, 5, 5, 5, 5, 5, 5, 5, 5, 5, 6, 6, 6, 6, 6, 6, 6, 6, 6, 6, 6, 6, 6, 6, 6, 6, 6, 6, 6, 6, 6, 6, 6, 6, 6, 6, 6, 6, 6, 6, 6, 6, 7, 7, 7, 7, 7, 7, 7, 7, 7, 7, 7, 7, 7, 7, 7, 7, 7, 7, 7, 7, 7, 7, 7, 7, 7, 7, 7, 7, 7, 7, 7, 7, 7, 7, 7, 7, 7, 7, 7, 7, 7, 7, 7, 7, 7, 7, 7, 7, 7, 7, 7, 7, 7, 7, 7, 7, 7, 7, 7, 7, 7, 7, 7, 7, 8, 8, 8, 8, 8, 8, 8, 8, 8, 8, 8, 8, 8, 8, 8, 8, 8, 8, 8, 8, 8, 8, 8, 8, 8, 8, 8, 8, 8, 8, 8, 8, 8, 8, 8, 8, 8, 8, 8, 8, 8, 8, 8, 8, 8, 8, 8, 8, 8, 8, 8, 8, 8, 8, 8, 8, 8, 8, 8, 8, 8, 8, 8, 8, 8, 8, 8, 8, 8, 8, 8, 8, 8, 8, 8, 8, 8, 8, 8, 8, 8, 8, 8, 8, 8, 8, 8, 8, 8, 8, 8, 8, 8, 8, 8, 8, 8, 8, 8, 8, 8, 8, 8, 8, 8, 8, 8, 8, 8, 8, 8, 8, 8, 8, 8, 8, 8, 8, 8, 8, 8, 8, 8, 8, 8, 8, 8, 8]⟩
noncomputable def leafK {R : Type} (n y : Int) (k : Int → Option R) : Option R :=
  br (W.and2 (W.le 0 (W.wrap .u8 y)) (W.lt (W.wrap .u8 y) 256)) (k (W.wrap .i64 (W.add n (W.wrap .i64 (W.byte lenTab (W.toNat (W.wrap .u8 y))))))) none
noncomputable def N_bits_Len64 : FT ps_bits_Len64 qs_bits_Len64 := fun R x k =>
  br (W.ge x 4294967296)
    (br (W.ge (W.shr .u64 x 32) 65536)
      (br (W.ge (W.shr .u64 (W.shr .u64 x 32) 16) 256) (leafK 56 (W.shr .u64 (W.shr .u64 (W.shr .u64 x 32) 16) 8) k) (leafK 48 (W.shr .u64 (W.shr .u64 x 32) 16) k))
      (br (W.ge (W.shr .u64 x 32) 256) (leafK 40 (W.shr .u64 (W.shr .u64 x 32) 8) k) (leafK 32 (W.shr .u64 x 32) k)))
    (br (W.ge x 65536)
      (br (W.ge (W.shr .u64 x 16) 256) (leafK 24 (W.shr .u64 (W.shr .u64 x 16) 8) k) (leafK 16 (W.shr .u64 x 16) k))
      (br (W.ge x 256) (leafK 8 (W.shr .u64 x 8) k) (leafK 0 x k)))
theorem S_bits_Len64   : SpecOk Try.prog 65 (mkS ps_bits_Len64 qs_bits_Len64 (N_bits_Len64 )) :=
  specOk_mk (fl := 10) (d := 12) base (by intro R x0 k; kernel_rfl)
noncomputable def F_bits_Len64 : FT ps_bits_Len64 qs_bits_Len64 := N_bits_Len64 
theorem ok_bits_Len64 : SpecOk Try.prog 65 (mkS ps_bits_Len64 qs_bits_Len64 F_bits_Len64) := S_bits_Len64 
abbrev ps_tnum_Any : List PT := []
abbrev qs_tnum_Any : List PT := [.agg ((.prod (.int .u64) (.int .u64)))]
noncomputable def N_tnum_Any   : FT ps_tnum_Any qs_tnum_Any := fun R x k => match x with
  | () => 
      k (0, 18446744073709551615)
theorem S_tnum_Any   : SpecOk Try.prog 66 (mkS ps_tnum_Any qs_tnum_Any (N_tnum_Any )) :=
  specOk_mk (fl := 10) (d := 12) base (by intro R x k; kernel_rfl)
noncomputable def F_tnum_Any : FT ps_tnum_Any qs_tnum_Any := N_tnum_Any  
theorem ok_tnum_Any : SpecOk Try.prog 66 (mkS ps_tnum_Any qs_tnum_Any F_tnum_Any) := S_tnum_Any 
abbrev ps_tnum_Range : List PT := [.one (.int .u64), .one (.int .u64)]
abbrev qs_tnum_Range : List PT := [.agg ((.prod (.int .u64) (.int .u64)))]
noncomputable def N_tnum_Range (F_tnum_tidy : FT ps_tnum_tidy qs_tnum_tidy) (F_bits_Len64 : FT ps_bits_Len64 qs_bits_Len64) (F_tnum_Any : FT ps_tnum_Any qs_tnum_Any)  : FT ps_tnum_Range qs_tnum_Range := fun R x k => match x with
  | (x0, x1) => 
      F_bits_Len64 R (W.wrap IntKind.u64 (W.xor IntKind.u64 x0 x1)) fun y =>
        br (W.eq y 64) (F_tnum_Any R () fun y => k (y.1, y.2))
          (br (W.lt y 0) none (F_tnum_tidy R (x0, W.wrap IntKind.u64 (W.sub (W.wrap IntKind.u64 (W.shl IntKind.u64 1 y)) 1)) fun y => k (y.1, y.2)))
theorem S_tnum_Range {F_tnum_tidy : FT ps_tnum_tidy qs_tnum_tidy} {F_bits_Len64 : FT ps_bits_Len64 qs_bits_Len64} {F_tnum_Any : FT ps_tnum_Any qs_tnum_Any} (h_tnum_tidy : SpecOk Try.prog 63 (mkS ps_tnum_tidy qs_tnum_tidy F_tnum_tidy)) (h_bits_Len64 : SpecOk Try.prog 65 (mkS ps_bits_Len64 qs_bits_Len64 F_bits_Len64)) (h_tnum_Any : SpecOk Try.prog 66 (mkS ps_tnum_Any qs_tnum_Any F_tnum_Any)) : SpecOk Try.prog 48 (mkS ps_tnum_Range qs_tnum_Range (N_tnum_Range F_tnum_tidy F_bits_Len64 F_tnum_Any)) :=
  specOk_mk (fl := 10) (d := 12) (cfgOk_cons (cfgOk_cons (cfgOk_cons base h_tnum_Any) h_bits_Len64) h_tnum_tidy) (by rintro R ⟨x0, x1⟩ k; kernel_rfl)
noncomputable def F_tnum_Range : FT ps_tnum_Range qs_tnum_Range := N_tnum_Range F_tnum_tidy F_bits_Len64 F_tnum_Any 
theorem ok_tnum_Range : SpecOk Try.prog 48 (mkS ps_tnum_Range qs_tnum_Range F_tnum_Range) := S_tnum_Range ok_tnum_tidy ok_bits_Len64 ok_tnum_Any
abbrev ps_bound_Tidy : List PT := [.agg ((.prod (.int .u64) (.prod (.int .u64) (.prod (.int .i64) (.prod (.int .i64) ((.prod (.int .u64) (.int .u64))))))))]
abbrev qs_bound_Tidy : List PT := [.agg ((.prod (.int .u64) (.prod (.int .u64) (.prod (.int .i64) (.prod (.int .i64) ((.prod (.int .u64) (.int .u64)))))))), .one (.bool)]
abbrev Bd := Int × Int × Int × Int × Int × Int
noncomputable def bitsB (b : Bd) : Bd :=
  let v := b.2.2.2.2.1
  let m := b.2.2.2.2.2
  (W.max b.1 v, W.min b.2.1 (W.wrap .u64 (W.or .u64 v m)), W.max b.2.2.1 (W.wrap .i64 (W.wrap .u64 (W.or .u64 v (W.wrap .u64 (W.and .u64 m 9223372036854775808))))),
    W.min b.2.2.2.1 (W.wrap .i64 (W.wrap .u64 (W.or .u64 v (W.wrap .u64 (W.andNot .u64 m 9223372036854775808))))), v, m)
noncomputable def signsK {R : Type} (b : Bd) (k : Bd → Option R) : Option R :=
  br (W.pick (W.ge b.2.2.1 0) true (W.lt b.2.2.2.1 0))
    (k (W.max b.1 (W.wrap .u64 b.2.2.1), W.min b.2.1 (W.wrap .u64 b.2.2.2.1), W.wrap .i64 (W.max b.1 (W.wrap .u64 b.2.2.1)), W.wrap .i64 (W.min b.2.1 (W.wrap .u64 b.2.2.2.1)), b.2.2.2.2.1, b.2.2.2.2.2))
    (br (W.ge (W.wrap .i64 b.2.1) 0)
      (k (b.1, W.wrap .u64 (W.min b.2.2.2.1 (W.wrap .i64 b.2.1)), W.wrap .i64 b.1, W.min b.2.2.2.1 (W.wrap .i64 b.2.1), b.2.2.2.2.1, b.2.2.2.2.2))
      (br (W.lt (W.wrap .i64 b.1) 0)
        (k (W.wrap .u64 (W.max b.2.2.1 (W.wrap .i64 b.1)), b.2.1, W.max b.2.2.1 (W.wrap .i64 b.1), W.wrap .i64 b.2.1, b.2.2.2.2.1, b.2.2.2.2.2))
        (k b)))
noncomputable def roundK (F_bound_empty : FT ps_bound_empty qs_bound_empty) (F_tnum_Meet : FT ps_tnum_Meet qs_tnum_Meet) (F_tnum_Range : FT ps_tnum_Range qs_tnum_Range) {R : Type} (b : Bd) (k0 : Option R) (k : Bd → Option R) : Option R :=
  F_bound_empty R (bitsB b) fun e => br e k0 (signsK (bitsB b) fun d => F_tnum_Range R (d.1, d.2.1) fun t => F_tnum_Meet R ((d.2.2.2.2.1, d.2.2.2.2.2), t.1, t.2) fun u =>
    br (W.not (W.not u.2)) (F_bound_empty R d fun e => br (W.pick false true e) k0 (k (d.1, d.2.1, d.2.2.1, d.2.2.2.1, u.1.1, u.1.2))) k0)

noncomputable def N_bound_Tidy (F_bound_empty : FT ps_bound_empty qs_bound_empty) (F_tnum_Meet : FT ps_tnum_Meet qs_tnum_Meet) (F_tnum_Range : FT ps_tnum_Range qs_tnum_Range) : FT ps_bound_Tidy qs_bound_Tidy := fun R x k =>
  roundK F_bound_empty F_tnum_Meet F_tnum_Range x (k ((0, 0, 0, 0, 0, 0), false)) fun b => roundK F_bound_empty F_tnum_Meet F_tnum_Range b (k ((0, 0, 0, 0, 0, 0), false)) fun b => k (b, true)
theorem S_bound_Tidy {F_tnum_Meet : FT ps_tnum_Meet qs_tnum_Meet} {F_bound_empty : FT ps_bound_empty qs_bound_empty} {F_tnum_Range : FT ps_tnum_Range qs_tnum_Range} (h_tnum_Meet : SpecOk Try.prog 39 (mkS ps_tnum_Meet qs_tnum_Meet F_tnum_Meet)) (h_bound_empty : SpecOk Try.prog 46 (mkS ps_bound_empty qs_bound_empty F_bound_empty)) (h_tnum_Range : SpecOk Try.prog 48 (mkS ps_tnum_Range qs_tnum_Range F_tnum_Range)) : SpecOk Try.prog 25 (mkS ps_bound_Tidy qs_bound_Tidy (N_bound_Tidy (F_tnum_Meet := F_tnum_Meet) (F_bound_empty := F_bound_empty) (F_tnum_Range := F_tnum_Range))) :=
  specOk_mk (fl := 10) (d := 12) (cfgOk_cons (cfgOk_cons (cfgOk_cons base h_tnum_Range) h_bound_empty) h_tnum_Meet) (by rintro R ⟨x0Umin, x0Umax, x0Smin, x0Smax, ⟨x0Bits_Value, x0Bits_Mask⟩⟩ k; kernel_rfl)
noncomputable def F_bound_Tidy : FT ps_bound_Tidy qs_bound_Tidy := N_bound_Tidy (F_tnum_Meet := F_tnum_Meet) (F_bound_empty := F_bound_empty) (F_tnum_Range := F_tnum_Range)
theorem ok_bound_Tidy : SpecOk Try.prog 25 (mkS ps_bound_Tidy qs_bound_Tidy F_bound_Tidy) := S_bound_Tidy ok_tnum_Meet ok_bound_empty ok_tnum_Range
abbrev ps_bound_Meet : List PT := [.agg ((.prod (.int .u64) (.prod (.int .u64) (.prod (.int .i64) (.prod (.int .i64) ((.prod (.int .u64) (.int .u64)))))))), .agg ((.prod (.int .u64) (.prod (.int .u64) (.prod (.int .i64) (.prod (.int .i64) ((.prod (.int .u64) (.int .u64))))))))]
abbrev qs_bound_Meet : List PT := [.agg ((.prod (.int .u64) (.prod (.int .u64) (.prod (.int .i64) (.prod (.int .i64) ((.prod (.int .u64) (.int .u64)))))))), .one (.bool)]
noncomputable def N_bound_Meet (F_tnum_Meet : FT ps_tnum_Meet qs_tnum_Meet) (F_bound_Tidy : FT ps_bound_Tidy qs_bound_Tidy)  : FT ps_bound_Meet qs_bound_Meet := fun R x k => match x with
  | ((x0Umin, x0Umax, x0Smin, x0Smax, (x0Bits_Value, x0Bits_Mask)), (x1Umin, x1Umax, x1Smin, x1Smax, (x1Bits_Value, x1Bits_Mask))) => 
      F_tnum_Meet R ((x0Bits_Value, x0Bits_Mask), x1Bits_Value, x1Bits_Mask) fun y =>
        br (W.not y.2) (k ((0, 0, 0, 0, 0, 0), false))
          (F_bound_Tidy R (W.max x0Umin x1Umin, W.min x0Umax x1Umax, W.max x0Smin x1Smin, W.min x0Smax x1Smax, y.1.1, y.1.2) fun y =>
            k ((y.1.1, y.1.2.1, y.1.2.2.1, y.1.2.2.2.1, y.1.2.2.2.2.1, y.1.2.2.2.2.2), y.2))
theorem S_bound_Meet {F_tnum_Meet : FT ps_tnum_Meet qs_tnum_Meet} {F_bound_Tidy : FT ps_bound_Tidy qs_bound_Tidy} (h_tnum_Meet : SpecOk Try.prog 39 (mkS ps_tnum_Meet qs_tnum_Meet F_tnum_Meet)) (h_bound_Tidy : SpecOk Try.prog 25 (mkS ps_bound_Tidy qs_bound_Tidy F_bound_Tidy)) : SpecOk Try.prog 40 (mkS ps_bound_Meet qs_bound_Meet (N_bound_Meet F_tnum_Meet F_bound_Tidy)) :=
  specOk_mk (fl := 10) (d := 12) (cfgOk_cons (cfgOk_cons base h_bound_Tidy) h_tnum_Meet) (by rintro R ⟨⟨x0Umin, x0Umax, x0Smin, x0Smax, ⟨x0Bits_Value, x0Bits_Mask⟩⟩, ⟨x1Umin, x1Umax, x1Smin, x1Smax, ⟨x1Bits_Value, x1Bits_Mask⟩⟩⟩ k; kernel_rfl)
noncomputable def F_bound_Meet : FT ps_bound_Meet qs_bound_Meet := N_bound_Meet F_tnum_Meet F_bound_Tidy 
theorem ok_bound_Meet : SpecOk Try.prog 40 (mkS ps_bound_Meet qs_bound_Meet F_bound_Meet) := S_bound_Meet ok_tnum_Meet ok_bound_Tidy
abbrev pa_branch_bits_1 : List PV := [(.ptr 4 0), (.agg [(.int .u64), (.int .u64), (.int .i64), (.int .i64), (.int .u64), (.int .u64)]), .bool]
abbrev ph_branch_bits_1 : List PB := [(.cells [(.int .u64), (.int .u64), (.int .i64), (.int .i64), (.int .u64), (.int .u64)]), (.cells [(.int .u64), (.int .u64), (.int .i64), (.int .i64), (.int .u64), (.int .u64)]), (.cells [(.int .u64), (.int .u64), (.int .i64), (.int .i64), (.int .u64), (.int .u64)]), (.cells [(.int .u64), (.int .u64), (.int .i64), (.int .i64), (.int .u64), (.int .u64)]), (.cells [(.int .u64), (.int .u64), (.int .i64), (.int .i64), (.int .u64), (.int .u64)]), (.cells [(.int .u64), (.int .u64), (.int .i64), (.int .i64), (.int .u64), (.int .u64)])]
abbrev pr_branch_bits_1 : PV := .bool
abbrev pz_branch_bits_1 : List PB := [(.cells [(.int .u64), (.int .u64), (.int .i64), (.int .i64), (.int .u64), (.int .u64)]), (.cells [(.int .u64), (.int .u64), (.int .i64), (.int .i64), (.int .u64), (.int .u64)]), (.cells [(.int .u64), (.int .u64), (.int .i64), (.int .i64), (.int .u64), (.int .u64)]), (.cells [(.int .u64), (.int .u64), (.int .i64), (.int .i64), (.int .u64), (.int .u64)]), (.cells [(.int .u64), (.int .u64), (.int .i64), (.int .i64), (.int .u64), (.int .u64)]), (.cells [(.int .u64), (.int .u64), (.int .i64), (.int .i64), (.int .u64), (.int .u64)])]
abbrev IT_branch_bits_1 : Type := (Int) × (Int) × (Int) × (Int) × (Int) × (Int) × (Bool) × (Int) × (Int) × (Int) × (Int) × (Int) × (Int) × (Int) × (Int) × (Int) × (Int) × (Int) × (Int) × (Int) × (Int) × (Int) × (Int) × (Int) × (Int) × (Int) × (Int) × (Int) × (Int) × (Int) × (Int) × (Int) × (Int) × (Int) × (Int) × (Int) × (Int) × (Int) × (Int) × (Int) × (Int) × (Int) × (Int) × Unit
abbrev OT_branch_bits_1 : Type := (Bool) × (Int) × (Int) × (Int) × (Int) × (Int) × (Int) × (Int) × (Int) × (Int) × (Int) × (Int) × (Int) × (Int) × (Int) × (Int) × (Int) × (Int) × (Int) × (Int) × (Int) × (Int) × (Int) × (Int) × (Int) × (Int) × (Int) × (Int) × (Int) × (Int) × (Int) × (Int) × (Int) × (Int) × (Int) × (Int) × (Int) × Unit
abbrev TE_branch_bits_1 : Type 1 := (R : Type) → IT_branch_bits_1 → (OT_branch_bits_1 → Option R) → Option R
noncomputable def N_branch_bits_1 (F_bound_Value : FT ps_bound_Value qs_bound_Value) (F_tnum_Meet : FT ps_tnum_Meet qs_tnum_Meet)  : TE_branch_bits_1 := fun R x k => match x with
  | (y0, y1, y2, y3, y4, y5, y6, y7, y8, y9, y10, y11, y12, y13, y14, y15, y16, y17, y18, y19, y20, y21, y22, y23, y24, y25, y26, y27, y28, y29, y30, y31, y32, y33, y34, y35, y36, y37, y38, y39, y40, y41, y42, ()) => 
      F_bound_Value R (y0, y1, y2, y3, y4, y5) fun y =>
        br (W.not y.2)
          (k
            (true, y7, y8, y9, y10, y11, y12, y13, y14, y15, y16, y17, y18, y19, y20, y21, y22, y23, y24, y25, y26, y27, y28, y29, y30, y31, y32, y33, y34, y35, y36, y37, y38, y39, y40, y41, y42,
              ()))
          (br (W.pick y6 (W.pick (W.eq y.1 0) true (W.ne (W.wrap IntKind.u64 (W.and IntKind.u64 y.1 (W.wrap IntKind.u64 (W.sub y.1 1)))) 0)) false)
            (k
              (true, y7, y8, y9, y10, y11, y12, y13, y14, y15, y16, y17, y18, y19, y20, y21, y22, y23, y24, y25, y26, y27, y28, y29, y30, y31, y32, y33, y34, y35, y36, y37, y38, y39, y40, y41, y42,
                ()))
            (br y6
              (F_tnum_Meet R ((y35, y36), y.1, W.wrap IntKind.u64 (W.xor IntKind.u64 18446744073709551615 y.1)) fun y =>
                k
                  (y.2, y7, y8, y9, y10, y11, y12, y13, y14, y15, y16, y17, y18, y19, y20, y21, y22, y23, y24, y25, y26, y27, y28, y29, y30, y31, y32, y33, y34, y.1.1, y.1.2, y37, y38, y39, y40, y41, y42,
                    ()))
              (F_tnum_Meet R ((y35, y36), 0, W.wrap IntKind.u64 (W.xor IntKind.u64 18446744073709551615 y.1)) fun y =>
                k
                  (y.2, y7, y8, y9, y10, y11, y12, y13, y14, y15, y16, y17, y18, y19, y20, y21, y22, y23, y24, y25, y26, y27, y28, y29, y30, y31, y32, y33, y34, y.1.1, y.1.2, y37, y38, y39, y40, y41, y42,
                    ()))))
theorem S_branch_bits_1 {F_bound_Value : FT ps_bound_Value qs_bound_Value} {F_tnum_Meet : FT ps_tnum_Meet qs_tnum_Meet} (h_bound_Value : SpecOk Try.prog 19 (mkS ps_bound_Value qs_bound_Value F_bound_Value)) (h_tnum_Meet : SpecOk Try.prog 39 (mkS ps_tnum_Meet qs_tnum_Meet F_tnum_Meet)) : ESpOk Try.prog 23 (mkE pa_branch_bits_1 ph_branch_bits_1 pr_branch_bits_1 pz_branch_bits_1 (N_branch_bits_1 F_bound_Value F_tnum_Meet)) :=
  espOk_mk (fl := 10) (d := 11) (cfgOk_cons (cfgOk_cons base h_tnum_Meet) h_bound_Value) esOk_nil (by rintro R ⟨y0, y1, y2, y3, y4, y5, y6, y7, y8, y9, y10, y11, y12, y13, y14, y15, y16, y17, y18, y19, y20, y21, y22, y23, y24, y25, y26, y27, y28, y29, y30, y31, y32, y33, y34, y35, y36, y37, y38, y39, y40, y41, y42, ⟨⟩⟩ k; kernel_rfl)
noncomputable def E_branch_bits_1 : TE_branch_bits_1 := N_branch_bits_1 F_bound_Value F_tnum_Meet 
theorem okE_branch_bits_1 : ESpOk Try.prog 23 (mkE pa_branch_bits_1 ph_branch_bits_1 pr_branch_bits_1 pz_branch_bits_1 E_branch_bits_1) := S_branch_bits_1 ok_bound_Value ok_tnum_Meet
abbrev pa_branch_apart_1 : List PV := [(.ptr 4 0), (.int .u64)]
abbrev ph_branch_apart_1 : List PB := [(.cells [(.int .u64), (.int .u64), (.int .i64), (.int .i64), (.int .u64), (.int .u64)]), (.cells [(.int .u64), (.int .u64), (.int .i64), (.int .i64), (.int .u64), (.int .u64)]), (.cells [(.int .u64), (.int .u64), (.int .i64), (.int .i64), (.int .u64), (.int .u64)]), (.cells [(.int .u64), (.int .u64), (.int .i64), (.int .i64), (.int .u64), (.int .u64)]), (.cells [(.int .u64), (.int .u64), (.int .i64), (.int .i64), (.int .u64), (.int .u64)]), (.cells [(.int .u64), (.int .u64), (.int .i64), (.int .i64), (.int .u64), (.int .u64)])]
abbrev pr_branch_apart_1 : PV := (.tup [])
abbrev pz_branch_apart_1 : List PB := [(.cells [(.int .u64), (.int .u64), (.int .i64), (.int .i64), (.int .u64), (.int .u64)]), (.cells [(.int .u64), (.int .u64), (.int .i64), (.int .i64), (.int .u64), (.int .u64)]), (.cells [(.int .u64), (.int .u64), (.int .i64), (.int .i64), (.int .u64), (.int .u64)]), (.cells [(.int .u64), (.int .u64), (.int .i64), (.int .i64), (.int .u64), (.int .u64)]), (.cells [(.int .u64), (.int .u64), (.int .i64), (.int .i64), (.int .u64), (.int .u64)]), (.cells [(.int .u64), (.int .u64), (.int .i64), (.int .i64), (.int .u64), (.int .u64)])]
abbrev IT_branch_apart_1 : Type := (Int) × (Int) × (Int) × (Int) × (Int) × (Int) × (Int) × (Int) × (Int) × (Int) × (Int) × (Int) × (Int) × (Int) × (Int) × (Int) × (Int) × (Int) × (Int) × (Int) × (Int) × (Int) × (Int) × (Int) × (Int) × (Int) × (Int) × (Int) × (Int) × (Int) × (Int) × (Int) × (Int) × (Int) × (Int) × (Int) × (Int) × Unit
abbrev OT_branch_apart_1 : Type := (Int) × (Int) × (Int) × (Int) × (Int) × (Int) × (Int) × (Int) × (Int) × (Int) × (Int) × (Int) × (Int) × (Int) × (Int) × (Int) × (Int) × (Int) × (Int) × (Int) × (Int) × (Int) × (Int) × (Int) × (Int) × (Int) × (Int) × (Int) × (Int) × (Int) × (Int) × (Int) × (Int) × (Int) × (Int) × (Int) × Unit
abbrev TE_branch_apart_1 : Type 1 := (R : Type) → IT_branch_apart_1 → (OT_branch_apart_1 → Option R) → Option R
noncomputable def N_branch_apart_1   : TE_branch_apart_1 := fun R x k => match x with
  | (y0, y1, y2, y3, y4, y5, y6, y7, y8, y9, y10, y11, y12, y13, y14, y15, y16, y17, y18, y19, y20, y21, y22, y23, y24, y25, y26, y27, y28, y29, y30, y31, y32, y33, y34, y35, y36, ()) => 
      br (W.pick (W.eq y25 y0) (W.lt y0 18446744073709551615) false)
        (br (W.pick (W.eq y26 y0) (W.gt y0 0) false)
          (br (W.pick (W.eq y27 (W.wrap IntKind.i64 y0)) (W.lt (W.wrap IntKind.i64 y0) 9223372036854775807) false)
            (br (W.pick (W.eq y28 (W.wrap IntKind.i64 y0)) (W.gt (W.wrap IntKind.i64 y0) (-9223372036854775808)) false)
              (k
                (y1, y2, y3, y4, y5, y6, y7, y8, y9, y10, y11, y12, y13, y14, y15, y16, y17, y18, y19, y20, y21, y22, y23, y24, W.wrap IntKind.u64 (W.add y25 1), W.wrap IntKind.u64 (W.sub y26 1),
                  W.wrap IntKind.i64 (W.add y27 1), W.wrap IntKind.i64 (W.sub y28 1), y29, y30, y31, y32, y33, y34, y35, y36, ()))
              (k
                (y1, y2, y3, y4, y5, y6, y7, y8, y9, y10, y11, y12, y13, y14, y15, y16, y17, y18, y19, y20, y21, y22, y23, y24, W.wrap IntKind.u64 (W.add y25 1), W.wrap IntKind.u64 (W.sub y26 1),
                  W.wrap IntKind.i64 (W.add y27 1), y28, y29, y30, y31, y32, y33, y34, y35, y36, ())))
            (br (W.pick (W.eq y28 (W.wrap IntKind.i64 y0)) (W.gt (W.wrap IntKind.i64 y0) (-9223372036854775808)) false)
              (k
                (y1, y2, y3, y4, y5, y6, y7, y8, y9, y10, y11, y12, y13, y14, y15, y16, y17, y18, y19, y20, y21, y22, y23, y24, W.wrap IntKind.u64 (W.add y25 1), W.wrap IntKind.u64 (W.sub y26 1), y27,
                  W.wrap IntKind.i64 (W.sub y28 1), y29, y30, y31, y32, y33, y34, y35, y36, ()))
              (k
                (y1, y2, y3, y4, y5, y6, y7, y8, y9, y10, y11, y12, y13, y14, y15, y16, y17, y18, y19, y20, y21, y22, y23, y24, W.wrap IntKind.u64 (W.add y25 1), W.wrap IntKind.u64 (W.sub y26 1), y27, y28,
                  y29, y30, y31, y32, y33, y34, y35, y36, ()))))
          (br (W.pick (W.eq y27 (W.wrap IntKind.i64 y0)) (W.lt (W.wrap IntKind.i64 y0) 9223372036854775807) false)
            (br (W.pick (W.eq y28 (W.wrap IntKind.i64 y0)) (W.gt (W.wrap IntKind.i64 y0) (-9223372036854775808)) false)
              (k
                (y1, y2, y3, y4, y5, y6, y7, y8, y9, y10, y11, y12, y13, y14, y15, y16, y17, y18, y19, y20, y21, y22, y23, y24, W.wrap IntKind.u64 (W.add y25 1), y26, W.wrap IntKind.i64 (W.add y27 1),
                  W.wrap IntKind.i64 (W.sub y28 1), y29, y30, y31, y32, y33, y34, y35, y36, ()))
              (k
                (y1, y2, y3, y4, y5, y6, y7, y8, y9, y10, y11, y12, y13, y14, y15, y16, y17, y18, y19, y20, y21, y22, y23, y24, W.wrap IntKind.u64 (W.add y25 1), y26, W.wrap IntKind.i64 (W.add y27 1), y28,
                  y29, y30, y31, y32, y33, y34, y35, y36, ())))
            (br (W.pick (W.eq y28 (W.wrap IntKind.i64 y0)) (W.gt (W.wrap IntKind.i64 y0) (-9223372036854775808)) false)
              (k
                (y1, y2, y3, y4, y5, y6, y7, y8, y9, y10, y11, y12, y13, y14, y15, y16, y17, y18, y19, y20, y21, y22, y23, y24, W.wrap IntKind.u64 (W.add y25 1), y26, y27, W.wrap IntKind.i64 (W.sub y28 1),
                  y29, y30, y31, y32, y33, y34, y35, y36, ()))
              (k
                (y1, y2, y3, y4, y5, y6, y7, y8, y9, y10, y11, y12, y13, y14, y15, y16, y17, y18, y19, y20, y21, y22, y23, y24, W.wrap IntKind.u64 (W.add y25 1), y26, y27, y28, y29, y30, y31, y32, y33, y34,
                  y35, y36, ())))))
        (br (W.pick (W.eq y26 y0) (W.gt y0 0) false)
          (br (W.pick (W.eq y27 (W.wrap IntKind.i64 y0)) (W.lt (W.wrap IntKind.i64 y0) 9223372036854775807) false)
            (br (W.pick (W.eq y28 (W.wrap IntKind.i64 y0)) (W.gt (W.wrap IntKind.i64 y0) (-9223372036854775808)) false)
              (k
                (y1, y2, y3, y4, y5, y6, y7, y8, y9, y10, y11, y12, y13, y14, y15, y16, y17, y18, y19, y20, y21, y22, y23, y24, y25, W.wrap IntKind.u64 (W.sub y26 1), W.wrap IntKind.i64 (W.add y27 1),
                  W.wrap IntKind.i64 (W.sub y28 1), y29, y30, y31, y32, y33, y34, y35, y36, ()))
              (k
                (y1, y2, y3, y4, y5, y6, y7, y8, y9, y10, y11, y12, y13, y14, y15, y16, y17, y18, y19, y20, y21, y22, y23, y24, y25, W.wrap IntKind.u64 (W.sub y26 1), W.wrap IntKind.i64 (W.add y27 1), y28,
                  y29, y30, y31, y32, y33, y34, y35, y36, ())))
            (br (W.pick (W.eq y28 (W.wrap IntKind.i64 y0)) (W.gt (W.wrap IntKind.i64 y0) (-9223372036854775808)) false)
              (k
                (y1, y2, y3, y4, y5, y6, y7, y8, y9, y10, y11, y12, y13, y14, y15, y16, y17, y18, y19, y20, y21, y22, y23, y24, y25, W.wrap IntKind.u64 (W.sub y26 1), y27, W.wrap IntKind.i64 (W.sub y28 1),
                  y29, y30, y31, y32, y33, y34, y35, y36, ()))
              (k
                (y1, y2, y3, y4, y5, y6, y7, y8, y9, y10, y11, y12, y13, y14, y15, y16, y17, y18, y19, y20, y21, y22, y23, y24, y25, W.wrap IntKind.u64 (W.sub y26 1), y27, y28, y29, y30, y31, y32, y33, y34,
                  y35, y36, ()))))
          (br (W.pick (W.eq y27 (W.wrap IntKind.i64 y0)) (W.lt (W.wrap IntKind.i64 y0) 9223372036854775807) false)
            (br (W.pick (W.eq y28 (W.wrap IntKind.i64 y0)) (W.gt (W.wrap IntKind.i64 y0) (-9223372036854775808)) false)
              (k
                (y1, y2, y3, y4, y5, y6, y7, y8, y9, y10, y11, y12, y13, y14, y15, y16, y17, y18, y19, y20, y21, y22, y23, y24, y25, y26, W.wrap IntKind.i64 (W.add y27 1), W.wrap IntKind.i64 (W.sub y28 1),
                  y29, y30, y31, y32, y33, y34, y35, y36, ()))
              (k
                (y1, y2, y3, y4, y5, y6, y7, y8, y9, y10, y11, y12, y13, y14, y15, y16, y17, y18, y19, y20, y21, y22, y23, y24, y25, y26, W.wrap IntKind.i64 (W.add y27 1), y28, y29, y30, y31, y32, y33, y34,
                  y35, y36, ())))
            (br (W.pick (W.eq y28 (W.wrap IntKind.i64 y0)) (W.gt (W.wrap IntKind.i64 y0) (-9223372036854775808)) false)
              (k
                (y1, y2, y3, y4, y5, y6, y7, y8, y9, y10, y11, y12, y13, y14, y15, y16, y17, y18, y19, y20, y21, y22, y23, y24, y25, y26, y27, W.wrap IntKind.i64 (W.sub y28 1), y29, y30, y31, y32, y33, y34,
                  y35, y36, ()))
              (k (y1, y2, y3, y4, y5, y6, y7, y8, y9, y10, y11, y12, y13, y14, y15, y16, y17, y18, y19, y20, y21, y22, y23, y24, y25, y26, y27, y28, y29, y30, y31, y32, y33, y34, y35, y36, ())))))
theorem S_branch_apart_1   : ESpOk Try.prog 41 (mkE pa_branch_apart_1 ph_branch_apart_1 pr_branch_apart_1 pz_branch_apart_1 (N_branch_apart_1 )) :=
  espOk_mk (fl := 10) (d := 11) base esOk_nil (by rintro R ⟨y0, y1, y2, y3, y4, y5, y6, y7, y8, y9, y10, y11, y12, y13, y14, y15, y16, y17, y18, y19, y20, y21, y22, y23, y24, y25, y26, y27, y28, y29, y30, y31, y32, y33, y34, y35, y36, ⟨⟩⟩ k; kernel_rfl)
noncomputable def E_branch_apart_1 : TE_branch_apart_1 := N_branch_apart_1  
theorem okE_branch_apart_1 : ESpOk Try.prog 41 (mkE pa_branch_apart_1 ph_branch_apart_1 pr_branch_apart_1 pz_branch_apart_1 E_branch_apart_1) := S_branch_apart_1 
abbrev pa_branch_apart_2 : List PV := [(.ptr 5 0), (.int .u64)]
abbrev ph_branch_apart_2 : List PB := [(.cells [(.int .u64), (.int .u64), (.int .i64), (.int .i64), (.int .u64), (.int .u64)]), (.cells [(.int .u64), (.int .u64), (.int .i64), (.int .i64), (.int .u64), (.int .u64)]), (.cells [(.int .u64), (.int .u64), (.int .i64), (.int .i64), (.int .u64), (.int .u64)]), (.cells [(.int .u64), (.int .u64), (.int .i64), (.int .i64), (.int .u64), (.int .u64)]), (.cells [(.int .u64), (.int .u64), (.int .i64), (.int .i64), (.int .u64), (.int .u64)]), (.cells [(.int .u64), (.int .u64), (.int .i64), (.int .i64), (.int .u64), (.int .u64)])]
abbrev pr_branch_apart_2 : PV := (.tup [])
abbrev pz_branch_apart_2 : List PB := [(.cells [(.int .u64), (.int .u64), (.int .i64), (.int .i64), (.int .u64), (.int .u64)]), (.cells [(.int .u64), (.int .u64), (.int .i64), (.int .i64), (.int .u64), (.int .u64)]), (.cells [(.int .u64), (.int .u64), (.int .i64), (.int .i64), (.int .u64), (.int .u64)]), (.cells [(.int .u64), (.int .u64), (.int .i64), (.int .i64), (.int .u64), (.int .u64)]), (.cells [(.int .u64), (.int .u64), (.int .i64), (.int .i64), (.int .u64), (.int .u64)]), (.cells [(.int .u64), (.int .u64), (.int .i64), (.int .i64), (.int .u64), (.int .u64)])]
abbrev IT_branch_apart_2 : Type := (Int) × (Int) × (Int) × (Int) × (Int) × (Int) × (Int) × (Int) × (Int) × (Int) × (Int) × (Int) × (Int) × (Int) × (Int) × (Int) × (Int) × (Int) × (Int) × (Int) × (Int) × (Int) × (Int) × (Int) × (Int) × (Int) × (Int) × (Int) × (Int) × (Int) × (Int) × (Int) × (Int) × (Int) × (Int) × (Int) × (Int) × Unit
abbrev OT_branch_apart_2 : Type := (Int) × (Int) × (Int) × (Int) × (Int) × (Int) × (Int) × (Int) × (Int) × (Int) × (Int) × (Int) × (Int) × (Int) × (Int) × (Int) × (Int) × (Int) × (Int) × (Int) × (Int) × (Int) × (Int) × (Int) × (Int) × (Int) × (Int) × (Int) × (Int) × (Int) × (Int) × (Int) × (Int) × (Int) × (Int) × (Int) × Unit
abbrev TE_branch_apart_2 : Type 1 := (R : Type) → IT_branch_apart_2 → (OT_branch_apart_2 → Option R) → Option R
noncomputable def N_branch_apart_2   : TE_branch_apart_2 := fun R x k => match x with
  | (y0, y1, y2, y3, y4, y5, y6, y7, y8, y9, y10, y11, y12, y13, y14, y15, y16, y17, y18, y19, y20, y21, y22, y23, y24, y25, y26, y27, y28, y29, y30, y31, y32, y33, y34, y35, y36, ()) => 
      br (W.pick (W.eq y31 y0) (W.lt y0 18446744073709551615) false)
        (br (W.pick (W.eq y32 y0) (W.gt y0 0) false)
          (br (W.pick (W.eq y33 (W.wrap IntKind.i64 y0)) (W.lt (W.wrap IntKind.i64 y0) 9223372036854775807) false)
            (br (W.pick (W.eq y34 (W.wrap IntKind.i64 y0)) (W.gt (W.wrap IntKind.i64 y0) (-9223372036854775808)) false)
              (k
                (y1, y2, y3, y4, y5, y6, y7, y8, y9, y10, y11, y12, y13, y14, y15, y16, y17, y18, y19, y20, y21, y22, y23, y24, y25, y26, y27, y28, y29, y30, W.wrap IntKind.u64 (W.add y31 1),
                  W.wrap IntKind.u64 (W.sub y32 1), W.wrap IntKind.i64 (W.add y33 1), W.wrap IntKind.i64 (W.sub y34 1), y35, y36, ()))
              (k
                (y1, y2, y3, y4, y5, y6, y7, y8, y9, y10, y11, y12, y13, y14, y15, y16, y17, y18, y19, y20, y21, y22, y23, y24, y25, y26, y27, y28, y29, y30, W.wrap IntKind.u64 (W.add y31 1),
                  W.wrap IntKind.u64 (W.sub y32 1), W.wrap IntKind.i64 (W.add y33 1), y34, y35, y36, ())))
            (br (W.pick (W.eq y34 (W.wrap IntKind.i64 y0)) (W.gt (W.wrap IntKind.i64 y0) (-9223372036854775808)) false)
              (k
                (y1, y2, y3, y4, y5, y6, y7, y8, y9, y10, y11, y12, y13, y14, y15, y16, y17, y18, y19, y20, y21, y22, y23, y24, y25, y26, y27, y28, y29, y30, W.wrap IntKind.u64 (W.add y31 1),
                  W.wrap IntKind.u64 (W.sub y32 1), y33, W.wrap IntKind.i64 (W.sub y34 1), y35, y36, ()))
              (k
                (y1, y2, y3, y4, y5, y6, y7, y8, y9, y10, y11, y12, y13, y14, y15, y16, y17, y18, y19, y20, y21, y22, y23, y24, y25, y26, y27, y28, y29, y30, W.wrap IntKind.u64 (W.add y31 1),
                  W.wrap IntKind.u64 (W.sub y32 1), y33, y34, y35, y36, ()))))
          (br (W.pick (W.eq y33 (W.wrap IntKind.i64 y0)) (W.lt (W.wrap IntKind.i64 y0) 9223372036854775807) false)
            (br (W.pick (W.eq y34 (W.wrap IntKind.i64 y0)) (W.gt (W.wrap IntKind.i64 y0) (-9223372036854775808)) false)
              (k
                (y1, y2, y3, y4, y5, y6, y7, y8, y9, y10, y11, y12, y13, y14, y15, y16, y17, y18, y19, y20, y21, y22, y23, y24, y25, y26, y27, y28, y29, y30, W.wrap IntKind.u64 (W.add y31 1), y32,
                  W.wrap IntKind.i64 (W.add y33 1), W.wrap IntKind.i64 (W.sub y34 1), y35, y36, ()))
              (k
                (y1, y2, y3, y4, y5, y6, y7, y8, y9, y10, y11, y12, y13, y14, y15, y16, y17, y18, y19, y20, y21, y22, y23, y24, y25, y26, y27, y28, y29, y30, W.wrap IntKind.u64 (W.add y31 1), y32,
                  W.wrap IntKind.i64 (W.add y33 1), y34, y35, y36, ())))
            (br (W.pick (W.eq y34 (W.wrap IntKind.i64 y0)) (W.gt (W.wrap IntKind.i64 y0) (-9223372036854775808)) false)
              (k
                (y1, y2, y3, y4, y5, y6, y7, y8, y9, y10, y11, y12, y13, y14, y15, y16, y17, y18, y19, y20, y21, y22, y23, y24, y25, y26, y27, y28, y29, y30, W.wrap IntKind.u64 (W.add y31 1), y32, y33,
                  W.wrap IntKind.i64 (W.sub y34 1), y35, y36, ()))
              (k
                (y1, y2, y3, y4, y5, y6, y7, y8, y9, y10, y11, y12, y13, y14, y15, y16, y17, y18, y19, y20, y21, y22, y23, y24, y25, y26, y27, y28, y29, y30, W.wrap IntKind.u64 (W.add y31 1), y32, y33, y34,
                  y35, y36, ())))))
        (br (W.pick (W.eq y32 y0) (W.gt y0 0) false)
          (br (W.pick (W.eq y33 (W.wrap IntKind.i64 y0)) (W.lt (W.wrap IntKind.i64 y0) 9223372036854775807) false)
            (br (W.pick (W.eq y34 (W.wrap IntKind.i64 y0)) (W.gt (W.wrap IntKind.i64 y0) (-9223372036854775808)) false)
              (k
                (y1, y2, y3, y4, y5, y6, y7, y8, y9, y10, y11, y12, y13, y14, y15, y16, y17, y18, y19, y20, y21, y22, y23, y24, y25, y26, y27, y28, y29, y30, y31, W.wrap IntKind.u64 (W.sub y32 1),
                  W.wrap IntKind.i64 (W.add y33 1), W.wrap IntKind.i64 (W.sub y34 1), y35, y36, ()))
              (k
                (y1, y2, y3, y4, y5, y6, y7, y8, y9, y10, y11, y12, y13, y14, y15, y16, y17, y18, y19, y20, y21, y22, y23, y24, y25, y26, y27, y28, y29, y30, y31, W.wrap IntKind.u64 (W.sub y32 1),
                  W.wrap IntKind.i64 (W.add y33 1), y34, y35, y36, ())))
            (br (W.pick (W.eq y34 (W.wrap IntKind.i64 y0)) (W.gt (W.wrap IntKind.i64 y0) (-9223372036854775808)) false)
              (k
                (y1, y2, y3, y4, y5, y6, y7, y8, y9, y10, y11, y12, y13, y14, y15, y16, y17, y18, y19, y20, y21, y22, y23, y24, y25, y26, y27, y28, y29, y30, y31, W.wrap IntKind.u64 (W.sub y32 1), y33,
                  W.wrap IntKind.i64 (W.sub y34 1), y35, y36, ()))
              (k
                (y1, y2, y3, y4, y5, y6, y7, y8, y9, y10, y11, y12, y13, y14, y15, y16, y17, y18, y19, y20, y21, y22, y23, y24, y25, y26, y27, y28, y29, y30, y31, W.wrap IntKind.u64 (W.sub y32 1), y33, y34,
                  y35, y36, ()))))
          (br (W.pick (W.eq y33 (W.wrap IntKind.i64 y0)) (W.lt (W.wrap IntKind.i64 y0) 9223372036854775807) false)
            (br (W.pick (W.eq y34 (W.wrap IntKind.i64 y0)) (W.gt (W.wrap IntKind.i64 y0) (-9223372036854775808)) false)
              (k
                (y1, y2, y3, y4, y5, y6, y7, y8, y9, y10, y11, y12, y13, y14, y15, y16, y17, y18, y19, y20, y21, y22, y23, y24, y25, y26, y27, y28, y29, y30, y31, y32, W.wrap IntKind.i64 (W.add y33 1),
                  W.wrap IntKind.i64 (W.sub y34 1), y35, y36, ()))
              (k
                (y1, y2, y3, y4, y5, y6, y7, y8, y9, y10, y11, y12, y13, y14, y15, y16, y17, y18, y19, y20, y21, y22, y23, y24, y25, y26, y27, y28, y29, y30, y31, y32, W.wrap IntKind.i64 (W.add y33 1), y34,
                  y35, y36, ())))
            (br (W.pick (W.eq y34 (W.wrap IntKind.i64 y0)) (W.gt (W.wrap IntKind.i64 y0) (-9223372036854775808)) false)
              (k
                (y1, y2, y3, y4, y5, y6, y7, y8, y9, y10, y11, y12, y13, y14, y15, y16, y17, y18, y19, y20, y21, y22, y23, y24, y25, y26, y27, y28, y29, y30, y31, y32, y33, W.wrap IntKind.i64 (W.sub y34 1),
                  y35, y36, ()))
              (k (y1, y2, y3, y4, y5, y6, y7, y8, y9, y10, y11, y12, y13, y14, y15, y16, y17, y18, y19, y20, y21, y22, y23, y24, y25, y26, y27, y28, y29, y30, y31, y32, y33, y34, y35, y36, ())))))
theorem S_branch_apart_2   : ESpOk Try.prog 41 (mkE pa_branch_apart_2 ph_branch_apart_2 pr_branch_apart_2 pz_branch_apart_2 (N_branch_apart_2 )) :=
  espOk_mk (fl := 10) (d := 11) base esOk_nil (by rintro R ⟨y0, y1, y2, y3, y4, y5, y6, y7, y8, y9, y10, y11, y12, y13, y14, y15, y16, y17, y18, y19, y20, y21, y22, y23, y24, y25, y26, y27, y28, y29, y30, y31, y32, y33, y34, y35, y36, ⟨⟩⟩ k; kernel_rfl)
noncomputable def E_branch_apart_2 : TE_branch_apart_2 := N_branch_apart_2  
theorem okE_branch_apart_2 : ESpOk Try.prog 41 (mkE pa_branch_apart_2 ph_branch_apart_2 pr_branch_apart_2 pz_branch_apart_2 E_branch_apart_2) := S_branch_apart_2 
abbrev pa_branch_hold_1 : List PV := [(.int .i64), (.ptr 4 0), (.ptr 5 0)]
abbrev ph_branch_hold_1 : List PB := [(.cells [(.int .u64), (.int .u64), (.int .i64), (.int .i64), (.int .u64), (.int .u64)]), (.cells [(.int .u64), (.int .u64), (.int .i64), (.int .i64), (.int .u64), (.int .u64)]), (.cells [(.int .u64), (.int .u64), (.int .i64), (.int .i64), (.int .u64), (.int .u64)]), (.cells [(.int .u64), (.int .u64), (.int .i64), (.int .i64), (.int .u64), (.int .u64)]), (.cells [(.int .u64), (.int .u64), (.int .i64), (.int .i64), (.int .u64), (.int .u64)]), (.cells [(.int .u64), (.int .u64), (.int .i64), (.int .i64), (.int .u64), (.int .u64)])]
abbrev pr_branch_hold_1 : PV := .bool
abbrev pz_branch_hold_1 : List PB := [(.cells [(.int .u64), (.int .u64), (.int .i64), (.int .i64), (.int .u64), (.int .u64)]), (.cells [(.int .u64), (.int .u64), (.int .i64), (.int .i64), (.int .u64), (.int .u64)]), (.cells [(.int .u64), (.int .u64), (.int .i64), (.int .i64), (.int .u64), (.int .u64)]), (.cells [(.int .u64), (.int .u64), (.int .i64), (.int .i64), (.int .u64), (.int .u64)]), (.cells [(.int .u64), (.int .u64), (.int .i64), (.int .i64), (.int .u64), (.int .u64)]), (.cells [(.int .u64), (.int .u64), (.int .i64), (.int .i64), (.int .u64), (.int .u64)])]
abbrev IT_branch_hold_1 : Type := (Int) × (Int) × (Int) × (Int) × (Int) × (Int) × (Int) × (Int) × (Int) × (Int) × (Int) × (Int) × (Int) × (Int) × (Int) × (Int) × (Int) × (Int) × (Int) × (Int) × (Int) × (Int) × (Int) × (Int) × (Int) × (Int) × (Int) × (Int) × (Int) × (Int) × (Int) × (Int) × (Int) × (Int) × (Int) × (Int) × (Int) × Unit
abbrev OT_branch_hold_1 : Type := (Bool) × (Int) × (Int) × (Int) × (Int) × (Int) × (Int) × (Int) × (Int) × (Int) × (Int) × (Int) × (Int) × (Int) × (Int) × (Int) × (Int) × (Int) × (Int) × (Int) × (Int) × (Int) × (Int) × (Int) × (Int) × (Int) × (Int) × (Int) × (Int) × (Int) × (Int) × (Int) × (Int) × (Int) × (Int) × (Int) × (Int) × Unit
abbrev TE_branch_hold_1 : Type 1 := (R : Type) → IT_branch_hold_1 → (OT_branch_hold_1 → Option R) → Option R
noncomputable def N_branch_hold_1 (F_bound_Value : FT ps_bound_Value qs_bound_Value) (F_bound_Meet : FT ps_bound_Meet qs_bound_Meet) (E_branch_apart_1 : TE_branch_apart_1) (E_branch_apart_2 : TE_branch_apart_2)  : TE_branch_hold_1 := fun R x k => match x with
  | (y0, y1, y2, y3, y4, y5, y6, y7, y8, y9, y10, y11, y12, y13, y14, y15, y16, y17, y18, y19, y20, y21, y22, y23, y24, y25, y26, y27, y28, y29, y30, y31, y32, y33, y34, y35, y36, ()) => 
      br (W.eq y0 16)
        (F_bound_Meet R ((y25, y26, y27, y28, y29, y30), y31, y32, y33, y34, y35, y36) fun y =>
          k
            (y.2, y1, y2, y3, y4, y5, y6, y7, y8, y9, y10, y11, y12, y13, y14, y15, y16, y17, y18, y19, y20, y21, y22, y23, y24, y.1.1, y.1.2.1, y.1.2.2.1, y.1.2.2.2.1, y.1.2.2.2.2.1, y.1.2.2.2.2.2, y.1.1,
              y.1.2.1, y.1.2.2.1, y.1.2.2.2.1, y.1.2.2.2.2.1, y.1.2.2.2.2.2, ()))
        (br (W.eq y0 80)
          (F_bound_Value R (y25, y26, y27, y28, y29, y30) fun y =>
            F_bound_Value R (y31, y32, y33, y34, y35, y36) fun y_1 =>
              br y_1.2
                (E_branch_apart_1 R
                  (y_1.1, y1, y2, y3, y4, y5, y6, y7, y8, y9, y10, y11, y12, y13, y14, y15, y16, y17, y18, y19, y20, y21, y22, y23, y24, y25, y26, y27, y28, y29, y30, y31, y32, y33, y34, y35, y36,
                    ())
                  fun z =>
                  br y.2
                    (E_branch_apart_2 R
                      (y.1, z.1, z.2.1, z.2.2.1, z.2.2.2.1, z.2.2.2.2.1, z.2.2.2.2.2.1, z.2.2.2.2.2.2.1, z.2.2.2.2.2.2.2.1, z.2.2.2.2.2.2.2.2.1, z.2.2.2.2.2.2.2.2.2.1, z.2.2.2.2.2.2.2.2.2.2.1,
                        z.2.2.2.2.2.2.2.2.2.2.2.1, z.2.2.2.2.2.2.2.2.2.2.2.2.1, z.2.2.2.2.2.2.2.2.2.2.2.2.2.1, z.2.2.2.2.2.2.2.2.2.2.2.2.2.2.1, z.2.2.2.2.2.2.2.2.2.2.2.2.2.2.2.1,
                        z.2.2.2.2.2.2.2.2.2.2.2.2.2.2.2.2.1, z.2.2.2.2.2.2.2.2.2.2.2.2.2.2.2.2.2.1, z.2.2.2.2.2.2.2.2.2.2.2.2.2.2.2.2.2.2.1, z.2.2.2.2.2.2.2.2.2.2.2.2.2.2.2.2.2.2.2.1,
                        z.2.2.2.2.2.2.2.2.2.2.2.2.2.2.2.2.2.2.2.2.1, z.2.2.2.2.2.2.2.2.2.2.2.2.2.2.2.2.2.2.2.2.2.1, z.2.2.2.2.2.2.2.2.2.2.2.2.2.2.2.2.2.2.2.2.2.2.1,
                        z.2.2.2.2.2.2.2.2.2.2.2.2.2.2.2.2.2.2.2.2.2.2.2.1, z.2.2.2.2.2.2.2.2.2.2.2.2.2.2.2.2.2.2.2.2.2.2.2.2.1, z.2.2.2.2.2.2.2.2.2.2.2.2.2.2.2.2.2.2.2.2.2.2.2.2.2.1,
                        z.2.2.2.2.2.2.2.2.2.2.2.2.2.2.2.2.2.2.2.2.2.2.2.2.2.2.1, z.2.2.2.2.2.2.2.2.2.2.2.2.2.2.2.2.2.2.2.2.2.2.2.2.2.2.2.1, z.2.2.2.2.2.2.2.2.2.2.2.2.2.2.2.2.2.2.2.2.2.2.2.2.2.2.2.2.1,
                        z.2.2.2.2.2.2.2.2.2.2.2.2.2.2.2.2.2.2.2.2.2.2.2.2.2.2.2.2.2.1, z.2.2.2.2.2.2.2.2.2.2.2.2.2.2.2.2.2.2.2.2.2.2.2.2.2.2.2.2.2.2.1,
                        z.2.2.2.2.2.2.2.2.2.2.2.2.2.2.2.2.2.2.2.2.2.2.2.2.2.2.2.2.2.2.2.1, z.2.2.2.2.2.2.2.2.2.2.2.2.2.2.2.2.2.2.2.2.2.2.2.2.2.2.2.2.2.2.2.2.1,
                        z.2.2.2.2.2.2.2.2.2.2.2.2.2.2.2.2.2.2.2.2.2.2.2.2.2.2.2.2.2.2.2.2.2.1, z.2.2.2.2.2.2.2.2.2.2.2.2.2.2.2.2.2.2.2.2.2.2.2.2.2.2.2.2.2.2.2.2.2.2.1,
                        z.2.2.2.2.2.2.2.2.2.2.2.2.2.2.2.2.2.2.2.2.2.2.2.2.2.2.2.2.2.2.2.2.2.2.2.1, ())
                      fun z =>
                      k
                        (true, z.1, z.2.1, z.2.2.1, z.2.2.2.1, z.2.2.2.2.1, z.2.2.2.2.2.1, z.2.2.2.2.2.2.1, z.2.2.2.2.2.2.2.1, z.2.2.2.2.2.2.2.2.1, z.2.2.2.2.2.2.2.2.2.1, z.2.2.2.2.2.2.2.2.2.2.1,
                          z.2.2.2.2.2.2.2.2.2.2.2.1, z.2.2.2.2.2.2.2.2.2.2.2.2.1, z.2.2.2.2.2.2.2.2.2.2.2.2.2.1, z.2.2.2.2.2.2.2.2.2.2.2.2.2.2.1, z.2.2.2.2.2.2.2.2.2.2.2.2.2.2.2.1,
                          z.2.2.2.2.2.2.2.2.2.2.2.2.2.2.2.2.1, z.2.2.2.2.2.2.2.2.2.2.2.2.2.2.2.2.2.1, z.2.2.2.2.2.2.2.2.2.2.2.2.2.2.2.2.2.2.1, z.2.2.2.2.2.2.2.2.2.2.2.2.2.2.2.2.2.2.2.1,
                          z.2.2.2.2.2.2.2.2.2.2.2.2.2.2.2.2.2.2.2.2.1, z.2.2.2.2.2.2.2.2.2.2.2.2.2.2.2.2.2.2.2.2.2.1, z.2.2.2.2.2.2.2.2.2.2.2.2.2.2.2.2.2.2.2.2.2.2.1,
                          z.2.2.2.2.2.2.2.2.2.2.2.2.2.2.2.2.2.2.2.2.2.2.2.1, z.2.2.2.2.2.2.2.2.2.2.2.2.2.2.2.2.2.2.2.2.2.2.2.2.1, z.2.2.2.2.2.2.2.2.2.2.2.2.2.2.2.2.2.2.2.2.2.2.2.2.2.1,
                          z.2.2.2.2.2.2.2.2.2.2.2.2.2.2.2.2.2.2.2.2.2.2.2.2.2.2.1, z.2.2.2.2.2.2.2.2.2.2.2.2.2.2.2.2.2.2.2.2.2.2.2.2.2.2.2.1, z.2.2.2.2.2.2.2.2.2.2.2.2.2.2.2.2.2.2.2.2.2.2.2.2.2.2.2.2.1,
                          z.2.2.2.2.2.2.2.2.2.2.2.2.2.2.2.2.2.2.2.2.2.2.2.2.2.2.2.2.2.1, z.2.2.2.2.2.2.2.2.2.2.2.2.2.2.2.2.2.2.2.2.2.2.2.2.2.2.2.2.2.2.1,
                          z.2.2.2.2.2.2.2.2.2.2.2.2.2.2.2.2.2.2.2.2.2.2.2.2.2.2.2.2.2.2.2.1, z.2.2.2.2.2.2.2.2.2.2.2.2.2.2.2.2.2.2.2.2.2.2.2.2.2.2.2.2.2.2.2.2.1,
                          z.2.2.2.2.2.2.2.2.2.2.2.2.2.2.2.2.2.2.2.2.2.2.2.2.2.2.2.2.2.2.2.2.2.1, z.2.2.2.2.2.2.2.2.2.2.2.2.2.2.2.2.2.2.2.2.2.2.2.2.2.2.2.2.2.2.2.2.2.2.1,
                          z.2.2.2.2.2.2.2.2.2.2.2.2.2.2.2.2.2.2.2.2.2.2.2.2.2.2.2.2.2.2.2.2.2.2.2.1, ()))
                    (k
                      (true, z.1, z.2.1, z.2.2.1, z.2.2.2.1, z.2.2.2.2.1, z.2.2.2.2.2.1, z.2.2.2.2.2.2.1, z.2.2.2.2.2.2.2.1, z.2.2.2.2.2.2.2.2.1, z.2.2.2.2.2.2.2.2.2.1, z.2.2.2.2.2.2.2.2.2.2.1,
                        z.2.2.2.2.2.2.2.2.2.2.2.1, z.2.2.2.2.2.2.2.2.2.2.2.2.1, z.2.2.2.2.2.2.2.2.2.2.2.2.2.1, z.2.2.2.2.2.2.2.2.2.2.2.2.2.2.1, z.2.2.2.2.2.2.2.2.2.2.2.2.2.2.2.1,
                        z.2.2.2.2.2.2.2.2.2.2.2.2.2.2.2.2.1, z.2.2.2.2.2.2.2.2.2.2.2.2.2.2.2.2.2.1, z.2.2.2.2.2.2.2.2.2.2.2.2.2.2.2.2.2.2.1, z.2.2.2.2.2.2.2.2.2.2.2.2.2.2.2.2.2.2.2.1,
                        z.2.2.2.2.2.2.2.2.2.2.2.2.2.2.2.2.2.2.2.2.1, z.2.2.2.2.2.2.2.2.2.2.2.2.2.2.2.2.2.2.2.2.2.1, z.2.2.2.2.2.2.2.2.2.2.2.2.2.2.2.2.2.2.2.2.2.2.1,
                        z.2.2.2.2.2.2.2.2.2.2.2.2.2.2.2.2.2.2.2.2.2.2.2.1, z.2.2.2.2.2.2.2.2.2.2.2.2.2.2.2.2.2.2.2.2.2.2.2.2.1, z.2.2.2.2.2.2.2.2.2.2.2.2.2.2.2.2.2.2.2.2.2.2.2.2.2.1,
                        z.2.2.2.2.2.2.2.2.2.2.2.2.2.2.2.2.2.2.2.2.2.2.2.2.2.2.1, z.2.2.2.2.2.2.2.2.2.2.2.2.2.2.2.2.2.2.2.2.2.2.2.2.2.2.2.1, z.2.2.2.2.2.2.2.2.2.2.2.2.2.2.2.2.2.2.2.2.2.2.2.2.2.2.2.2.1,
                        z.2.2.2.2.2.2.2.2.2.2.2.2.2.2.2.2.2.2.2.2.2.2.2.2.2.2.2.2.2.1, z.2.2.2.2.2.2.2.2.2.2.2.2.2.2.2.2.2.2.2.2.2.2.2.2.2.2.2.2.2.2.1,
                        z.2.2.2.2.2.2.2.2.2.2.2.2.2.2.2.2.2.2.2.2.2.2.2.2.2.2.2.2.2.2.2.1, z.2.2.2.2.2.2.2.2.2.2.2.2.2.2.2.2.2.2.2.2.2.2.2.2.2.2.2.2.2.2.2.2.1,
                        z.2.2.2.2.2.2.2.2.2.2.2.2.2.2.2.2.2.2.2.2.2.2.2.2.2.2.2.2.2.2.2.2.2.1, z.2.2.2.2.2.2.2.2.2.2.2.2.2.2.2.2.2.2.2.2.2.2.2.2.2.2.2.2.2.2.2.2.2.2.1,
                        z.2.2.2.2.2.2.2.2.2.2.2.2.2.2.2.2.2.2.2.2.2.2.2.2.2.2.2.2.2.2.2.2.2.2.2.1, ())))
                (br y.2
                  (E_branch_apart_2 R
                    (y.1, y1, y2, y3, y4, y5, y6, y7, y8, y9, y10, y11, y12, y13, y14, y15, y16, y17, y18, y19, y20, y21, y22, y23, y24, y25, y26, y27, y28, y29, y30, y31, y32, y33, y34, y35, y36,
                      ())
                    fun z =>
                    k
                      (true, z.1, z.2.1, z.2.2.1, z.2.2.2.1, z.2.2.2.2.1, z.2.2.2.2.2.1, z.2.2.2.2.2.2.1, z.2.2.2.2.2.2.2.1, z.2.2.2.2.2.2.2.2.1, z.2.2.2.2.2.2.2.2.2.1, z.2.2.2.2.2.2.2.2.2.2.1,
                        z.2.2.2.2.2.2.2.2.2.2.2.1, z.2.2.2.2.2.2.2.2.2.2.2.2.1, z.2.2.2.2.2.2.2.2.2.2.2.2.2.1, z.2.2.2.2.2.2.2.2.2.2.2.2.2.2.1, z.2.2.2.2.2.2.2.2.2.2.2.2.2.2.2.1,
                        z.2.2.2.2.2.2.2.2.2.2.2.2.2.2.2.2.1, z.2.2.2.2.2.2.2.2.2.2.2.2.2.2.2.2.2.1, z.2.2.2.2.2.2.2.2.2.2.2.2.2.2.2.2.2.2.1, z.2.2.2.2.2.2.2.2.2.2.2.2.2.2.2.2.2.2.2.1,
                        z.2.2.2.2.2.2.2.2.2.2.2.2.2.2.2.2.2.2.2.2.1, z.2.2.2.2.2.2.2.2.2.2.2.2.2.2.2.2.2.2.2.2.2.1, z.2.2.2.2.2.2.2.2.2.2.2.2.2.2.2.2.2.2.2.2.2.2.1,
                        z.2.2.2.2.2.2.2.2.2.2.2.2.2.2.2.2.2.2.2.2.2.2.2.1, z.2.2.2.2.2.2.2.2.2.2.2.2.2.2.2.2.2.2.2.2.2.2.2.2.1, z.2.2.2.2.2.2.2.2.2.2.2.2.2.2.2.2.2.2.2.2.2.2.2.2.2.1,
                        z.2.2.2.2.2.2.2.2.2.2.2.2.2.2.2.2.2.2.2.2.2.2.2.2.2.2.1, z.2.2.2.2.2.2.2.2.2.2.2.2.2.2.2.2.2.2.2.2.2.2.2.2.2.2.2.1, z.2.2.2.2.2.2.2.2.2.2.2.2.2.2.2.2.2.2.2.2.2.2.2.2.2.2.2.2.1,
                        z.2.2.2.2.2.2.2.2.2.2.2.2.2.2.2.2.2.2.2.2.2.2.2.2.2.2.2.2.2.1, z.2.2.2.2.2.2.2.2.2.2.2.2.2.2.2.2.2.2.2.2.2.2.2.2.2.2.2.2.2.2.1,
                        z.2.2.2.2.2.2.2.2.2.2.2.2.2.2.2.2.2.2.2.2.2.2.2.2.2.2.2.2.2.2.2.1, z.2.2.2.2.2.2.2.2.2.2.2.2.2.2.2.2.2.2.2.2.2.2.2.2.2.2.2.2.2.2.2.2.1,
                        z.2.2.2.2.2.2.2.2.2.2.2.2.2.2.2.2.2.2.2.2.2.2.2.2.2.2.2.2.2.2.2.2.2.1, z.2.2.2.2.2.2.2.2.2.2.2.2.2.2.2.2.2.2.2.2.2.2.2.2.2.2.2.2.2.2.2.2.2.2.1,
                        z.2.2.2.2.2.2.2.2.2.2.2.2.2.2.2.2.2.2.2.2.2.2.2.2.2.2.2.2.2.2.2.2.2.2.2.1, ()))
                  (k
                    (true, y1, y2, y3, y4, y5, y6, y7, y8, y9, y10, y11, y12, y13, y14, y15, y16, y17, y18, y19, y20, y21, y22, y23, y24, y25, y26, y27, y28, y29, y30, y31, y32, y33, y34, y35, y36,
                      ()))))
          (br (W.eq y0 32)
            (br (W.eq y0 32)
              (br (W.eq y0 32)
                (br (W.pick (W.eq y26 0) true (W.eq y31 18446744073709551615))
                  (k
                    (false, y1, y2, y3, y4, y5, y6, y7, y8, y9, y10, y11, y12, y13, y14, y15, y16, y17, y18, y19, y20, y21, y22, y23, y24, y25, y26, y27, y28, y29, y30, y31, y32, y33, y34, y35, y36,
                      ()))
                  (k
                    (true, y1, y2, y3, y4, y5, y6, y7, y8, y9, y10, y11, y12, y13, y14, y15, y16, y17, y18, y19, y20, y21, y22, y23, y24, W.max y25 (W.wrap IntKind.u64 (W.add y31 1)), y26, y27, y28, y29,
                      y30, y31, W.min y32 (W.wrap IntKind.u64 (W.sub y26 1)), y33, y34, y35, y36, ())))
                (k
                  (true, y1, y2, y3, y4, y5, y6, y7, y8, y9, y10, y11, y12, y13, y14, y15, y16, y17, y18, y19, y20, y21, y22, y23, y24, W.max y25 y31, y26, y27, y28, y29, y30, y31, W.min y32 y26, y33, y34,
                    y35, y36, ())))
              (br (W.eq y0 160)
                (br (W.eq y0 160)
                  (br (W.eq y0 160)
                    (br (W.pick (W.eq y32 0) true (W.eq y25 18446744073709551615))
                      (k
                        (false, y1, y2, y3, y4, y5, y6, y7, y8, y9, y10, y11, y12, y13, y14, y15, y16, y17, y18, y19, y20, y21, y22, y23, y24, y25, y26, y27, y28, y29, y30, y31, y32, y33, y34, y35, y36,
                          ()))
                      (k
                        (true, y1, y2, y3, y4, y5, y6, y7, y8, y9, y10, y11, y12, y13, y14, y15, y16, y17, y18, y19, y20, y21, y22, y23, y24, y25, W.min y26 (W.wrap IntKind.u64 (W.sub y32 1)), y27, y28,
                          y29, y30, W.max y31 (W.wrap IntKind.u64 (W.add y25 1)), y32, y33, y34, y35, y36, ())))
                    (k
                      (true, y1, y2, y3, y4, y5, y6, y7, y8, y9, y10, y11, y12, y13, y14, y15, y16, y17, y18, y19, y20, y21, y22, y23, y24, y25, W.min y26 y32, y27, y28, y29, y30, W.max y31 y25, y32, y33,
                        y34, y35, y36, ())))
                  (br (W.eq y0 96)
                    (br (W.eq y0 96)
                      (br (W.eq y0 96)
                        (br (W.pick (W.eq y28 (-9223372036854775808)) true (W.eq y33 9223372036854775807))
                          (k
                            (false, y1, y2, y3, y4, y5, y6, y7, y8, y9, y10, y11, y12, y13, y14, y15, y16, y17, y18, y19, y20, y21, y22, y23, y24, y25, y26, y27, y28, y29, y30, y31, y32, y33, y34, y35, y36,
                              ()))
                          (k
                            (true, y1, y2, y3, y4, y5, y6, y7, y8, y9, y10, y11, y12, y13, y14, y15, y16, y17, y18, y19, y20, y21, y22, y23, y24, y25, y26, W.max y27 (W.wrap IntKind.i64 (W.add y33 1)), y28,
                              y29, y30, y31, y32, y33, W.min y34 (W.wrap IntKind.i64 (W.sub y28 1)), y35, y36, ())))
                        (k
                          (true, y1, y2, y3, y4, y5, y6, y7, y8, y9, y10, y11, y12, y13, y14, y15, y16, y17, y18, y19, y20, y21, y22, y23, y24, y25, y26, W.max y27 y33, y28, y29, y30, y31, y32, y33,
                            W.min y34 y28, y35, y36, ())))
                      (br (W.eq y0 192)
                        (br (W.pick (W.eq y34 (-9223372036854775808)) true (W.eq y27 9223372036854775807))
                          (k
                            (false, y1, y2, y3, y4, y5, y6, y7, y8, y9, y10, y11, y12, y13, y14, y15, y16, y17, y18, y19, y20, y21, y22, y23, y24, y25, y26, y27, y28, y29, y30, y31, y32, y33, y34, y35, y36,
                              ()))
                          (k
                            (true, y1, y2, y3, y4, y5, y6, y7, y8, y9, y10, y11, y12, y13, y14, y15, y16, y17, y18, y19, y20, y21, y22, y23, y24, y25, y26, y27, W.min y28 (W.wrap IntKind.i64 (W.sub y34 1)),
                              y29, y30, y31, y32, W.max y33 (W.wrap IntKind.i64 (W.add y27 1)), y34, y35, y36, ())))
                        (k
                          (true, y1, y2, y3, y4, y5, y6, y7, y8, y9, y10, y11, y12, y13, y14, y15, y16, y17, y18, y19, y20, y21, y22, y23, y24, y25, y26, y27, W.min y28 y34, y29, y30, y31, y32,
                            W.max y33 y27, y34, y35, y36, ()))))
                    (br (W.eq y0 112)
                      (br (W.eq y0 96)
                        (br (W.pick (W.eq y28 (-9223372036854775808)) true (W.eq y33 9223372036854775807))
                          (k
                            (false, y1, y2, y3, y4, y5, y6, y7, y8, y9, y10, y11, y12, y13, y14, y15, y16, y17, y18, y19, y20, y21, y22, y23, y24, y25, y26, y27, y28, y29, y30, y31, y32, y33, y34, y35, y36,
                              ()))
                          (k
                            (true, y1, y2, y3, y4, y5, y6, y7, y8, y9, y10, y11, y12, y13, y14, y15, y16, y17, y18, y19, y20, y21, y22, y23, y24, y25, y26, W.max y27 (W.wrap IntKind.i64 (W.add y33 1)), y28,
                              y29, y30, y31, y32, y33, W.min y34 (W.wrap IntKind.i64 (W.sub y28 1)), y35, y36, ())))
                        (k
                          (true, y1, y2, y3, y4, y5, y6, y7, y8, y9, y10, y11, y12, y13, y14, y15, y16, y17, y18, y19, y20, y21, y22, y23, y24, y25, y26, W.max y27 y33, y28, y29, y30, y31, y32, y33,
                            W.min y34 y28, y35, y36, ())))
                      (br (W.eq y0 192)
                        (br (W.pick (W.eq y34 (-9223372036854775808)) true (W.eq y27 9223372036854775807))
                          (k
                            (false, y1, y2, y3, y4, y5, y6, y7, y8, y9, y10, y11, y12, y13, y14, y15, y16, y17, y18, y19, y20, y21, y22, y23, y24, y25, y26, y27, y28, y29, y30, y31, y32, y33, y34, y35, y36,
                              ()))
                          (k
                            (true, y1, y2, y3, y4, y5, y6, y7, y8, y9, y10, y11, y12, y13, y14, y15, y16, y17, y18, y19, y20, y21, y22, y23, y24, y25, y26, y27, W.min y28 (W.wrap IntKind.i64 (W.sub y34 1)),
                              y29, y30, y31, y32, W.max y33 (W.wrap IntKind.i64 (W.add y27 1)), y34, y35, y36, ())))
                        (k
                          (true, y1, y2, y3, y4, y5, y6, y7, y8, y9, y10, y11, y12, y13, y14, y15, y16, y17, y18, y19, y20, y21, y22, y23, y24, y25, y26, y27, W.min y28 y34, y29, y30, y31, y32,
                            W.max y33 y27, y34, y35, y36, ()))))))
                (br (W.eq y0 176)
                  (br (W.eq y0 160)
                    (br (W.pick (W.eq y32 0) true (W.eq y25 18446744073709551615))
                      (k
                        (false, y1, y2, y3, y4, y5, y6, y7, y8, y9, y10, y11, y12, y13, y14, y15, y16, y17, y18, y19, y20, y21, y22, y23, y24, y25, y26, y27, y28, y29, y30, y31, y32, y33, y34, y35, y36,
                          ()))
                      (k
                        (true, y1, y2, y3, y4, y5, y6, y7, y8, y9, y10, y11, y12, y13, y14, y15, y16, y17, y18, y19, y20, y21, y22, y23, y24, y25, W.min y26 (W.wrap IntKind.u64 (W.sub y32 1)), y27, y28,
                          y29, y30, W.max y31 (W.wrap IntKind.u64 (W.add y25 1)), y32, y33, y34, y35, y36, ())))
                    (k
                      (true, y1, y2, y3, y4, y5, y6, y7, y8, y9, y10, y11, y12, y13, y14, y15, y16, y17, y18, y19, y20, y21, y22, y23, y24, y25, W.min y26 y32, y27, y28, y29, y30, W.max y31 y25, y32, y33,
                        y34, y35, y36, ())))
                  (br (W.eq y0 96)
                    (br (W.eq y0 96)
                      (br (W.eq y0 96)
                        (br (W.pick (W.eq y28 (-9223372036854775808)) true (W.eq y33 9223372036854775807))
                          (k
                            (false, y1, y2, y3, y4, y5, y6, y7, y8, y9, y10, y11, y12, y13, y14, y15, y16, y17, y18, y19, y20, y21, y22, y23, y24, y25, y26, y27, y28, y29, y30, y31, y32, y33, y34, y35, y36,
                              ()))
                          (k
                            (true, y1, y2, y3, y4, y5, y6, y7, y8, y9, y10, y11, y12, y13, y14, y15, y16, y17, y18, y19, y20, y21, y22, y23, y24, y25, y26, W.max y27 (W.wrap IntKind.i64 (W.add y33 1)), y28,
                              y29, y30, y31, y32, y33, W.min y34 (W.wrap IntKind.i64 (W.sub y28 1)), y35, y36, ())))
                        (k
                          (true, y1, y2, y3, y4, y5, y6, y7, y8, y9, y10, y11, y12, y13, y14, y15, y16, y17, y18, y19, y20, y21, y22, y23, y24, y25, y26, W.max y27 y33, y28, y29, y30, y31, y32, y33,
                            W.min y34 y28, y35, y36, ())))
                      (br (W.eq y0 192)
                        (br (W.pick (W.eq y34 (-9223372036854775808)) true (W.eq y27 9223372036854775807))
                          (k
                            (false, y1, y2, y3, y4, y5, y6, y7, y8, y9, y10, y11, y12, y13, y14, y15, y16, y17, y18, y19, y20, y21, y22, y23, y24, y25, y26, y27, y28, y29, y30, y31, y32, y33, y34, y35, y36,
                              ()))
                          (k
                            (true, y1, y2, y3, y4, y5, y6, y7, y8, y9, y10, y11, y12, y13, y14, y15, y16, y17, y18, y19, y20, y21, y22, y23, y24, y25, y26, y27, W.min y28 (W.wrap IntKind.i64 (W.sub y34 1)),
                              y29, y30, y31, y32, W.max y33 (W.wrap IntKind.i64 (W.add y27 1)), y34, y35, y36, ())))
                        (k
                          (true, y1, y2, y3, y4, y5, y6, y7, y8, y9, y10, y11, y12, y13, y14, y15, y16, y17, y18, y19, y20, y21, y22, y23, y24, y25, y26, y27, W.min y28 y34, y29, y30, y31, y32,
                            W.max y33 y27, y34, y35, y36, ()))))
                    (br (W.eq y0 112)
                      (br (W.eq y0 96)
                        (br (W.pick (W.eq y28 (-9223372036854775808)) true (W.eq y33 9223372036854775807))
                          (k
                            (false, y1, y2, y3, y4, y5, y6, y7, y8, y9, y10, y11, y12, y13, y14, y15, y16, y17, y18, y19, y20, y21, y22, y23, y24, y25, y26, y27, y28, y29, y30, y31, y32, y33, y34, y35, y36,
                              ()))
                          (k
                            (true, y1, y2, y3, y4, y5, y6, y7, y8, y9, y10, y11, y12, y13, y14, y15, y16, y17, y18, y19, y20, y21, y22, y23, y24, y25, y26, W.max y27 (W.wrap IntKind.i64 (W.add y33 1)), y28,
                              y29, y30, y31, y32, y33, W.min y34 (W.wrap IntKind.i64 (W.sub y28 1)), y35, y36, ())))
                        (k
                          (true, y1, y2, y3, y4, y5, y6, y7, y8, y9, y10, y11, y12, y13, y14, y15, y16, y17, y18, y19, y20, y21, y22, y23, y24, y25, y26, W.max y27 y33, y28, y29, y30, y31, y32, y33,
                            W.min y34 y28, y35, y36, ())))
                      (br (W.eq y0 192)
                        (br (W.pick (W.eq y34 (-9223372036854775808)) true (W.eq y27 9223372036854775807))
                          (k
                            (false, y1, y2, y3, y4, y5, y6, y7, y8, y9, y10, y11, y12, y13, y14, y15, y16, y17, y18, y19, y20, y21, y22, y23, y24, y25, y26, y27, y28, y29, y30, y31, y32, y33, y34, y35, y36,
                              ()))
                          (k
                            (true, y1, y2, y3, y4, y5, y6, y7, y8, y9, y10, y11, y12, y13, y14, y15, y16, y17, y18, y19, y20, y21, y22, y23, y24, y25, y26, y27, W.min y28 (W.wrap IntKind.i64 (W.sub y34 1)),
                              y29, y30, y31, y32, W.max y33 (W.wrap IntKind.i64 (W.add y27 1)), y34, y35, y36, ())))
                        (k
                          (true, y1, y2, y3, y4, y5, y6, y7, y8, y9, y10, y11, y12, y13, y14, y15, y16, y17, y18, y19, y20, y21, y22, y23, y24, y25, y26, y27, W.min y28 y34, y29, y30, y31, y32,
                            W.max y33 y27, y34, y35, y36, ()))))))))
            (br (W.eq y0 48)
              (br (W.eq y0 32)
                (br (W.pick (W.eq y26 0) true (W.eq y31 18446744073709551615))
                  (k
                    (false, y1, y2, y3, y4, y5, y6, y7, y8, y9, y10, y11, y12, y13, y14, y15, y16, y17, y18, y19, y20, y21, y22, y23, y24, y25, y26, y27, y28, y29, y30, y31, y32, y33, y34, y35, y36,
                      ()))
                  (k
                    (true, y1, y2, y3, y4, y5, y6, y7, y8, y9, y10, y11, y12, y13, y14, y15, y16, y17, y18, y19, y20, y21, y22, y23, y24, W.max y25 (W.wrap IntKind.u64 (W.add y31 1)), y26, y27, y28, y29,
                      y30, y31, W.min y32 (W.wrap IntKind.u64 (W.sub y26 1)), y33, y34, y35, y36, ())))
                (k
                  (true, y1, y2, y3, y4, y5, y6, y7, y8, y9, y10, y11, y12, y13, y14, y15, y16, y17, y18, y19, y20, y21, y22, y23, y24, W.max y25 y31, y26, y27, y28, y29, y30, y31, W.min y32 y26, y33, y34,
                    y35, y36, ())))
              (br (W.eq y0 160)
                (br (W.eq y0 160)
                  (br (W.eq y0 160)
                    (br (W.pick (W.eq y32 0) true (W.eq y25 18446744073709551615))
                      (k
                        (false, y1, y2, y3, y4, y5, y6, y7, y8, y9, y10, y11, y12, y13, y14, y15, y16, y17, y18, y19, y20, y21, y22, y23, y24, y25, y26, y27, y28, y29, y30, y31, y32, y33, y34, y35, y36,
                          ()))
                      (k
                        (true, y1, y2, y3, y4, y5, y6, y7, y8, y9, y10, y11, y12, y13, y14, y15, y16, y17, y18, y19, y20, y21, y22, y23, y24, y25, W.min y26 (W.wrap IntKind.u64 (W.sub y32 1)), y27, y28,
                          y29, y30, W.max y31 (W.wrap IntKind.u64 (W.add y25 1)), y32, y33, y34, y35, y36, ())))
                    (k
                      (true, y1, y2, y3, y4, y5, y6, y7, y8, y9, y10, y11, y12, y13, y14, y15, y16, y17, y18, y19, y20, y21, y22, y23, y24, y25, W.min y26 y32, y27, y28, y29, y30, W.max y31 y25, y32, y33,
                        y34, y35, y36, ())))
                  (br (W.eq y0 96)
                    (br (W.eq y0 96)
                      (br (W.eq y0 96)
                        (br (W.pick (W.eq y28 (-9223372036854775808)) true (W.eq y33 9223372036854775807))
                          (k
                            (false, y1, y2, y3, y4, y5, y6, y7, y8, y9, y10, y11, y12, y13, y14, y15, y16, y17, y18, y19, y20, y21, y22, y23, y24, y25, y26, y27, y28, y29, y30, y31, y32, y33, y34, y35, y36,
                              ()))
                          (k
                            (true, y1, y2, y3, y4, y5, y6, y7, y8, y9, y10, y11, y12, y13, y14, y15, y16, y17, y18, y19, y20, y21, y22, y23, y24, y25, y26, W.max y27 (W.wrap IntKind.i64 (W.add y33 1)), y28,
                              y29, y30, y31, y32, y33, W.min y34 (W.wrap IntKind.i64 (W.sub y28 1)), y35, y36, ())))
                        (k
                          (true, y1, y2, y3, y4, y5, y6, y7, y8, y9, y10, y11, y12, y13, y14, y15, y16, y17, y18, y19, y20, y21, y22, y23, y24, y25, y26, W.max y27 y33, y28, y29, y30, y31, y32, y33,
                            W.min y34 y28, y35, y36, ())))
                      (br (W.eq y0 192)
                        (br (W.pick (W.eq y34 (-9223372036854775808)) true (W.eq y27 9223372036854775807))
                          (k
                            (false, y1, y2, y3, y4, y5, y6, y7, y8, y9, y10, y11, y12, y13, y14, y15, y16, y17, y18, y19, y20, y21, y22, y23, y24, y25, y26, y27, y28, y29, y30, y31, y32, y33, y34, y35, y36,
                              ()))
                          (k
                            (true, y1, y2, y3, y4, y5, y6, y7, y8, y9, y10, y11, y12, y13, y14, y15, y16, y17, y18, y19, y20, y21, y22, y23, y24, y25, y26, y27, W.min y28 (W.wrap IntKind.i64 (W.sub y34 1)),
                              y29, y30, y31, y32, W.max y33 (W.wrap IntKind.i64 (W.add y27 1)), y34, y35, y36, ())))
                        (k
                          (true, y1, y2, y3, y4, y5, y6, y7, y8, y9, y10, y11, y12, y13, y14, y15, y16, y17, y18, y19, y20, y21, y22, y23, y24, y25, y26, y27, W.min y28 y34, y29, y30, y31, y32,
                            W.max y33 y27, y34, y35, y36, ()))))
                    (br (W.eq y0 112)
                      (br (W.eq y0 96)
                        (br (W.pick (W.eq y28 (-9223372036854775808)) true (W.eq y33 9223372036854775807))
                          (k
                            (false, y1, y2, y3, y4, y5, y6, y7, y8, y9, y10, y11, y12, y13, y14, y15, y16, y17, y18, y19, y20, y21, y22, y23, y24, y25, y26, y27, y28, y29, y30, y31, y32, y33, y34, y35, y36,
                              ()))
                          (k
                            (true, y1, y2, y3, y4, y5, y6, y7, y8, y9, y10, y11, y12, y13, y14, y15, y16, y17, y18, y19, y20, y21, y22, y23, y24, y25, y26, W.max y27 (W.wrap IntKind.i64 (W.add y33 1)), y28,
                              y29, y30, y31, y32, y33, W.min y34 (W.wrap IntKind.i64 (W.sub y28 1)), y35, y36, ())))
                        (k
                          (true, y1, y2, y3, y4, y5, y6, y7, y8, y9, y10, y11, y12, y13, y14, y15, y16, y17, y18, y19, y20, y21, y22, y23, y24, y25, y26, W.max y27 y33, y28, y29, y30, y31, y32, y33,
                            W.min y34 y28, y35, y36, ())))
                      (br (W.eq y0 192)
                        (br (W.pick (W.eq y34 (-9223372036854775808)) true (W.eq y27 9223372036854775807))
                          (k
                            (false, y1, y2, y3, y4, y5, y6, y7, y8, y9, y10, y11, y12, y13, y14, y15, y16, y17, y18, y19, y20, y21, y22, y23, y24, y25, y26, y27, y28, y29, y30, y31, y32, y33, y34, y35, y36,
                              ()))
                          (k
                            (true, y1, y2, y3, y4, y5, y6, y7, y8, y9, y10, y11, y12, y13, y14, y15, y16, y17, y18, y19, y20, y21, y22, y23, y24, y25, y26, y27, W.min y28 (W.wrap IntKind.i64 (W.sub y34 1)),
                              y29, y30, y31, y32, W.max y33 (W.wrap IntKind.i64 (W.add y27 1)), y34, y35, y36, ())))
                        (k
                          (true, y1, y2, y3, y4, y5, y6, y7, y8, y9, y10, y11, y12, y13, y14, y15, y16, y17, y18, y19, y20, y21, y22, y23, y24, y25, y26, y27, W.min y28 y34, y29, y30, y31, y32,
                            W.max y33 y27, y34, y35, y36, ()))))))
                (br (W.eq y0 176)
                  (br (W.eq y0 160)
                    (br (W.pick (W.eq y32 0) true (W.eq y25 18446744073709551615))
                      (k
                        (false, y1, y2, y3, y4, y5, y6, y7, y8, y9, y10, y11, y12, y13, y14, y15, y16, y17, y18, y19, y20, y21, y22, y23, y24, y25, y26, y27, y28, y29, y30, y31, y32, y33, y34, y35, y36,
                          ()))
                      (k
                        (true, y1, y2, y3, y4, y5, y6, y7, y8, y9, y10, y11, y12, y13, y14, y15, y16, y17, y18, y19, y20, y21, y22, y23, y24, y25, W.min y26 (W.wrap IntKind.u64 (W.sub y32 1)), y27, y28,
                          y29, y30, W.max y31 (W.wrap IntKind.u64 (W.add y25 1)), y32, y33, y34, y35, y36, ())))
                    (k
                      (true, y1, y2, y3, y4, y5, y6, y7, y8, y9, y10, y11, y12, y13, y14, y15, y16, y17, y18, y19, y20, y21, y22, y23, y24, y25, W.min y26 y32, y27, y28, y29, y30, W.max y31 y25, y32, y33,
                        y34, y35, y36, ())))
                  (br (W.eq y0 96)
                    (br (W.eq y0 96)
                      (br (W.eq y0 96)
                        (br (W.pick (W.eq y28 (-9223372036854775808)) true (W.eq y33 9223372036854775807))
                          (k
                            (false, y1, y2, y3, y4, y5, y6, y7, y8, y9, y10, y11, y12, y13, y14, y15, y16, y17, y18, y19, y20, y21, y22, y23, y24, y25, y26, y27, y28, y29, y30, y31, y32, y33, y34, y35, y36,
                              ()))
                          (k
                            (true, y1, y2, y3, y4, y5, y6, y7, y8, y9, y10, y11, y12, y13, y14, y15, y16, y17, y18, y19, y20, y21, y22, y23, y24, y25, y26, W.max y27 (W.wrap IntKind.i64 (W.add y33 1)), y28,
                              y29, y30, y31, y32, y33, W.min y34 (W.wrap IntKind.i64 (W.sub y28 1)), y35, y36, ())))
                        (k
                          (true, y1, y2, y3, y4, y5, y6, y7, y8, y9, y10, y11, y12, y13, y14, y15, y16, y17, y18, y19, y20, y21, y22, y23, y24, y25, y26, W.max y27 y33, y28, y29, y30, y31, y32, y33,
                            W.min y34 y28, y35, y36, ())))
                      (br (W.eq y0 192)
                        (br (W.pick (W.eq y34 (-9223372036854775808)) true (W.eq y27 9223372036854775807))
                          (k
                            (false, y1, y2, y3, y4, y5, y6, y7, y8, y9, y10, y11, y12, y13, y14, y15, y16, y17, y18, y19, y20, y21, y22, y23, y24, y25, y26, y27, y28, y29, y30, y31, y32, y33, y34, y35, y36,
                              ()))
                          (k
                            (true, y1, y2, y3, y4, y5, y6, y7, y8, y9, y10, y11, y12, y13, y14, y15, y16, y17, y18, y19, y20, y21, y22, y23, y24, y25, y26, y27, W.min y28 (W.wrap IntKind.i64 (W.sub y34 1)),
                              y29, y30, y31, y32, W.max y33 (W.wrap IntKind.i64 (W.add y27 1)), y34, y35, y36, ())))
                        (k
                          (true, y1, y2, y3, y4, y5, y6, y7, y8, y9, y10, y11, y12, y13, y14, y15, y16, y17, y18, y19, y20, y21, y22, y23, y24, y25, y26, y27, W.min y28 y34, y29, y30, y31, y32,
                            W.max y33 y27, y34, y35, y36, ()))))
                    (br (W.eq y0 112)
                      (br (W.eq y0 96)
                        (br (W.pick (W.eq y28 (-9223372036854775808)) true (W.eq y33 9223372036854775807))
                          (k
                            (false, y1, y2, y3, y4, y5, y6, y7, y8, y9, y10, y11, y12, y13, y14, y15, y16, y17, y18, y19, y20, y21, y22, y23, y24, y25, y26, y27, y28, y29, y30, y31, y32, y33, y34, y35, y36,
                              ()))
                          (k
                            (true, y1, y2, y3, y4, y5, y6, y7, y8, y9, y10, y11, y12, y13, y14, y15, y16, y17, y18, y19, y20, y21, y22, y23, y24, y25, y26, W.max y27 (W.wrap IntKind.i64 (W.add y33 1)), y28,
                              y29, y30, y31, y32, y33, W.min y34 (W.wrap IntKind.i64 (W.sub y28 1)), y35, y36, ())))
                        (k
                          (true, y1, y2, y3, y4, y5, y6, y7, y8, y9, y10, y11, y12, y13, y14, y15, y16, y17, y18, y19, y20, y21, y22, y23, y24, y25, y26, W.max y27 y33, y28, y29, y30, y31, y32, y33,
                            W.min y34 y28, y35, y36, ())))
                      (br (W.eq y0 192)
                        (br (W.pick (W.eq y34 (-9223372036854775808)) true (W.eq y27 9223372036854775807))
                          (k
                            (false, y1, y2, y3, y4, y5, y6, y7, y8, y9, y10, y11, y12, y13, y14, y15, y16, y17, y18, y19, y20, y21, y22, y23, y24, y25, y26, y27, y28, y29, y30, y31, y32, y33, y34, y35, y36,
                              ()))
                          (k
                            (true, y1, y2, y3, y4, y5, y6, y7, y8, y9, y10, y11, y12, y13, y14, y15, y16, y17, y18, y19, y20, y21, y22, y23, y24, y25, y26, y27, W.min y28 (W.wrap IntKind.i64 (W.sub y34 1)),
                              y29, y30, y31, y32, W.max y33 (W.wrap IntKind.i64 (W.add y27 1)), y34, y35, y36, ())))
                        (k
                          (true, y1, y2, y3, y4, y5, y6, y7, y8, y9, y10, y11, y12, y13, y14, y15, y16, y17, y18, y19, y20, y21, y22, y23, y24, y25, y26, y27, W.min y28 y34, y29, y30, y31, y32,
                            W.max y33 y27, y34, y35, y36, ()))))))))))
theorem S_branch_hold_1 {F_bound_Value : FT ps_bound_Value qs_bound_Value} {F_bound_Meet : FT ps_bound_Meet qs_bound_Meet} {E_branch_apart_1 : TE_branch_apart_1} {E_branch_apart_2 : TE_branch_apart_2} (h_bound_Value : SpecOk Try.prog 19 (mkS ps_bound_Value qs_bound_Value F_bound_Value)) (h_bound_Meet : SpecOk Try.prog 40 (mkS ps_bound_Meet qs_bound_Meet F_bound_Meet)) (h_branch_apart_1 : ESpOk Try.prog 41 (mkE pa_branch_apart_1 ph_branch_apart_1 pr_branch_apart_1 pz_branch_apart_1 E_branch_apart_1)) (h_branch_apart_2 : ESpOk Try.prog 41 (mkE pa_branch_apart_2 ph_branch_apart_2 pr_branch_apart_2 pz_branch_apart_2 E_branch_apart_2)) : ESpOk Try.prog 24 (mkE pa_branch_hold_1 ph_branch_hold_1 pr_branch_hold_1 pz_branch_hold_1 (N_branch_hold_1 F_bound_Value F_bound_Meet E_branch_apart_1 E_branch_apart_2)) :=
  espOk_mk (fl := 10) (d := 11) (cfgOk_cons (cfgOk_cons base h_bound_Meet) h_bound_Value) (esOk_cons (esOk_cons esOk_nil h_branch_apart_2) h_branch_apart_1) (by rintro R ⟨y0, y1, y2, y3, y4, y5, y6, y7, y8, y9, y10, y11, y12, y13, y14, y15, y16, y17, y18, y19, y20, y21, y22, y23, y24, y25, y26, y27, y28, y29, y30, y31, y32, y33, y34, y35, y36, ⟨⟩⟩ k; kernel_rfl)
noncomputable def E_branch_hold_1 : TE_branch_hold_1 := N_branch_hold_1 F_bound_Value F_bound_Meet E_branch_apart_1 E_branch_apart_2 
theorem okE_branch_hold_1 : ESpOk Try.prog 24 (mkE pa_branch_hold_1 ph_branch_hold_1 pr_branch_hold_1 pz_branch_hold_1 E_branch_hold_1) := S_branch_hold_1 ok_bound_Value ok_bound_Meet okE_branch_apart_1 okE_branch_apart_2
abbrev ps_branch_Refine : List PT := [.one (.int .i64), .agg ((.prod (.int .u64) (.prod (.int .u64) (.prod (.int .i64) (.prod (.int .i64) ((.prod (.int .u64) (.int .u64)))))))), .agg ((.prod (.int .u64) (.prod (.int .u64) (.prod (.int .i64) (.prod (.int .i64) ((.prod (.int .u64) (.int .u64)))))))), .one (.bool), .one (.bool)]
abbrev qs_branch_Refine : List PT := [.agg ((.prod (.int .u64) (.prod (.int .u64) (.prod (.int .i64) (.prod (.int .i64) ((.prod (.int .u64) (.int .u64)))))))), .agg ((.prod (.int .u64) (.prod (.int .u64) (.prod (.int .i64) (.prod (.int .i64) ((.prod (.int .u64) (.int .u64)))))))), .one (.bool)]
noncomputable def N_branch_Refine (F_branch_Opposite : FT ps_branch_Opposite qs_branch_Opposite) (F_bound_Value : FT ps_bound_Value qs_bound_Value) (F_word_Cond : FT ps_word_Cond qs_word_Cond) (F_bound_Check : FT ps_bound_Check qs_bound_Check) (F_branch_near : FT ps_branch_near qs_branch_near) (F_tnum_Meet : FT ps_tnum_Meet qs_tnum_Meet) (F_bound_Tidy : FT ps_bound_Tidy qs_bound_Tidy) (F_bound_Meet : FT ps_bound_Meet qs_bound_Meet) (E_branch_bits_1 : TE_branch_bits_1) (E_branch_hold_1 : TE_branch_hold_1)  : FT ps_branch_Refine qs_branch_Refine := fun R x k => match x with
  | (x0, (x1Umin, x1Umax, x1Smin, x1Smax, (x1Bits_Value, x1Bits_Mask)), (x2Umin, x2Umax, x2Smin, x2Smax, (x2Bits_Value, x2Bits_Mask)), x3, x4) => 
      F_bound_Value R (x1Umin, x1Umax, x1Smin, x1Smax, x1Bits_Value, x1Bits_Mask) fun y =>
        F_bound_Value R (x2Umin, x2Umax, x2Smin, x2Smax, x2Bits_Value, x2Bits_Mask) fun y_1 =>
          F_word_Cond R (x0, y.1, y_1.1, x3) fun y_2 =>
            br (W.not (W.not y_2.2))
              (F_bound_Check R (x1Umin, x1Umax, x1Smin, x1Smax, x1Bits_Value, x1Bits_Mask) fun y_3 =>
                br (W.not (W.pick false true (W.not y_3)))
                  (F_bound_Check R (x2Umin, x2Umax, x2Smin, x2Smax, x2Bits_Value, x2Bits_Mask) fun y_4 =>
                    br (W.pick false true (W.not y_4)) (k ((x1Umin, x1Umax, x1Smin, x1Smax, x1Bits_Value, x1Bits_Mask), (x2Umin, x2Umax, x2Smin, x2Smax, x2Bits_Value, x2Bits_Mask), true))
                      (br (W.pick (W.pick y.2 y_1.2 false) (W.not (W.eqB y_2.1 x4)) false) (k ((0, 0, 0, 0, 0, 0), (0, 0, 0, 0, 0, 0), false))
                        (br (W.and2 (W.not (W.pick y.2 y_1.2 false)) (W.not x3))
                          (F_branch_near R (x0, (x1Umin, x1Umax, x1Smin, x1Smax, x1Bits_Value, x1Bits_Mask), x2Umin, x2Umax, x2Smin, x2Smax, x2Bits_Value, x2Bits_Mask) fun y_5 =>
                            br (W.pick (W.pick y.2 y_1.2 false) true (W.pick (W.not x3) (W.not y_5) false))
                              (k ((x1Umin, x1Umax, x1Smin, x1Smax, x1Bits_Value, x1Bits_Mask), (x2Umin, x2Umax, x2Smin, x2Smax, x2Bits_Value, x2Bits_Mask), true))
                              (br (W.eq x0 64)
                                (E_branch_bits_1 R
                                  (x2Umin, x2Umax, x2Smin, x2Smax, x2Bits_Value, x2Bits_Mask, x4, x1Umin, x1Umax, x1Smin, x1Smax, x1Bits_Value, x1Bits_Mask, x2Umin, x2Umax, x2Smin, x2Smax,
                                    x2Bits_Value, x2Bits_Mask, 0, 0, 0, 0, 0, 0, 0, 0, 0, 0, 0, 0, x1Umin, x1Umax, x1Smin, x1Smax, x1Bits_Value, x1Bits_Mask, x2Umin, x2Umax, x2Smin, x2Smax,
                                    x2Bits_Value, x2Bits_Mask, ())
                                  fun z =>
                                  br z.1
                                    (F_bound_Tidy R
                                      (z.2.2.2.2.2.2.2.2.2.2.2.2.2.2.2.2.2.2.2.2.2.2.2.2.2.1, z.2.2.2.2.2.2.2.2.2.2.2.2.2.2.2.2.2.2.2.2.2.2.2.2.2.2.1,
                                        z.2.2.2.2.2.2.2.2.2.2.2.2.2.2.2.2.2.2.2.2.2.2.2.2.2.2.2.1, z.2.2.2.2.2.2.2.2.2.2.2.2.2.2.2.2.2.2.2.2.2.2.2.2.2.2.2.2.1,
                                        z.2.2.2.2.2.2.2.2.2.2.2.2.2.2.2.2.2.2.2.2.2.2.2.2.2.2.2.2.2.1, z.2.2.2.2.2.2.2.2.2.2.2.2.2.2.2.2.2.2.2.2.2.2.2.2.2.2.2.2.2.2.1)
                                      fun y =>
                                      br y.2
                                        (F_bound_Tidy R
                                          (z.2.2.2.2.2.2.2.2.2.2.2.2.2.2.2.2.2.2.2.2.2.2.2.2.2.2.2.2.2.2.2.1, z.2.2.2.2.2.2.2.2.2.2.2.2.2.2.2.2.2.2.2.2.2.2.2.2.2.2.2.2.2.2.2.2.1,
                                            z.2.2.2.2.2.2.2.2.2.2.2.2.2.2.2.2.2.2.2.2.2.2.2.2.2.2.2.2.2.2.2.2.2.1, z.2.2.2.2.2.2.2.2.2.2.2.2.2.2.2.2.2.2.2.2.2.2.2.2.2.2.2.2.2.2.2.2.2.2.1,
                                            z.2.2.2.2.2.2.2.2.2.2.2.2.2.2.2.2.2.2.2.2.2.2.2.2.2.2.2.2.2.2.2.2.2.2.2.1, z.2.2.2.2.2.2.2.2.2.2.2.2.2.2.2.2.2.2.2.2.2.2.2.2.2.2.2.2.2.2.2.2.2.2.2.2.1)
                                          fun y_6 =>
                                          br (W.not y_6.2) (k ((0, 0, 0, 0, 0, 0), (0, 0, 0, 0, 0, 0), false))
                                            (k
                                              ((y.1.1, y.1.2.1, y.1.2.2.1, y.1.2.2.2.1, y.1.2.2.2.2.1, y.1.2.2.2.2.2), (y_6.1.1, y_6.1.2.1, y_6.1.2.2.1, y_6.1.2.2.2.1, y_6.1.2.2.2.2.1, y_6.1.2.2.2.2.2),
                                                true)))
                                        (br (W.not y.2) (k ((0, 0, 0, 0, 0, 0), (0, 0, 0, 0, 0, 0), false))
                                          (k
                                            ((y.1.1, y.1.2.1, y.1.2.2.1, y.1.2.2.2.1, y.1.2.2.2.2.1, y.1.2.2.2.2.2),
                                              (z.2.2.2.2.2.2.2.2.2.2.2.2.2.2.2.2.2.2.2.2.2.2.2.2.2.2.2.2.2.2.2.1, z.2.2.2.2.2.2.2.2.2.2.2.2.2.2.2.2.2.2.2.2.2.2.2.2.2.2.2.2.2.2.2.2.1,
                                                z.2.2.2.2.2.2.2.2.2.2.2.2.2.2.2.2.2.2.2.2.2.2.2.2.2.2.2.2.2.2.2.2.2.1, z.2.2.2.2.2.2.2.2.2.2.2.2.2.2.2.2.2.2.2.2.2.2.2.2.2.2.2.2.2.2.2.2.2.2.1,
                                                z.2.2.2.2.2.2.2.2.2.2.2.2.2.2.2.2.2.2.2.2.2.2.2.2.2.2.2.2.2.2.2.2.2.2.2.1, z.2.2.2.2.2.2.2.2.2.2.2.2.2.2.2.2.2.2.2.2.2.2.2.2.2.2.2.2.2.2.2.2.2.2.2.2.1),
                                              true))))
                                    (br z.1
                                      (F_bound_Tidy R
                                        (z.2.2.2.2.2.2.2.2.2.2.2.2.2.2.2.2.2.2.2.2.2.2.2.2.2.2.2.2.2.2.2.1, z.2.2.2.2.2.2.2.2.2.2.2.2.2.2.2.2.2.2.2.2.2.2.2.2.2.2.2.2.2.2.2.2.1,
                                          z.2.2.2.2.2.2.2.2.2.2.2.2.2.2.2.2.2.2.2.2.2.2.2.2.2.2.2.2.2.2.2.2.2.1, z.2.2.2.2.2.2.2.2.2.2.2.2.2.2.2.2.2.2.2.2.2.2.2.2.2.2.2.2.2.2.2.2.2.2.1,
                                          z.2.2.2.2.2.2.2.2.2.2.2.2.2.2.2.2.2.2.2.2.2.2.2.2.2.2.2.2.2.2.2.2.2.2.2.1, z.2.2.2.2.2.2.2.2.2.2.2.2.2.2.2.2.2.2.2.2.2.2.2.2.2.2.2.2.2.2.2.2.2.2.2.2.1)
                                        fun y =>
                                        br (W.not y.2) (k ((0, 0, 0, 0, 0, 0), (0, 0, 0, 0, 0, 0), false))
                                          (k
                                            ((z.2.2.2.2.2.2.2.2.2.2.2.2.2.2.2.2.2.2.2.2.2.2.2.2.2.1, z.2.2.2.2.2.2.2.2.2.2.2.2.2.2.2.2.2.2.2.2.2.2.2.2.2.2.1,
                                                z.2.2.2.2.2.2.2.2.2.2.2.2.2.2.2.2.2.2.2.2.2.2.2.2.2.2.2.1, z.2.2.2.2.2.2.2.2.2.2.2.2.2.2.2.2.2.2.2.2.2.2.2.2.2.2.2.2.1,
                                                z.2.2.2.2.2.2.2.2.2.2.2.2.2.2.2.2.2.2.2.2.2.2.2.2.2.2.2.2.2.1, z.2.2.2.2.2.2.2.2.2.2.2.2.2.2.2.2.2.2.2.2.2.2.2.2.2.2.2.2.2.2.1),
                                              (y.1.1, y.1.2.1, y.1.2.2.1, y.1.2.2.2.1, y.1.2.2.2.2.1, y.1.2.2.2.2.2), true)))
                                      (br (W.not z.1) (k ((0, 0, 0, 0, 0, 0), (0, 0, 0, 0, 0, 0), false))
                                        (k
                                          ((z.2.2.2.2.2.2.2.2.2.2.2.2.2.2.2.2.2.2.2.2.2.2.2.2.2.1, z.2.2.2.2.2.2.2.2.2.2.2.2.2.2.2.2.2.2.2.2.2.2.2.2.2.2.1,
                                              z.2.2.2.2.2.2.2.2.2.2.2.2.2.2.2.2.2.2.2.2.2.2.2.2.2.2.2.1, z.2.2.2.2.2.2.2.2.2.2.2.2.2.2.2.2.2.2.2.2.2.2.2.2.2.2.2.2.1,
                                              z.2.2.2.2.2.2.2.2.2.2.2.2.2.2.2.2.2.2.2.2.2.2.2.2.2.2.2.2.2.1, z.2.2.2.2.2.2.2.2.2.2.2.2.2.2.2.2.2.2.2.2.2.2.2.2.2.2.2.2.2.2.1),
                                            (z.2.2.2.2.2.2.2.2.2.2.2.2.2.2.2.2.2.2.2.2.2.2.2.2.2.2.2.2.2.2.2.1, z.2.2.2.2.2.2.2.2.2.2.2.2.2.2.2.2.2.2.2.2.2.2.2.2.2.2.2.2.2.2.2.2.1,
                                              z.2.2.2.2.2.2.2.2.2.2.2.2.2.2.2.2.2.2.2.2.2.2.2.2.2.2.2.2.2.2.2.2.2.1, z.2.2.2.2.2.2.2.2.2.2.2.2.2.2.2.2.2.2.2.2.2.2.2.2.2.2.2.2.2.2.2.2.2.2.1,
                                              z.2.2.2.2.2.2.2.2.2.2.2.2.2.2.2.2.2.2.2.2.2.2.2.2.2.2.2.2.2.2.2.2.2.2.2.1, z.2.2.2.2.2.2.2.2.2.2.2.2.2.2.2.2.2.2.2.2.2.2.2.2.2.2.2.2.2.2.2.2.2.2.2.2.1),
                                            true)))))
                                (br x4
                                  (E_branch_hold_1 R
                                    (x0, x1Umin, x1Umax, x1Smin, x1Smax, x1Bits_Value, x1Bits_Mask, x2Umin, x2Umax, x2Smin, x2Smax, x2Bits_Value, x2Bits_Mask, 0, 0, 0, 0, 0, 0, 0, 0, 0, 0, 0, 0,
                                      x1Umin, x1Umax, x1Smin, x1Smax, x1Bits_Value, x1Bits_Mask, x2Umin, x2Umax, x2Smin, x2Smax, x2Bits_Value, x2Bits_Mask, ())
                                    fun z =>
                                    br z.1
                                      (F_bound_Tidy R
                                        (z.2.2.2.2.2.2.2.2.2.2.2.2.2.2.2.2.2.2.2.2.2.2.2.2.2.1, z.2.2.2.2.2.2.2.2.2.2.2.2.2.2.2.2.2.2.2.2.2.2.2.2.2.2.1,
                                          z.2.2.2.2.2.2.2.2.2.2.2.2.2.2.2.2.2.2.2.2.2.2.2.2.2.2.2.1, z.2.2.2.2.2.2.2.2.2.2.2.2.2.2.2.2.2.2.2.2.2.2.2.2.2.2.2.2.1,
                                          z.2.2.2.2.2.2.2.2.2.2.2.2.2.2.2.2.2.2.2.2.2.2.2.2.2.2.2.2.2.1, z.2.2.2.2.2.2.2.2.2.2.2.2.2.2.2.2.2.2.2.2.2.2.2.2.2.2.2.2.2.2.1)
                                        fun y =>
                                        br y.2
                                          (F_bound_Tidy R
                                            (z.2.2.2.2.2.2.2.2.2.2.2.2.2.2.2.2.2.2.2.2.2.2.2.2.2.2.2.2.2.2.2.1, z.2.2.2.2.2.2.2.2.2.2.2.2.2.2.2.2.2.2.2.2.2.2.2.2.2.2.2.2.2.2.2.2.1,
                                              z.2.2.2.2.2.2.2.2.2.2.2.2.2.2.2.2.2.2.2.2.2.2.2.2.2.2.2.2.2.2.2.2.2.1, z.2.2.2.2.2.2.2.2.2.2.2.2.2.2.2.2.2.2.2.2.2.2.2.2.2.2.2.2.2.2.2.2.2.2.1,
                                              z.2.2.2.2.2.2.2.2.2.2.2.2.2.2.2.2.2.2.2.2.2.2.2.2.2.2.2.2.2.2.2.2.2.2.2.1, z.2.2.2.2.2.2.2.2.2.2.2.2.2.2.2.2.2.2.2.2.2.2.2.2.2.2.2.2.2.2.2.2.2.2.2.2.1)
                                            fun y_6 =>
                                            br (W.not y_6.2) (k ((0, 0, 0, 0, 0, 0), (0, 0, 0, 0, 0, 0), false))
                                              (k
                                                ((y.1.1, y.1.2.1, y.1.2.2.1, y.1.2.2.2.1, y.1.2.2.2.2.1, y.1.2.2.2.2.2), (y_6.1.1, y_6.1.2.1, y_6.1.2.2.1, y_6.1.2.2.2.1, y_6.1.2.2.2.2.1, y_6.1.2.2.2.2.2),
                                                  true)))
                                          (br (W.not y.2) (k ((0, 0, 0, 0, 0, 0), (0, 0, 0, 0, 0, 0), false))
                                            (k
                                              ((y.1.1, y.1.2.1, y.1.2.2.1, y.1.2.2.2.1, y.1.2.2.2.2.1, y.1.2.2.2.2.2),
                                                (z.2.2.2.2.2.2.2.2.2.2.2.2.2.2.2.2.2.2.2.2.2.2.2.2.2.2.2.2.2.2.2.1, z.2.2.2.2.2.2.2.2.2.2.2.2.2.2.2.2.2.2.2.2.2.2.2.2.2.2.2.2.2.2.2.2.1,
                                                  z.2.2.2.2.2.2.2.2.2.2.2.2.2.2.2.2.2.2.2.2.2.2.2.2.2.2.2.2.2.2.2.2.2.1, z.2.2.2.2.2.2.2.2.2.2.2.2.2.2.2.2.2.2.2.2.2.2.2.2.2.2.2.2.2.2.2.2.2.2.1,
                                                  z.2.2.2.2.2.2.2.2.2.2.2.2.2.2.2.2.2.2.2.2.2.2.2.2.2.2.2.2.2.2.2.2.2.2.2.1, z.2.2.2.2.2.2.2.2.2.2.2.2.2.2.2.2.2.2.2.2.2.2.2.2.2.2.2.2.2.2.2.2.2.2.2.2.1),
                                                true))))
                                      (br z.1
                                        (F_bound_Tidy R
                                          (z.2.2.2.2.2.2.2.2.2.2.2.2.2.2.2.2.2.2.2.2.2.2.2.2.2.2.2.2.2.2.2.1, z.2.2.2.2.2.2.2.2.2.2.2.2.2.2.2.2.2.2.2.2.2.2.2.2.2.2.2.2.2.2.2.2.1,
                                            z.2.2.2.2.2.2.2.2.2.2.2.2.2.2.2.2.2.2.2.2.2.2.2.2.2.2.2.2.2.2.2.2.2.1, z.2.2.2.2.2.2.2.2.2.2.2.2.2.2.2.2.2.2.2.2.2.2.2.2.2.2.2.2.2.2.2.2.2.2.1,
                                            z.2.2.2.2.2.2.2.2.2.2.2.2.2.2.2.2.2.2.2.2.2.2.2.2.2.2.2.2.2.2.2.2.2.2.2.1, z.2.2.2.2.2.2.2.2.2.2.2.2.2.2.2.2.2.2.2.2.2.2.2.2.2.2.2.2.2.2.2.2.2.2.2.2.1)
                                          fun y =>
                                          br (W.not y.2) (k ((0, 0, 0, 0, 0, 0), (0, 0, 0, 0, 0, 0), false))
                                            (k
                                              ((z.2.2.2.2.2.2.2.2.2.2.2.2.2.2.2.2.2.2.2.2.2.2.2.2.2.1, z.2.2.2.2.2.2.2.2.2.2.2.2.2.2.2.2.2.2.2.2.2.2.2.2.2.2.1,
                                                  z.2.2.2.2.2.2.2.2.2.2.2.2.2.2.2.2.2.2.2.2.2.2.2.2.2.2.2.1, z.2.2.2.2.2.2.2.2.2.2.2.2.2.2.2.2.2.2.2.2.2.2.2.2.2.2.2.2.1,
                                                  z.2.2.2.2.2.2.2.2.2.2.2.2.2.2.2.2.2.2.2.2.2.2.2.2.2.2.2.2.2.1, z.2.2.2.2.2.2.2.2.2.2.2.2.2.2.2.2.2.2.2.2.2.2.2.2.2.2.2.2.2.2.1),
                                                (y.1.1, y.1.2.1, y.1.2.2.1, y.1.2.2.2.1, y.1.2.2.2.2.1, y.1.2.2.2.2.2), true)))
                                        (br (W.not z.1) (k ((0, 0, 0, 0, 0, 0), (0, 0, 0, 0, 0, 0), false))
                                          (k
                                            ((z.2.2.2.2.2.2.2.2.2.2.2.2.2.2.2.2.2.2.2.2.2.2.2.2.2.1, z.2.2.2.2.2.2.2.2.2.2.2.2.2.2.2.2.2.2.2.2.2.2.2.2.2.2.1,
                                                z.2.2.2.2.2.2.2.2.2.2.2.2.2.2.2.2.2.2.2.2.2.2.2.2.2.2.2.1, z.2.2.2.2.2.2.2.2.2.2.2.2.2.2.2.2.2.2.2.2.2.2.2.2.2.2.2.2.1,
                                                z.2.2.2.2.2.2.2.2.2.2.2.2.2.2.2.2.2.2.2.2.2.2.2.2.2.2.2.2.2.1, z.2.2.2.2.2.2.2.2.2.2.2.2.2.2.2.2.2.2.2.2.2.2.2.2.2.2.2.2.2.2.1),
                                              (z.2.2.2.2.2.2.2.2.2.2.2.2.2.2.2.2.2.2.2.2.2.2.2.2.2.2.2.2.2.2.2.1, z.2.2.2.2.2.2.2.2.2.2.2.2.2.2.2.2.2.2.2.2.2.2.2.2.2.2.2.2.2.2.2.2.1,
                                                z.2.2.2.2.2.2.2.2.2.2.2.2.2.2.2.2.2.2.2.2.2.2.2.2.2.2.2.2.2.2.2.2.2.1, z.2.2.2.2.2.2.2.2.2.2.2.2.2.2.2.2.2.2.2.2.2.2.2.2.2.2.2.2.2.2.2.2.2.2.1,
                                                z.2.2.2.2.2.2.2.2.2.2.2.2.2.2.2.2.2.2.2.2.2.2.2.2.2.2.2.2.2.2.2.2.2.2.2.1, z.2.2.2.2.2.2.2.2.2.2.2.2.2.2.2.2.2.2.2.2.2.2.2.2.2.2.2.2.2.2.2.2.2.2.2.2.1),
                                              true)))))
                                  (F_branch_Opposite R x0 fun y =>
                                    E_branch_hold_1 R
                                      (y, x1Umin, x1Umax, x1Smin, x1Smax, x1Bits_Value, x1Bits_Mask, x2Umin, x2Umax, x2Smin, x2Smax, x2Bits_Value, x2Bits_Mask, 0, 0, 0, 0, 0, 0, 0, 0, 0, 0, 0,
                                        0, x1Umin, x1Umax, x1Smin, x1Smax, x1Bits_Value, x1Bits_Mask, x2Umin, x2Umax, x2Smin, x2Smax, x2Bits_Value, x2Bits_Mask, ())
                                      fun z =>
                                      br z.1
                                        (F_bound_Tidy R
                                          (z.2.2.2.2.2.2.2.2.2.2.2.2.2.2.2.2.2.2.2.2.2.2.2.2.2.1, z.2.2.2.2.2.2.2.2.2.2.2.2.2.2.2.2.2.2.2.2.2.2.2.2.2.2.1,
                                            z.2.2.2.2.2.2.2.2.2.2.2.2.2.2.2.2.2.2.2.2.2.2.2.2.2.2.2.1, z.2.2.2.2.2.2.2.2.2.2.2.2.2.2.2.2.2.2.2.2.2.2.2.2.2.2.2.2.1,
                                            z.2.2.2.2.2.2.2.2.2.2.2.2.2.2.2.2.2.2.2.2.2.2.2.2.2.2.2.2.2.1, z.2.2.2.2.2.2.2.2.2.2.2.2.2.2.2.2.2.2.2.2.2.2.2.2.2.2.2.2.2.2.1)
                                          fun y =>
                                          br y.2
                                            (F_bound_Tidy R
                                              (z.2.2.2.2.2.2.2.2.2.2.2.2.2.2.2.2.2.2.2.2.2.2.2.2.2.2.2.2.2.2.2.1, z.2.2.2.2.2.2.2.2.2.2.2.2.2.2.2.2.2.2.2.2.2.2.2.2.2.2.2.2.2.2.2.2.1,
                                                z.2.2.2.2.2.2.2.2.2.2.2.2.2.2.2.2.2.2.2.2.2.2.2.2.2.2.2.2.2.2.2.2.2.1, z.2.2.2.2.2.2.2.2.2.2.2.2.2.2.2.2.2.2.2.2.2.2.2.2.2.2.2.2.2.2.2.2.2.2.1,
                                                z.2.2.2.2.2.2.2.2.2.2.2.2.2.2.2.2.2.2.2.2.2.2.2.2.2.2.2.2.2.2.2.2.2.2.2.1, z.2.2.2.2.2.2.2.2.2.2.2.2.2.2.2.2.2.2.2.2.2.2.2.2.2.2.2.2.2.2.2.2.2.2.2.2.1)
                                              fun y_6 =>
                                              br (W.not y_6.2) (k ((0, 0, 0, 0, 0, 0), (0, 0, 0, 0, 0, 0), false))
                                                (k
                                                  ((y.1.1, y.1.2.1, y.1.2.2.1, y.1.2.2.2.1, y.1.2.2.2.2.1, y.1.2.2.2.2.2), (y_6.1.1, y_6.1.2.1, y_6.1.2.2.1, y_6.1.2.2.2.1, y_6.1.2.2.2.2.1, y_6.1.2.2.2.2.2),
                                                    true)))
                                            (br (W.not y.2) (k ((0, 0, 0, 0, 0, 0), (0, 0, 0, 0, 0, 0), false))
                                              (k
                                                ((y.1.1, y.1.2.1, y.1.2.2.1, y.1.2.2.2.1, y.1.2.2.2.2.1, y.1.2.2.2.2.2),
                                                  (z.2.2.2.2.2.2.2.2.2.2.2.2.2.2.2.2.2.2.2.2.2.2.2.2.2.2.2.2.2.2.2.1, z.2.2.2.2.2.2.2.2.2.2.2.2.2.2.2.2.2.2.2.2.2.2.2.2.2.2.2.2.2.2.2.2.1,
                                                    z.2.2.2.2.2.2.2.2.2.2.2.2.2.2.2.2.2.2.2.2.2.2.2.2.2.2.2.2.2.2.2.2.2.1, z.2.2.2.2.2.2.2.2.2.2.2.2.2.2.2.2.2.2.2.2.2.2.2.2.2.2.2.2.2.2.2.2.2.2.1,
                                                    z.2.2.2.2.2.2.2.2.2.2.2.2.2.2.2.2.2.2.2.2.2.2.2.2.2.2.2.2.2.2.2.2.2.2.2.1, z.2.2.2.2.2.2.2.2.2.2.2.2.2.2.2.2.2.2.2.2.2.2.2.2.2.2.2.2.2.2.2.2.2.2.2.2.1),
                                                  true))))
                                        (br z.1
                                          (F_bound_Tidy R
                                            (z.2.2.2.2.2.2.2.2.2.2.2.2.2.2.2.2.2.2.2.2.2.2.2.2.2.2.2.2.2.2.2.1, z.2.2.2.2.2.2.2.2.2.2.2.2.2.2.2.2.2.2.2.2.2.2.2.2.2.2.2.2.2.2.2.2.1,
                                              z.2.2.2.2.2.2.2.2.2.2.2.2.2.2.2.2.2.2.2.2.2.2.2.2.2.2.2.2.2.2.2.2.2.1, z.2.2.2.2.2.2.2.2.2.2.2.2.2.2.2.2.2.2.2.2.2.2.2.2.2.2.2.2.2.2.2.2.2.2.1,
                                              z.2.2.2.2.2.2.2.2.2.2.2.2.2.2.2.2.2.2.2.2.2.2.2.2.2.2.2.2.2.2.2.2.2.2.2.1, z.2.2.2.2.2.2.2.2.2.2.2.2.2.2.2.2.2.2.2.2.2.2.2.2.2.2.2.2.2.2.2.2.2.2.2.2.1)
                                            fun y =>
                                            br (W.not y.2) (k ((0, 0, 0, 0, 0, 0), (0, 0, 0, 0, 0, 0), false))
                                              (k
                                                ((z.2.2.2.2.2.2.2.2.2.2.2.2.2.2.2.2.2.2.2.2.2.2.2.2.2.1, z.2.2.2.2.2.2.2.2.2.2.2.2.2.2.2.2.2.2.2.2.2.2.2.2.2.2.1,
                                                    z.2.2.2.2.2.2.2.2.2.2.2.2.2.2.2.2.2.2.2.2.2.2.2.2.2.2.2.1, z.2.2.2.2.2.2.2.2.2.2.2.2.2.2.2.2.2.2.2.2.2.2.2.2.2.2.2.2.1,
                                                    z.2.2.2.2.2.2.2.2.2.2.2.2.2.2.2.2.2.2.2.2.2.2.2.2.2.2.2.2.2.1, z.2.2.2.2.2.2.2.2.2.2.2.2.2.2.2.2.2.2.2.2.2.2.2.2.2.2.2.2.2.2.1),
                                                  (y.1.1, y.1.2.1, y.1.2.2.1, y.1.2.2.2.1, y.1.2.2.2.2.1, y.1.2.2.2.2.2), true)))
                                          (br (W.not z.1) (k ((0, 0, 0, 0, 0, 0), (0, 0, 0, 0, 0, 0), false))
                                            (k
                                              ((z.2.2.2.2.2.2.2.2.2.2.2.2.2.2.2.2.2.2.2.2.2.2.2.2.2.1, z.2.2.2.2.2.2.2.2.2.2.2.2.2.2.2.2.2.2.2.2.2.2.2.2.2.2.1,
                                                  z.2.2.2.2.2.2.2.2.2.2.2.2.2.2.2.2.2.2.2.2.2.2.2.2.2.2.2.1, z.2.2.2.2.2.2.2.2.2.2.2.2.2.2.2.2.2.2.2.2.2.2.2.2.2.2.2.2.1,
                                                  z.2.2.2.2.2.2.2.2.2.2.2.2.2.2.2.2.2.2.2.2.2.2.2.2.2.2.2.2.2.1, z.2.2.2.2.2.2.2.2.2.2.2.2.2.2.2.2.2.2.2.2.2.2.2.2.2.2.2.2.2.2.1),
                                                (z.2.2.2.2.2.2.2.2.2.2.2.2.2.2.2.2.2.2.2.2.2.2.2.2.2.2.2.2.2.2.2.1, z.2.2.2.2.2.2.2.2.2.2.2.2.2.2.2.2.2.2.2.2.2.2.2.2.2.2.2.2.2.2.2.2.1,
                                                  z.2.2.2.2.2.2.2.2.2.2.2.2.2.2.2.2.2.2.2.2.2.2.2.2.2.2.2.2.2.2.2.2.2.1, z.2.2.2.2.2.2.2.2.2.2.2.2.2.2.2.2.2.2.2.2.2.2.2.2.2.2.2.2.2.2.2.2.2.2.1,
                                                  z.2.2.2.2.2.2.2.2.2.2.2.2.2.2.2.2.2.2.2.2.2.2.2.2.2.2.2.2.2.2.2.2.2.2.2.1, z.2.2.2.2.2.2.2.2.2.2.2.2.2.2.2.2.2.2.2.2.2.2.2.2.2.2.2.2.2.2.2.2.2.2.2.2.1),
                                                true))))))))
                          (br (W.and2 (W.not (W.pick y.2 y_1.2 false)) (W.not x3)) none
                            (br (W.not (W.pick y.2 y_1.2 false))
                              (br (W.not x3) none
                                (br (W.eq x0 64)
                                  (E_branch_bits_1 R
                                    (x2Umin, x2Umax, x2Smin, x2Smax, x2Bits_Value, x2Bits_Mask, x4, x1Umin, x1Umax, x1Smin, x1Smax, x1Bits_Value, x1Bits_Mask, x2Umin, x2Umax, x2Smin, x2Smax,
                                      x2Bits_Value, x2Bits_Mask, 0, 0, 0, 0, 0, 0, 0, 0, 0, 0, 0, 0, x1Umin, x1Umax, x1Smin, x1Smax, x1Bits_Value, x1Bits_Mask, x2Umin, x2Umax, x2Smin, x2Smax,
                                      x2Bits_Value, x2Bits_Mask, ())
                                    fun z =>
                                    br z.1
                                      (F_bound_Tidy R
                                        (z.2.2.2.2.2.2.2.2.2.2.2.2.2.2.2.2.2.2.2.2.2.2.2.2.2.1, z.2.2.2.2.2.2.2.2.2.2.2.2.2.2.2.2.2.2.2.2.2.2.2.2.2.2.1,
                                          z.2.2.2.2.2.2.2.2.2.2.2.2.2.2.2.2.2.2.2.2.2.2.2.2.2.2.2.1, z.2.2.2.2.2.2.2.2.2.2.2.2.2.2.2.2.2.2.2.2.2.2.2.2.2.2.2.2.1,
                                          z.2.2.2.2.2.2.2.2.2.2.2.2.2.2.2.2.2.2.2.2.2.2.2.2.2.2.2.2.2.1, z.2.2.2.2.2.2.2.2.2.2.2.2.2.2.2.2.2.2.2.2.2.2.2.2.2.2.2.2.2.2.1)
                                        fun y =>
                                        br y.2
                                          (F_bound_Tidy R
                                            (z.2.2.2.2.2.2.2.2.2.2.2.2.2.2.2.2.2.2.2.2.2.2.2.2.2.2.2.2.2.2.2.1, z.2.2.2.2.2.2.2.2.2.2.2.2.2.2.2.2.2.2.2.2.2.2.2.2.2.2.2.2.2.2.2.2.1,
                                              z.2.2.2.2.2.2.2.2.2.2.2.2.2.2.2.2.2.2.2.2.2.2.2.2.2.2.2.2.2.2.2.2.2.1, z.2.2.2.2.2.2.2.2.2.2.2.2.2.2.2.2.2.2.2.2.2.2.2.2.2.2.2.2.2.2.2.2.2.2.1,
                                              z.2.2.2.2.2.2.2.2.2.2.2.2.2.2.2.2.2.2.2.2.2.2.2.2.2.2.2.2.2.2.2.2.2.2.2.1, z.2.2.2.2.2.2.2.2.2.2.2.2.2.2.2.2.2.2.2.2.2.2.2.2.2.2.2.2.2.2.2.2.2.2.2.2.1)
                                            fun y_5 =>
                                            br (W.not y_5.2) (k ((0, 0, 0, 0, 0, 0), (0, 0, 0, 0, 0, 0), false))
                                              (k
                                                ((y.1.1, y.1.2.1, y.1.2.2.1, y.1.2.2.2.1, y.1.2.2.2.2.1, y.1.2.2.2.2.2), (y_5.1.1, y_5.1.2.1, y_5.1.2.2.1, y_5.1.2.2.2.1, y_5.1.2.2.2.2.1, y_5.1.2.2.2.2.2),
                                                  true)))
                                          (br (W.not y.2) (k ((0, 0, 0, 0, 0, 0), (0, 0, 0, 0, 0, 0), false))
                                            (k
                                              ((y.1.1, y.1.2.1, y.1.2.2.1, y.1.2.2.2.1, y.1.2.2.2.2.1, y.1.2.2.2.2.2),
                                                (z.2.2.2.2.2.2.2.2.2.2.2.2.2.2.2.2.2.2.2.2.2.2.2.2.2.2.2.2.2.2.2.1, z.2.2.2.2.2.2.2.2.2.2.2.2.2.2.2.2.2.2.2.2.2.2.2.2.2.2.2.2.2.2.2.2.1,
                                                  z.2.2.2.2.2.2.2.2.2.2.2.2.2.2.2.2.2.2.2.2.2.2.2.2.2.2.2.2.2.2.2.2.2.1, z.2.2.2.2.2.2.2.2.2.2.2.2.2.2.2.2.2.2.2.2.2.2.2.2.2.2.2.2.2.2.2.2.2.2.1,
                                                  z.2.2.2.2.2.2.2.2.2.2.2.2.2.2.2.2.2.2.2.2.2.2.2.2.2.2.2.2.2.2.2.2.2.2.2.1, z.2.2.2.2.2.2.2.2.2.2.2.2.2.2.2.2.2.2.2.2.2.2.2.2.2.2.2.2.2.2.2.2.2.2.2.2.1),
                                                true))))
                                      (br z.1
                                        (F_bound_Tidy R
                                          (z.2.2.2.2.2.2.2.2.2.2.2.2.2.2.2.2.2.2.2.2.2.2.2.2.2.2.2.2.2.2.2.1, z.2.2.2.2.2.2.2.2.2.2.2.2.2.2.2.2.2.2.2.2.2.2.2.2.2.2.2.2.2.2.2.2.1,
                                            z.2.2.2.2.2.2.2.2.2.2.2.2.2.2.2.2.2.2.2.2.2.2.2.2.2.2.2.2.2.2.2.2.2.1, z.2.2.2.2.2.2.2.2.2.2.2.2.2.2.2.2.2.2.2.2.2.2.2.2.2.2.2.2.2.2.2.2.2.2.1,
                                            z.2.2.2.2.2.2.2.2.2.2.2.2.2.2.2.2.2.2.2.2.2.2.2.2.2.2.2.2.2.2.2.2.2.2.2.1, z.2.2.2.2.2.2.2.2.2.2.2.2.2.2.2.2.2.2.2.2.2.2.2.2.2.2.2.2.2.2.2.2.2.2.2.2.1)
                                          fun y =>
                                          br (W.not y.2) (k ((0, 0, 0, 0, 0, 0), (0, 0, 0, 0, 0, 0), false))
                                            (k
                                              ((z.2.2.2.2.2.2.2.2.2.2.2.2.2.2.2.2.2.2.2.2.2.2.2.2.2.1, z.2.2.2.2.2.2.2.2.2.2.2.2.2.2.2.2.2.2.2.2.2.2.2.2.2.2.1,
                                                  z.2.2.2.2.2.2.2.2.2.2.2.2.2.2.2.2.2.2.2.2.2.2.2.2.2.2.2.1, z.2.2.2.2.2.2.2.2.2.2.2.2.2.2.2.2.2.2.2.2.2.2.2.2.2.2.2.2.1,
                                                  z.2.2.2.2.2.2.2.2.2.2.2.2.2.2.2.2.2.2.2.2.2.2.2.2.2.2.2.2.2.1, z.2.2.2.2.2.2.2.2.2.2.2.2.2.2.2.2.2.2.2.2.2.2.2.2.2.2.2.2.2.2.1),
                                                (y.1.1, y.1.2.1, y.1.2.2.1, y.1.2.2.2.1, y.1.2.2.2.2.1, y.1.2.2.2.2.2), true)))
                                        (br (W.not z.1) (k ((0, 0, 0, 0, 0, 0), (0, 0, 0, 0, 0, 0), false))
                                          (k
                                            ((z.2.2.2.2.2.2.2.2.2.2.2.2.2.2.2.2.2.2.2.2.2.2.2.2.2.1, z.2.2.2.2.2.2.2.2.2.2.2.2.2.2.2.2.2.2.2.2.2.2.2.2.2.2.1,
                                                z.2.2.2.2.2.2.2.2.2.2.2.2.2.2.2.2.2.2.2.2.2.2.2.2.2.2.2.1, z.2.2.2.2.2.2.2.2.2.2.2.2.2.2.2.2.2.2.2.2.2.2.2.2.2.2.2.2.1,
                                                z.2.2.2.2.2.2.2.2.2.2.2.2.2.2.2.2.2.2.2.2.2.2.2.2.2.2.2.2.2.1, z.2.2.2.2.2.2.2.2.2.2.2.2.2.2.2.2.2.2.2.2.2.2.2.2.2.2.2.2.2.2.1),
                                              (z.2.2.2.2.2.2.2.2.2.2.2.2.2.2.2.2.2.2.2.2.2.2.2.2.2.2.2.2.2.2.2.1, z.2.2.2.2.2.2.2.2.2.2.2.2.2.2.2.2.2.2.2.2.2.2.2.2.2.2.2.2.2.2.2.2.1,
                                                z.2.2.2.2.2.2.2.2.2.2.2.2.2.2.2.2.2.2.2.2.2.2.2.2.2.2.2.2.2.2.2.2.2.1, z.2.2.2.2.2.2.2.2.2.2.2.2.2.2.2.2.2.2.2.2.2.2.2.2.2.2.2.2.2.2.2.2.2.2.1,
                                                z.2.2.2.2.2.2.2.2.2.2.2.2.2.2.2.2.2.2.2.2.2.2.2.2.2.2.2.2.2.2.2.2.2.2.2.1, z.2.2.2.2.2.2.2.2.2.2.2.2.2.2.2.2.2.2.2.2.2.2.2.2.2.2.2.2.2.2.2.2.2.2.2.2.1),
                                              true)))))
                                  (br x4
                                    (E_branch_hold_1 R
                                      (x0, x1Umin, x1Umax, x1Smin, x1Smax, x1Bits_Value, x1Bits_Mask, x2Umin, x2Umax, x2Smin, x2Smax, x2Bits_Value, x2Bits_Mask, 0, 0, 0, 0, 0, 0, 0, 0, 0, 0, 0,
                                        0, x1Umin, x1Umax, x1Smin, x1Smax, x1Bits_Value, x1Bits_Mask, x2Umin, x2Umax, x2Smin, x2Smax, x2Bits_Value, x2Bits_Mask, ())
                                      fun z =>
                                      br z.1
                                        (F_bound_Tidy R
                                          (z.2.2.2.2.2.2.2.2.2.2.2.2.2.2.2.2.2.2.2.2.2.2.2.2.2.1, z.2.2.2.2.2.2.2.2.2.2.2.2.2.2.2.2.2.2.2.2.2.2.2.2.2.2.1,
                                            z.2.2.2.2.2.2.2.2.2.2.2.2.2.2.2.2.2.2.2.2.2.2.2.2.2.2.2.1, z.2.2.2.2.2.2.2.2.2.2.2.2.2.2.2.2.2.2.2.2.2.2.2.2.2.2.2.2.1,
                                            z.2.2.2.2.2.2.2.2.2.2.2.2.2.2.2.2.2.2.2.2.2.2.2.2.2.2.2.2.2.1, z.2.2.2.2.2.2.2.2.2.2.2.2.2.2.2.2.2.2.2.2.2.2.2.2.2.2.2.2.2.2.1)
                                          fun y =>
                                          br y.2
                                            (F_bound_Tidy R
                                              (z.2.2.2.2.2.2.2.2.2.2.2.2.2.2.2.2.2.2.2.2.2.2.2.2.2.2.2.2.2.2.2.1, z.2.2.2.2.2.2.2.2.2.2.2.2.2.2.2.2.2.2.2.2.2.2.2.2.2.2.2.2.2.2.2.2.1,
                                                z.2.2.2.2.2.2.2.2.2.2.2.2.2.2.2.2.2.2.2.2.2.2.2.2.2.2.2.2.2.2.2.2.2.1, z.2.2.2.2.2.2.2.2.2.2.2.2.2.2.2.2.2.2.2.2.2.2.2.2.2.2.2.2.2.2.2.2.2.2.1,
                                                z.2.2.2.2.2.2.2.2.2.2.2.2.2.2.2.2.2.2.2.2.2.2.2.2.2.2.2.2.2.2.2.2.2.2.2.1, z.2.2.2.2.2.2.2.2.2.2.2.2.2.2.2.2.2.2.2.2.2.2.2.2.2.2.2.2.2.2.2.2.2.2.2.2.1)
                                              fun y_5 =>
                                              br (W.not y_5.2) (k ((0, 0, 0, 0, 0, 0), (0, 0, 0, 0, 0, 0), false))
                                                (k
                                                  ((y.1.1, y.1.2.1, y.1.2.2.1, y.1.2.2.2.1, y.1.2.2.2.2.1, y.1.2.2.2.2.2), (y_5.1.1, y_5.1.2.1, y_5.1.2.2.1, y_5.1.2.2.2.1, y_5.1.2.2.2.2.1, y_5.1.2.2.2.2.2),
                                                    true)))
                                            (br (W.not y.2) (k ((0, 0, 0, 0, 0, 0), (0, 0, 0, 0, 0, 0), false))
                                              (k
                                                ((y.1.1, y.1.2.1, y.1.2.2.1, y.1.2.2.2.1, y.1.2.2.2.2.1, y.1.2.2.2.2.2),
                                                  (z.2.2.2.2.2.2.2.2.2.2.2.2.2.2.2.2.2.2.2.2.2.2.2.2.2.2.2.2.2.2.2.1, z.2.2.2.2.2.2.2.2.2.2.2.2.2.2.2.2.2.2.2.2.2.2.2.2.2.2.2.2.2.2.2.2.1,
                                                    z.2.2.2.2.2.2.2.2.2.2.2.2.2.2.2.2.2.2.2.2.2.2.2.2.2.2.2.2.2.2.2.2.2.1, z.2.2.2.2.2.2.2.2.2.2.2.2.2.2.2.2.2.2.2.2.2.2.2.2.2.2.2.2.2.2.2.2.2.2.1,
                                                    z.2.2.2.2.2.2.2.2.2.2.2.2.2.2.2.2.2.2.2.2.2.2.2.2.2.2.2.2.2.2.2.2.2.2.2.1, z.2.2.2.2.2.2.2.2.2.2.2.2.2.2.2.2.2.2.2.2.2.2.2.2.2.2.2.2.2.2.2.2.2.2.2.2.1),
                                                  true))))
                                        (br z.1
                                          (F_bound_Tidy R
                                            (z.2.2.2.2.2.2.2.2.2.2.2.2.2.2.2.2.2.2.2.2.2.2.2.2.2.2.2.2.2.2.2.1, z.2.2.2.2.2.2.2.2.2.2.2.2.2.2.2.2.2.2.2.2.2.2.2.2.2.2.2.2.2.2.2.2.1,
                                              z.2.2.2.2.2.2.2.2.2.2.2.2.2.2.2.2.2.2.2.2.2.2.2.2.2.2.2.2.2.2.2.2.2.1, z.2.2.2.2.2.2.2.2.2.2.2.2.2.2.2.2.2.2.2.2.2.2.2.2.2.2.2.2.2.2.2.2.2.2.1,
                                              z.2.2.2.2.2.2.2.2.2.2.2.2.2.2.2.2.2.2.2.2.2.2.2.2.2.2.2.2.2.2.2.2.2.2.2.1, z.2.2.2.2.2.2.2.2.2.2.2.2.2.2.2.2.2.2.2.2.2.2.2.2.2.2.2.2.2.2.2.2.2.2.2.2.1)
                                            fun y =>
                                            br (W.not y.2) (k ((0, 0, 0, 0, 0, 0), (0, 0, 0, 0, 0, 0), false))
                                              (k
                                                ((z.2.2.2.2.2.2.2.2.2.2.2.2.2.2.2.2.2.2.2.2.2.2.2.2.2.1, z.2.2.2.2.2.2.2.2.2.2.2.2.2.2.2.2.2.2.2.2.2.2.2.2.2.2.1,
                                                    z.2.2.2.2.2.2.2.2.2.2.2.2.2.2.2.2.2.2.2.2.2.2.2.2.2.2.2.1, z.2.2.2.2.2.2.2.2.2.2.2.2.2.2.2.2.2.2.2.2.2.2.2.2.2.2.2.2.1,
                                                    z.2.2.2.2.2.2.2.2.2.2.2.2.2.2.2.2.2.2.2.2.2.2.2.2.2.2.2.2.2.1, z.2.2.2.2.2.2.2.2.2.2.2.2.2.2.2.2.2.2.2.2.2.2.2.2.2.2.2.2.2.2.1),
                                                  (y.1.1, y.1.2.1, y.1.2.2.1, y.1.2.2.2.1, y.1.2.2.2.2.1, y.1.2.2.2.2.2), true)))
                                          (br (W.not z.1) (k ((0, 0, 0, 0, 0, 0), (0, 0, 0, 0, 0, 0), false))
                                            (k
                                              ((z.2.2.2.2.2.2.2.2.2.2.2.2.2.2.2.2.2.2.2.2.2.2.2.2.2.1, z.2.2.2.2.2.2.2.2.2.2.2.2.2.2.2.2.2.2.2.2.2.2.2.2.2.2.1,
                                                  z.2.2.2.2.2.2.2.2.2.2.2.2.2.2.2.2.2.2.2.2.2.2.2.2.2.2.2.1, z.2.2.2.2.2.2.2.2.2.2.2.2.2.2.2.2.2.2.2.2.2.2.2.2.2.2.2.2.1,
                                                  z.2.2.2.2.2.2.2.2.2.2.2.2.2.2.2.2.2.2.2.2.2.2.2.2.2.2.2.2.2.1, z.2.2.2.2.2.2.2.2.2.2.2.2.2.2.2.2.2.2.2.2.2.2.2.2.2.2.2.2.2.2.1),
                                                (z.2.2.2.2.2.2.2.2.2.2.2.2.2.2.2.2.2.2.2.2.2.2.2.2.2.2.2.2.2.2.2.1, z.2.2.2.2.2.2.2.2.2.2.2.2.2.2.2.2.2.2.2.2.2.2.2.2.2.2.2.2.2.2.2.2.1,
                                                  z.2.2.2.2.2.2.2.2.2.2.2.2.2.2.2.2.2.2.2.2.2.2.2.2.2.2.2.2.2.2.2.2.2.1, z.2.2.2.2.2.2.2.2.2.2.2.2.2.2.2.2.2.2.2.2.2.2.2.2.2.2.2.2.2.2.2.2.2.2.1,
                                                  z.2.2.2.2.2.2.2.2.2.2.2.2.2.2.2.2.2.2.2.2.2.2.2.2.2.2.2.2.2.2.2.2.2.2.2.1, z.2.2.2.2.2.2.2.2.2.2.2.2.2.2.2.2.2.2.2.2.2.2.2.2.2.2.2.2.2.2.2.2.2.2.2.2.1),
                                                true)))))
                                    (F_branch_Opposite R x0 fun y =>
                                      E_branch_hold_1 R
                                        (y, x1Umin, x1Umax, x1Smin, x1Smax, x1Bits_Value, x1Bits_Mask, x2Umin, x2Umax, x2Smin, x2Smax, x2Bits_Value, x2Bits_Mask, 0, 0, 0, 0, 0, 0, 0, 0, 0, 0, 0,
                                          0, x1Umin, x1Umax, x1Smin, x1Smax, x1Bits_Value, x1Bits_Mask, x2Umin, x2Umax, x2Smin, x2Smax, x2Bits_Value, x2Bits_Mask, ())
                                        fun z =>
                                        br z.1
                                          (F_bound_Tidy R
                                            (z.2.2.2.2.2.2.2.2.2.2.2.2.2.2.2.2.2.2.2.2.2.2.2.2.2.1, z.2.2.2.2.2.2.2.2.2.2.2.2.2.2.2.2.2.2.2.2.2.2.2.2.2.2.1,
                                              z.2.2.2.2.2.2.2.2.2.2.2.2.2.2.2.2.2.2.2.2.2.2.2.2.2.2.2.1, z.2.2.2.2.2.2.2.2.2.2.2.2.2.2.2.2.2.2.2.2.2.2.2.2.2.2.2.2.1,
                                              z.2.2.2.2.2.2.2.2.2.2.2.2.2.2.2.2.2.2.2.2.2.2.2.2.2.2.2.2.2.1, z.2.2.2.2.2.2.2.2.2.2.2.2.2.2.2.2.2.2.2.2.2.2.2.2.2.2.2.2.2.2.1)
                                            fun y =>
                                            br y.2
                                              (F_bound_Tidy R
                                                (z.2.2.2.2.2.2.2.2.2.2.2.2.2.2.2.2.2.2.2.2.2.2.2.2.2.2.2.2.2.2.2.1, z.2.2.2.2.2.2.2.2.2.2.2.2.2.2.2.2.2.2.2.2.2.2.2.2.2.2.2.2.2.2.2.2.1,
                                                  z.2.2.2.2.2.2.2.2.2.2.2.2.2.2.2.2.2.2.2.2.2.2.2.2.2.2.2.2.2.2.2.2.2.1, z.2.2.2.2.2.2.2.2.2.2.2.2.2.2.2.2.2.2.2.2.2.2.2.2.2.2.2.2.2.2.2.2.2.2.1,
                                                  z.2.2.2.2.2.2.2.2.2.2.2.2.2.2.2.2.2.2.2.2.2.2.2.2.2.2.2.2.2.2.2.2.2.2.2.1, z.2.2.2.2.2.2.2.2.2.2.2.2.2.2.2.2.2.2.2.2.2.2.2.2.2.2.2.2.2.2.2.2.2.2.2.2.1)
                                                fun y_5 =>
                                                br (W.not y_5.2) (k ((0, 0, 0, 0, 0, 0), (0, 0, 0, 0, 0, 0), false))
                                                  (k
                                                    ((y.1.1, y.1.2.1, y.1.2.2.1, y.1.2.2.2.1, y.1.2.2.2.2.1, y.1.2.2.2.2.2),
                                                      (y_5.1.1, y_5.1.2.1, y_5.1.2.2.1, y_5.1.2.2.2.1, y_5.1.2.2.2.2.1, y_5.1.2.2.2.2.2), true)))
                                              (br (W.not y.2) (k ((0, 0, 0, 0, 0, 0), (0, 0, 0, 0, 0, 0), false))
                                                (k
                                                  ((y.1.1, y.1.2.1, y.1.2.2.1, y.1.2.2.2.1, y.1.2.2.2.2.1, y.1.2.2.2.2.2),
                                                    (z.2.2.2.2.2.2.2.2.2.2.2.2.2.2.2.2.2.2.2.2.2.2.2.2.2.2.2.2.2.2.2.1, z.2.2.2.2.2.2.2.2.2.2.2.2.2.2.2.2.2.2.2.2.2.2.2.2.2.2.2.2.2.2.2.2.1,
                                                      z.2.2.2.2.2.2.2.2.2.2.2.2.2.2.2.2.2.2.2.2.2.2.2.2.2.2.2.2.2.2.2.2.2.1, z.2.2.2.2.2.2.2.2.2.2.2.2.2.2.2.2.2.2.2.2.2.2.2.2.2.2.2.2.2.2.2.2.2.2.1,
                                                      z.2.2.2.2.2.2.2.2.2.2.2.2.2.2.2.2.2.2.2.2.2.2.2.2.2.2.2.2.2.2.2.2.2.2.2.1, z.2.2.2.2.2.2.2.2.2.2.2.2.2.2.2.2.2.2.2.2.2.2.2.2.2.2.2.2.2.2.2.2.2.2.2.2.1),
                                                    true))))
                                          (br z.1
                                            (F_bound_Tidy R
                                              (z.2.2.2.2.2.2.2.2.2.2.2.2.2.2.2.2.2.2.2.2.2.2.2.2.2.2.2.2.2.2.2.1, z.2.2.2.2.2.2.2.2.2.2.2.2.2.2.2.2.2.2.2.2.2.2.2.2.2.2.2.2.2.2.2.2.1,
                                                z.2.2.2.2.2.2.2.2.2.2.2.2.2.2.2.2.2.2.2.2.2.2.2.2.2.2.2.2.2.2.2.2.2.1, z.2.2.2.2.2.2.2.2.2.2.2.2.2.2.2.2.2.2.2.2.2.2.2.2.2.2.2.2.2.2.2.2.2.2.1,
                                                z.2.2.2.2.2.2.2.2.2.2.2.2.2.2.2.2.2.2.2.2.2.2.2.2.2.2.2.2.2.2.2.2.2.2.2.1, z.2.2.2.2.2.2.2.2.2.2.2.2.2.2.2.2.2.2.2.2.2.2.2.2.2.2.2.2.2.2.2.2.2.2.2.2.1)
                                              fun y =>
                                              br (W.not y.2) (k ((0, 0, 0, 0, 0, 0), (0, 0, 0, 0, 0, 0), false))
                                                (k
                                                  ((z.2.2.2.2.2.2.2.2.2.2.2.2.2.2.2.2.2.2.2.2.2.2.2.2.2.1, z.2.2.2.2.2.2.2.2.2.2.2.2.2.2.2.2.2.2.2.2.2.2.2.2.2.2.1,
                                                      z.2.2.2.2.2.2.2.2.2.2.2.2.2.2.2.2.2.2.2.2.2.2.2.2.2.2.2.1, z.2.2.2.2.2.2.2.2.2.2.2.2.2.2.2.2.2.2.2.2.2.2.2.2.2.2.2.2.1,
                                                      z.2.2.2.2.2.2.2.2.2.2.2.2.2.2.2.2.2.2.2.2.2.2.2.2.2.2.2.2.2.1, z.2.2.2.2.2.2.2.2.2.2.2.2.2.2.2.2.2.2.2.2.2.2.2.2.2.2.2.2.2.2.1),
                                                    (y.1.1, y.1.2.1, y.1.2.2.1, y.1.2.2.2.1, y.1.2.2.2.2.1, y.1.2.2.2.2.2), true)))
                                            (br (W.not z.1) (k ((0, 0, 0, 0, 0, 0), (0, 0, 0, 0, 0, 0), false))
                                              (k
                                                ((z.2.2.2.2.2.2.2.2.2.2.2.2.2.2.2.2.2.2.2.2.2.2.2.2.2.1, z.2.2.2.2.2.2.2.2.2.2.2.2.2.2.2.2.2.2.2.2.2.2.2.2.2.2.1,
                                                    z.2.2.2.2.2.2.2.2.2.2.2.2.2.2.2.2.2.2.2.2.2.2.2.2.2.2.2.1, z.2.2.2.2.2.2.2.2.2.2.2.2.2.2.2.2.2.2.2.2.2.2.2.2.2.2.2.2.1,
                                                    z.2.2.2.2.2.2.2.2.2.2.2.2.2.2.2.2.2.2.2.2.2.2.2.2.2.2.2.2.2.1, z.2.2.2.2.2.2.2.2.2.2.2.2.2.2.2.2.2.2.2.2.2.2.2.2.2.2.2.2.2.2.1),
                                                  (z.2.2.2.2.2.2.2.2.2.2.2.2.2.2.2.2.2.2.2.2.2.2.2.2.2.2.2.2.2.2.2.1, z.2.2.2.2.2.2.2.2.2.2.2.2.2.2.2.2.2.2.2.2.2.2.2.2.2.2.2.2.2.2.2.2.1,
                                                    z.2.2.2.2.2.2.2.2.2.2.2.2.2.2.2.2.2.2.2.2.2.2.2.2.2.2.2.2.2.2.2.2.2.1, z.2.2.2.2.2.2.2.2.2.2.2.2.2.2.2.2.2.2.2.2.2.2.2.2.2.2.2.2.2.2.2.2.2.2.1,
                                                    z.2.2.2.2.2.2.2.2.2.2.2.2.2.2.2.2.2.2.2.2.2.2.2.2.2.2.2.2.2.2.2.2.2.2.2.1, z.2.2.2.2.2.2.2.2.2.2.2.2.2.2.2.2.2.2.2.2.2.2.2.2.2.2.2.2.2.2.2.2.2.2.2.2.1),
                                                  true))))))))
                              (k ((x1Umin, x1Umax, x1Smin, x1Smax, x1Bits_Value, x1Bits_Mask), (x2Umin, x2Umax, x2Smin, x2Smax, x2Bits_Value, x2Bits_Mask), true)))))))
                  (k ((x1Umin, x1Umax, x1Smin, x1Smax, x1Bits_Value, x1Bits_Mask), (x2Umin, x2Umax, x2Smin, x2Smax, x2Bits_Value, x2Bits_Mask), true)))
              (k ((x1Umin, x1Umax, x1Smin, x1Smax, x1Bits_Value, x1Bits_Mask), (x2Umin, x2Umax, x2Smin, x2Smax, x2Bits_Value, x2Bits_Mask), true))
theorem S_branch_Refine {F_branch_Opposite : FT ps_branch_Opposite qs_branch_Opposite} {F_bound_Value : FT ps_bound_Value qs_bound_Value} {F_word_Cond : FT ps_word_Cond qs_word_Cond} {F_bound_Check : FT ps_bound_Check qs_bound_Check} {F_branch_near : FT ps_branch_near qs_branch_near} {F_tnum_Meet : FT ps_tnum_Meet qs_tnum_Meet} {F_bound_Tidy : FT ps_bound_Tidy qs_bound_Tidy} {F_bound_Meet : FT ps_bound_Meet qs_bound_Meet} {E_branch_bits_1 : TE_branch_bits_1} {E_branch_hold_1 : TE_branch_hold_1} (h_branch_Opposite : SpecOk Try.prog 14 (mkS ps_branch_Opposite qs_branch_Opposite F_branch_Opposite)) (h_bound_Value : SpecOk Try.prog 19 (mkS ps_bound_Value qs_bound_Value F_bound_Value)) (h_word_Cond : SpecOk Try.prog 20 (mkS ps_word_Cond qs_word_Cond F_word_Cond)) (h_bound_Check : SpecOk Try.prog 21 (mkS ps_bound_Check qs_bound_Check F_bound_Check)) (h_branch_near : SpecOk Try.prog 22 (mkS ps_branch_near qs_branch_near F_branch_near)) (h_tnum_Meet : SpecOk Try.prog 39 (mkS ps_tnum_Meet qs_tnum_Meet F_tnum_Meet)) (h_bound_Tidy : SpecOk Try.prog 25 (mkS ps_bound_Tidy qs_bound_Tidy F_bound_Tidy)) (h_bound_Meet : SpecOk Try.prog 40 (mkS ps_bound_Meet qs_bound_Meet F_bound_Meet)) (h_branch_bits_1 : ESpOk Try.prog 23 (mkE pa_branch_bits_1 ph_branch_bits_1 pr_branch_bits_1 pz_branch_bits_1 E_branch_bits_1)) (h_branch_hold_1 : ESpOk Try.prog 24 (mkE pa_branch_hold_1 ph_branch_hold_1 pr_branch_hold_1 pz_branch_hold_1 E_branch_hold_1)) : SpecOk Try.prog 10 (mkS ps_branch_Refine qs_branch_Refine (N_branch_Refine F_branch_Opposite F_bound_Value F_word_Cond F_bound_Check F_branch_near F_tnum_Meet F_bound_Tidy F_bound_Meet E_branch_bits_1 E_branch_hold_1)) :=
  specOkE_mk (fl := 10) (d := 12) (cfgOk_cons (cfgOk_cons (cfgOk_cons (cfgOk_cons (cfgOk_cons (cfgOk_cons (cfgOk_cons (cfgOk_cons base h_bound_Meet) h_bound_Tidy) h_tnum_Meet) h_branch_near) h_bound_Check) h_word_Cond) h_bound_Value) h_branch_Opposite) (esOk_cons (esOk_cons esOk_nil h_branch_hold_1) h_branch_bits_1) (by rintro R ⟨x0, ⟨x1Umin, x1Umax, x1Smin, x1Smax, ⟨x1Bits_Value, x1Bits_Mask⟩⟩, ⟨x2Umin, x2Umax, x2Smin, x2Smax, ⟨x2Bits_Value, x2Bits_Mask⟩⟩, x3, x4⟩ k; kernel_rfl)
noncomputable def F_branch_Refine : FT ps_branch_Refine qs_branch_Refine := N_branch_Refine F_branch_Opposite F_bound_Value F_word_Cond F_bound_Check F_branch_near F_tnum_Meet F_bound_Tidy F_bound_Meet E_branch_bits_1 E_branch_hold_1 
theorem ok_branch_Refine : SpecOk Try.prog 10 (mkS ps_branch_Refine qs_branch_Refine F_branch_Refine) := S_branch_Refine ok_branch_Opposite ok_bound_Value ok_word_Cond ok_bound_Check ok_branch_near ok_tnum_Meet ok_bound_Tidy ok_bound_Meet okE_branch_bits_1 okE_branch_hold_1
abbrev ps_clevisref07Const : List PT := [.one (.int .u64)]
abbrev qs_clevisref07Const : List PT := [.agg ((.prod (.int .u64) (.int .u64)))]
noncomputable def N_clevisref07Const   : FT ps_clevisref07Const qs_clevisref07Const := fun R x k => match x with
  | x0 => 
      k (x0, 0)
theorem S_clevisref07Const   : SpecOk Try.prog 26 (mkS ps_clevisref07Const qs_clevisref07Const (N_clevisref07Const )) :=
  specOk_mk (fl := 10) (d := 12) base (by intro R x0 k; kernel_rfl)
noncomputable def F_clevisref07Const : FT ps_clevisref07Const qs_clevisref07Const := N_clevisref07Const  
theorem ok_clevisref07Const : SpecOk Try.prog 26 (mkS ps_clevisref07Const qs_clevisref07Const F_clevisref07Const) := S_clevisref07Const 
abbrev ps_clevisref08Const : List PT := [.one (.int .u64)]
abbrev qs_clevisref08Const : List PT := [.agg ((.prod (.int .u64) (.prod (.int .u64) (.prod (.int .i64) (.prod (.int .i64) ((.prod (.int .u64) (.int .u64))))))))]
noncomputable def N_clevisref08Const (F_clevisref07Const : FT ps_clevisref07Const qs_clevisref07Const)  : FT ps_clevisref08Const qs_clevisref08Const := fun R x k => match x with
  | x0 => 
      F_clevisref07Const R x0 fun y => k (x0, x0, W.wrap IntKind.i64 x0, W.wrap IntKind.i64 x0, y.1, y.2)
theorem S_clevisref08Const {F_clevisref07Const : FT ps_clevisref07Const qs_clevisref07Const} (h_clevisref07Const : SpecOk Try.prog 26 (mkS ps_clevisref07Const qs_clevisref07Const F_clevisref07Const)) : SpecOk Try.prog 11 (mkS ps_clevisref08Const qs_clevisref08Const (N_clevisref08Const F_clevisref07Const)) :=
  specOk_mk (fl := 10) (d := 12) (cfgOk_cons base h_clevisref07Const) (by intro R x0 k; kernel_rfl)
noncomputable def F_clevisref08Const : FT ps_clevisref08Const qs_clevisref08Const := N_clevisref08Const F_clevisref07Const 
theorem ok_clevisref08Const : SpecOk Try.prog 11 (mkS ps_clevisref08Const qs_clevisref08Const F_clevisref08Const) := S_clevisref08Const ok_clevisref07Const
abbrev ps_clevisref07Any : List PT := []
abbrev qs_clevisref07Any : List PT := [.agg ((.prod (.int .u64) (.int .u64)))]
noncomputable def N_clevisref07Any   : FT ps_clevisref07Any qs_clevisref07Any := fun R x k => match x with
  | () => 
      k (0, 18446744073709551615)
theorem S_clevisref07Any   : SpecOk Try.prog 49 (mkS ps_clevisref07Any qs_clevisref07Any (N_clevisref07Any )) :=
  specOk_mk (fl := 10) (d := 12) base (by intro R x k; kernel_rfl)
noncomputable def F_clevisref07Any : FT ps_clevisref07Any qs_clevisref07Any := N_clevisref07Any  
theorem ok_clevisref07Any : SpecOk Try.prog 49 (mkS ps_clevisref07Any qs_clevisref07Any F_clevisref07Any) := S_clevisref07Any 
abbrev ps_clevisref08Any : List PT := []
abbrev qs_clevisref08Any : List PT := [.agg ((.prod (.int .u64) (.prod (.int .u64) (.prod (.int .i64) (.prod (.int .i64) ((.prod (.int .u64) (.int .u64))))))))]
noncomputable def N_clevisref08Any (F_clevisref07Any : FT ps_clevisref07Any qs_clevisref07Any)  : FT ps_clevisref08Any qs_clevisref08Any := fun R x k => match x with
  | () => 
      F_clevisref07Any R () fun y => k (0, 18446744073709551615, -9223372036854775808, 9223372036854775807, y.1, y.2)
theorem S_clevisref08Any {F_clevisref07Any : FT ps_clevisref07Any qs_clevisref07Any} (h_clevisref07Any : SpecOk Try.prog 49 (mkS ps_clevisref07Any qs_clevisref07Any F_clevisref07Any)) : SpecOk Try.prog 27 (mkS ps_clevisref08Any qs_clevisref08Any (N_clevisref08Any F_clevisref07Any)) :=
  specOk_mk (fl := 10) (d := 12) (cfgOk_cons base h_clevisref07Any) (by intro R x k; kernel_rfl)
noncomputable def F_clevisref08Any : FT ps_clevisref08Any qs_clevisref08Any := N_clevisref08Any F_clevisref07Any 
theorem ok_clevisref08Any : SpecOk Try.prog 27 (mkS ps_clevisref08Any qs_clevisref08Any F_clevisref08Any) := S_clevisref08Any ok_clevisref07Any
abbrev ps_clevislaw10heads : List PT := []
abbrev qs_clevislaw10heads : List PT := [.one (.bool)]
noncomputable def N_clevislaw10heads (F_branch_Opposite : FT ps_branch_Opposite qs_branch_Opposite) (F_branch_Refine : FT ps_branch_Refine qs_branch_Refine) (F_clevisref08Const : FT ps_clevisref08Const qs_clevisref08Const) (F_clevisref08Any : FT ps_clevisref08Any qs_clevisref08Any)  : FT ps_clevislaw10heads qs_clevislaw10heads := fun R x k => match x with
  | () => 
      F_clevisref08Any R () fun y =>
        F_clevisref08Const R 10 fun y_1 =>
          F_branch_Refine R (160, (y.1, y.2.1, y.2.2.1, y.2.2.2.1, y.2.2.2.2.1, y.2.2.2.2.2), (y_1.1, y_1.2.1, y_1.2.2.1, y_1.2.2.2.1, y_1.2.2.2.2.1, y_1.2.2.2.2.2), true, true) fun y =>
            F_clevisref08Const R 1 fun y_2 =>
              F_clevisref08Const R 1 fun y_3 =>
                F_branch_Refine R (32, (y_2.1, y_2.2.1, y_2.2.2.1, y_2.2.2.2.1, y_2.2.2.2.2.1, y_2.2.2.2.2.2), (y_3.1, y_3.2.1, y_3.2.2.1, y_3.2.2.2.1, y_3.2.2.2.2.1, y_3.2.2.2.2.2), true, true) fun y_4 =>
                  F_clevisref08Any R () fun y_5 =>
                    F_clevisref08Const R 6 fun y_6 =>
                      F_branch_Refine R (64, (y_5.1, y_5.2.1, y_5.2.2.1, y_5.2.2.2.1, y_5.2.2.2.2.1, y_5.2.2.2.2.2), (y_6.1, y_6.2.1, y_6.2.2.1, y_6.2.2.2.1, y_6.2.2.2.2.1, y_6.2.2.2.2.2), true, false)
                        fun y_7 =>
                        br (W.pick (W.pick y.2.2 (W.eq y.1.2.1 9) false) (W.eq y.1.2.2.1 0) false)
                          (F_clevisref08Const R 10 fun y_8 =>
                            br
                              (W.pick
                                (W.pick
                                  (W.pick
                                    (W.pick true
                                      (W.and2 (W.eq y.2.1.1 y_8.1)
                                        (W.and2 (W.eq y.2.1.2.1 y_8.2.1)
                                          (W.and2 (W.eq y.2.1.2.2.1 y_8.2.2.1)
                                            (W.and2 (W.eq y.2.1.2.2.2.1 y_8.2.2.2.1) (W.and2 (W.eq y.2.1.2.2.2.2.1 y_8.2.2.2.2.1) (W.and2 (W.eq y.2.1.2.2.2.2.2 y_8.2.2.2.2.2) true))))))
                                      false)
                                    (W.not y_4.2.2) false)
                                  y_7.2.2 false)
                                (W.eq y_7.1.2.2.2.2.2 18446744073709551609) false)
                              (F_branch_Opposite R 16 fun y => br (W.pick true (W.eq y 80) false) (F_branch_Opposite R 64 fun y => k (W.pick true (W.eq y (-1)) false)) (k false)) (k false))
                          (k false)
theorem S_clevislaw10heads {F_branch_Opposite : FT ps_branch_Opposite qs_branch_Opposite} {F_branch_Refine : FT ps_branch_Refine qs_branch_Refine} {F_clevisref08Const : FT ps_clevisref08Const qs_clevisref08Const} {F_clevisref08Any : FT ps_clevisref08Any qs_clevisref08Any} (h_branch_Opposite : SpecOk Try.prog 14 (mkS ps_branch_Opposite qs_branch_Opposite F_branch_Opposite)) (h_branch_Refine : SpecOk Try.prog 10 (mkS ps_branch_Refine qs_branch_Refine F_branch_Refine)) (h_clevisref08Const : SpecOk Try.prog 11 (mkS ps_clevisref08Const qs_clevisref08Const F_clevisref08Const)) (h_clevisref08Any : SpecOk Try.prog 27 (mkS ps_clevisref08Any qs_clevisref08Any F_clevisref08Any)) : SpecOk Try.prog 12 (mkS ps_clevislaw10heads qs_clevislaw10heads (N_clevislaw10heads F_branch_Opposite F_branch_Refine F_clevisref08Const F_clevisref08Any)) :=
  specOk_mk (fl := 10) (d := 12) (cfgOk_cons (cfgOk_cons (cfgOk_cons (cfgOk_cons base h_clevisref08Any) h_clevisref08Const) h_branch_Refine) h_branch_Opposite) (by intro R x k; kernel_rfl)
noncomputable def F_clevislaw10heads : FT ps_clevislaw10heads qs_clevislaw10heads := N_clevislaw10heads F_branch_Opposite F_branch_Refine F_clevisref08Const F_clevisref08Any 
theorem ok_clevislaw10heads : SpecOk Try.prog 12 (mkS ps_clevislaw10heads qs_clevislaw10heads F_clevislaw10heads) := S_clevislaw10heads ok_branch_Opposite ok_branch_Refine ok_clevisref08Const ok_clevisref08Any
abbrev ps_clevislaw10BranchConst : List PT := [.one (.int .i64), .one (.int .u64), .one (.int .u64), .one (.bool)]
noncomputable def L_clevislaw10BranchConst (F_clevisref01Cond : FT ps_clevisref01Cond qs_clevisref01Cond) (F_branch_Refine : FT ps_branch_Refine qs_branch_Refine) (F_clevisref08Const : FT ps_clevisref08Const qs_clevisref08Const) (F_clevislaw10heads : FT ps_clevislaw10heads qs_clevislaw10heads)  (x : PTs.D ps_clevislaw10BranchConst) : Option Unit := match x with
  | (x0, x1, x2, x3) => 
      F_clevisref01Cond Unit (x0, x1, x2, x3) fun y =>
        F_clevisref08Const Unit x1 fun y_1 =>
          F_clevisref08Const Unit x2 fun y_2 =>
            F_branch_Refine Unit (x0, (y_1.1, y_1.2.1, y_1.2.2.1, y_1.2.2.2.1, y_1.2.2.2.2.1, y_1.2.2.2.2.2), (y_2.1, y_2.2.1, y_2.2.2.1, y_2.2.2.2.1, y_2.2.2.2.2.1, y_2.2.2.2.2.2), x3, true) fun y_3 =>
              F_clevisref08Const Unit x1 fun y_4 =>
                F_clevisref08Const Unit x2 fun y_5 =>
                  F_branch_Refine Unit (x0, (y_4.1, y_4.2.1, y_4.2.2.1, y_4.2.2.2.1, y_4.2.2.2.2.1, y_4.2.2.2.2.2), (y_5.1, y_5.2.1, y_5.2.2.1, y_5.2.2.2.1, y_5.2.2.2.2.1, y_5.2.2.2.2.2), x3, false)
                    fun y_6 =>
                    br (W.not y.2)
                      (br (W.pick y_3.2.2 y_6.2.2 false)
                        (F_clevisref08Const Unit x1 fun y =>
                          br
                            (W.pick true
                              (W.and2 (W.eq y_3.1.1 y.1)
                                (W.and2 (W.eq y_3.1.2.1 y.2.1)
                                  (W.and2 (W.eq y_3.1.2.2.1 y.2.2.1) (W.and2 (W.eq y_3.1.2.2.2.1 y.2.2.2.1) (W.and2 (W.eq y_3.1.2.2.2.2.1 y.2.2.2.2.1) (W.and2 (W.eq y_3.1.2.2.2.2.2 y.2.2.2.2.2) true))))))
                              false)
                            (F_clevisref08Const Unit x2 fun y =>
                              br
                                (W.pick true
                                  (W.and2 (W.eq y_6.2.1.1 y.1)
                                    (W.and2 (W.eq y_6.2.1.2.1 y.2.1)
                                      (W.and2 (W.eq y_6.2.1.2.2.1 y.2.2.1)
                                        (W.and2 (W.eq y_6.2.1.2.2.2.1 y.2.2.2.1) (W.and2 (W.eq y_6.2.1.2.2.2.2.1 y.2.2.2.2.1) (W.and2 (W.eq y_6.2.1.2.2.2.2.2 y.2.2.2.2.2) true))))))
                                  false)
                                (F_clevislaw10heads Unit () fun y => br (W.pick true y false) (some ()) none) none)
                            none)
                        none)
                      (br (W.pick (W.not (W.eqB y_3.2.2 y.1)) true (W.eqB y_6.2.2 y.1)) none
                        (br (W.not (W.not y_3.2.2))
                          (F_clevisref08Const Unit x1 fun y =>
                            br
                              (W.and2 true
                                (W.and2 (W.eq y_3.1.1 y.1)
                                  (W.and2 (W.eq y_3.1.2.1 y.2.1)
                                    (W.and2 (W.eq y_3.1.2.2.1 y.2.2.1)
                                      (W.and2 (W.eq y_3.1.2.2.2.1 y.2.2.2.1) (W.and2 (W.eq y_3.1.2.2.2.2.1 y.2.2.2.2.1) (W.and2 (W.eq y_3.1.2.2.2.2.2 y.2.2.2.2.2) true)))))))
                              (F_clevisref08Const Unit x2 fun y_7 =>
                                br
                                  (W.and2
                                    (W.pick false true
                                      (W.pick
                                        (W.and2 (W.eq y_3.1.1 y.1)
                                          (W.and2 (W.eq y_3.1.2.1 y.2.1)
                                            (W.and2 (W.eq y_3.1.2.2.1 y.2.2.1)
                                              (W.and2 (W.eq y_3.1.2.2.2.1 y.2.2.2.1) (W.and2 (W.eq y_3.1.2.2.2.2.1 y.2.2.2.2.1) (W.and2 (W.eq y_3.1.2.2.2.2.2 y.2.2.2.2.2) true))))))
                                        (W.and2 (W.eq y_3.2.1.1 y_7.1)
                                          (W.and2 (W.eq y_3.2.1.2.1 y_7.2.1)
                                            (W.and2 (W.eq y_3.2.1.2.2.1 y_7.2.2.1)
                                              (W.and2 (W.eq y_3.2.1.2.2.2.1 y_7.2.2.2.1) (W.and2 (W.eq y_3.2.1.2.2.2.2.1 y_7.2.2.2.2.1) (W.and2 (W.eq y_3.2.1.2.2.2.2.2 y_7.2.2.2.2.2) true))))))
                                        false))
                                    (W.not (W.not y_6.2.2)))
                                  (F_clevisref08Const Unit x1 fun y_8 =>
                                    br
                                      (W.and2
                                        (W.and2
                                          (W.pick false true
                                            (W.pick
                                              (W.and2 (W.eq y_3.1.1 y.1)
                                                (W.and2 (W.eq y_3.1.2.1 y.2.1)
                                                  (W.and2 (W.eq y_3.1.2.2.1 y.2.2.1)
                                                    (W.and2 (W.eq y_3.1.2.2.2.1 y.2.2.2.1) (W.and2 (W.eq y_3.1.2.2.2.2.1 y.2.2.2.2.1) (W.and2 (W.eq y_3.1.2.2.2.2.2 y.2.2.2.2.2) true))))))
                                              (W.and2 (W.eq y_3.2.1.1 y_7.1)
                                                (W.and2 (W.eq y_3.2.1.2.1 y_7.2.1)
                                                  (W.and2 (W.eq y_3.2.1.2.2.1 y_7.2.2.1)
                                                    (W.and2 (W.eq y_3.2.1.2.2.2.1 y_7.2.2.2.1) (W.and2 (W.eq y_3.2.1.2.2.2.2.1 y_7.2.2.2.2.1) (W.and2 (W.eq y_3.2.1.2.2.2.2.2 y_7.2.2.2.2.2) true))))))
                                              false))
                                          (W.not (W.not y_6.2.2)))
                                        (W.and2 (W.eq y_6.1.1 y_8.1)
                                          (W.and2 (W.eq y_6.1.2.1 y_8.2.1)
                                            (W.and2 (W.eq y_6.1.2.2.1 y_8.2.2.1)
                                              (W.and2 (W.eq y_6.1.2.2.2.1 y_8.2.2.2.1) (W.and2 (W.eq y_6.1.2.2.2.2.1 y_8.2.2.2.2.1) (W.and2 (W.eq y_6.1.2.2.2.2.2 y_8.2.2.2.2.2) true)))))))
                                      (F_clevisref08Const Unit x2 fun y_9 =>
                                        br
                                          (W.pick
                                            (W.pick false true
                                              (W.pick
                                                (W.and2 (W.eq y_3.1.1 y.1)
                                                  (W.and2 (W.eq y_3.1.2.1 y.2.1)
                                                    (W.and2 (W.eq y_3.1.2.2.1 y.2.2.1)
                                                      (W.and2 (W.eq y_3.1.2.2.2.1 y.2.2.2.1) (W.and2 (W.eq y_3.1.2.2.2.2.1 y.2.2.2.2.1) (W.and2 (W.eq y_3.1.2.2.2.2.2 y.2.2.2.2.2) true))))))
                                                (W.and2 (W.eq y_3.2.1.1 y_7.1)
                                                  (W.and2 (W.eq y_3.2.1.2.1 y_7.2.1)
                                                    (W.and2 (W.eq y_3.2.1.2.2.1 y_7.2.2.1)
                                                      (W.and2 (W.eq y_3.2.1.2.2.2.1 y_7.2.2.2.1) (W.and2 (W.eq y_3.2.1.2.2.2.2.1 y_7.2.2.2.2.1) (W.and2 (W.eq y_3.2.1.2.2.2.2.2 y_7.2.2.2.2.2) true))))))
                                                false))
                                            (W.pick (W.not y_6.2.2) true
                                              (W.pick
                                                (W.and2 (W.eq y_6.1.1 y_8.1)
                                                  (W.and2 (W.eq y_6.1.2.1 y_8.2.1)
                                                    (W.and2 (W.eq y_6.1.2.2.1 y_8.2.2.1)
                                                      (W.and2 (W.eq y_6.1.2.2.2.1 y_8.2.2.2.1) (W.and2 (W.eq y_6.1.2.2.2.2.1 y_8.2.2.2.2.1) (W.and2 (W.eq y_6.1.2.2.2.2.2 y_8.2.2.2.2.2) true))))))
                                                (W.and2 (W.eq y_6.2.1.1 y_9.1)
                                                  (W.and2 (W.eq y_6.2.1.2.1 y_9.2.1)
                                                    (W.and2 (W.eq y_6.2.1.2.2.1 y_9.2.2.1)
                                                      (W.and2 (W.eq y_6.2.1.2.2.2.1 y_9.2.2.2.1) (W.and2 (W.eq y_6.2.1.2.2.2.2.1 y_9.2.2.2.2.1) (W.and2 (W.eq y_6.2.1.2.2.2.2.2 y_9.2.2.2.2.2) true))))))
                                                false))
                                            false)
                                          (F_clevislaw10heads Unit () fun y => br (W.pick true y false) (some ()) none) none)
                                      (br
                                        (W.and2
                                          (W.and2
                                            (W.pick false true
                                              (W.pick
                                                (W.and2 (W.eq y_3.1.1 y.1)
                                                  (W.and2 (W.eq y_3.1.2.1 y.2.1)
                                                    (W.and2 (W.eq y_3.1.2.2.1 y.2.2.1)
                                                      (W.and2 (W.eq y_3.1.2.2.2.1 y.2.2.2.1) (W.and2 (W.eq y_3.1.2.2.2.2.1 y.2.2.2.2.1) (W.and2 (W.eq y_3.1.2.2.2.2.2 y.2.2.2.2.2) true))))))
                                                (W.and2 (W.eq y_3.2.1.1 y_7.1)
                                                  (W.and2 (W.eq y_3.2.1.2.1 y_7.2.1)
                                                    (W.and2 (W.eq y_3.2.1.2.2.1 y_7.2.2.1)
                                                      (W.and2 (W.eq y_3.2.1.2.2.2.1 y_7.2.2.2.1) (W.and2 (W.eq y_3.2.1.2.2.2.2.1 y_7.2.2.2.2.1) (W.and2 (W.eq y_3.2.1.2.2.2.2.2 y_7.2.2.2.2.2) true))))))
                                                false))
                                            (W.not (W.not y_6.2.2)))
                                          (W.and2 (W.eq y_6.1.1 y_8.1)
                                            (W.and2 (W.eq y_6.1.2.1 y_8.2.1)
                                              (W.and2 (W.eq y_6.1.2.2.1 y_8.2.2.1)
                                                (W.and2 (W.eq y_6.1.2.2.2.1 y_8.2.2.2.1) (W.and2 (W.eq y_6.1.2.2.2.2.1 y_8.2.2.2.2.1) (W.and2 (W.eq y_6.1.2.2.2.2.2 y_8.2.2.2.2.2) true)))))))
                                        none
                                        (br
                                          (W.and2
                                            (W.pick false true
                                              (W.pick
                                                (W.and2 (W.eq y_3.1.1 y.1)
                                                  (W.and2 (W.eq y_3.1.2.1 y.2.1)
                                                    (W.and2 (W.eq y_3.1.2.2.1 y.2.2.1)
                                                      (W.and2 (W.eq y_3.1.2.2.2.1 y.2.2.2.1) (W.and2 (W.eq y_3.1.2.2.2.2.1 y.2.2.2.2.1) (W.and2 (W.eq y_3.1.2.2.2.2.2 y.2.2.2.2.2) true))))))
                                                (W.and2 (W.eq y_3.2.1.1 y_7.1)
                                                  (W.and2 (W.eq y_3.2.1.2.1 y_7.2.1)
                                                    (W.and2 (W.eq y_3.2.1.2.2.1 y_7.2.2.1)
                                                      (W.and2 (W.eq y_3.2.1.2.2.2.1 y_7.2.2.2.1) (W.and2 (W.eq y_3.2.1.2.2.2.2.1 y_7.2.2.2.2.1) (W.and2 (W.eq y_3.2.1.2.2.2.2.2 y_7.2.2.2.2.2) true))))))
                                                false))
                                            (W.not (W.not y_6.2.2)))
                                          (br
                                            (W.and2 (W.eq y_6.1.1 y_8.1)
                                              (W.and2 (W.eq y_6.1.2.1 y_8.2.1)
                                                (W.and2 (W.eq y_6.1.2.2.1 y_8.2.2.1)
                                                  (W.and2 (W.eq y_6.1.2.2.2.1 y_8.2.2.2.1) (W.and2 (W.eq y_6.1.2.2.2.2.1 y_8.2.2.2.2.1) (W.and2 (W.eq y_6.1.2.2.2.2.2 y_8.2.2.2.2.2) true))))))
                                            (br
                                              (W.pick false true
                                                (W.pick
                                                  (W.and2 (W.eq y_3.1.1 y.1)
                                                    (W.and2 (W.eq y_3.1.2.1 y.2.1)
                                                      (W.and2 (W.eq y_3.1.2.2.1 y.2.2.1)
                                                        (W.and2 (W.eq y_3.1.2.2.2.1 y.2.2.2.1) (W.and2 (W.eq y_3.1.2.2.2.2.1 y.2.2.2.2.1) (W.and2 (W.eq y_3.1.2.2.2.2.2 y.2.2.2.2.2) true))))))
                                                  (W.and2 (W.eq y_3.2.1.1 y_7.1)
                                                    (W.and2 (W.eq y_3.2.1.2.1 y_7.2.1)
                                                      (W.and2 (W.eq y_3.2.1.2.2.1 y_7.2.2.1)
                                                        (W.and2 (W.eq y_3.2.1.2.2.2.1 y_7.2.2.2.1) (W.and2 (W.eq y_3.2.1.2.2.2.2.1 y_7.2.2.2.2.1) (W.and2 (W.eq y_3.2.1.2.2.2.2.2 y_7.2.2.2.2.2) true))))))
                                                  false))
                                              (br (W.not y_6.2.2) (F_clevislaw10heads Unit () fun y => br (W.pick true y false) (some ()) none) none) none)
                                            (br
                                              (W.pick
                                                (W.pick false true
                                                  (W.pick
                                                    (W.and2 (W.eq y_3.1.1 y.1)
                                                      (W.and2 (W.eq y_3.1.2.1 y.2.1)
                                                        (W.and2 (W.eq y_3.1.2.2.1 y.2.2.1)
                                                          (W.and2 (W.eq y_3.1.2.2.2.1 y.2.2.2.1) (W.and2 (W.eq y_3.1.2.2.2.2.1 y.2.2.2.2.1) (W.and2 (W.eq y_3.1.2.2.2.2.2 y.2.2.2.2.2) true))))))
                                                    (W.and2 (W.eq y_3.2.1.1 y_7.1)
                                                      (W.and2 (W.eq y_3.2.1.2.1 y_7.2.1)
                                                        (W.and2 (W.eq y_3.2.1.2.2.1 y_7.2.2.1)
                                                          (W.and2 (W.eq y_3.2.1.2.2.2.1 y_7.2.2.2.1) (W.and2 (W.eq y_3.2.1.2.2.2.2.1 y_7.2.2.2.2.1) (W.and2 (W.eq y_3.2.1.2.2.2.2.2 y_7.2.2.2.2.2) true))))))
                                                    false))
                                                (W.pick (W.not y_6.2.2) true false) false)
                                              (F_clevislaw10heads Unit () fun y => br (W.pick true y false) (some ()) none) none))
                                          (br
                                            (W.pick false true
                                              (W.pick
                                                (W.and2 (W.eq y_3.1.1 y.1)
                                                  (W.and2 (W.eq y_3.1.2.1 y.2.1)
                                                    (W.and2 (W.eq y_3.1.2.2.1 y.2.2.1)
                                                      (W.and2 (W.eq y_3.1.2.2.2.1 y.2.2.2.1) (W.and2 (W.eq y_3.1.2.2.2.2.1 y.2.2.2.2.1) (W.and2 (W.eq y_3.1.2.2.2.2.2 y.2.2.2.2.2) true))))))
                                                (W.and2 (W.eq y_3.2.1.1 y_7.1)
                                                  (W.and2 (W.eq y_3.2.1.2.1 y_7.2.1)
                                                    (W.and2 (W.eq y_3.2.1.2.2.1 y_7.2.2.1)
                                                      (W.and2 (W.eq y_3.2.1.2.2.2.1 y_7.2.2.2.1) (W.and2 (W.eq y_3.2.1.2.2.2.2.1 y_7.2.2.2.2.1) (W.and2 (W.eq y_3.2.1.2.2.2.2.2 y_7.2.2.2.2.2) true))))))
                                                false))
                                            (br (W.not y_6.2.2) (F_clevislaw10heads Unit () fun y => br (W.pick true y false) (some ()) none) none) none))))
                                  (br
                                    (W.and2
                                      (W.pick false true
                                        (W.pick
                                          (W.and2 (W.eq y_3.1.1 y.1)
                                            (W.and2 (W.eq y_3.1.2.1 y.2.1)
                                              (W.and2 (W.eq y_3.1.2.2.1 y.2.2.1)
                                                (W.and2 (W.eq y_3.1.2.2.2.1 y.2.2.2.1) (W.and2 (W.eq y_3.1.2.2.2.2.1 y.2.2.2.2.1) (W.and2 (W.eq y_3.1.2.2.2.2.2 y.2.2.2.2.2) true))))))
                                          (W.and2 (W.eq y_3.2.1.1 y_7.1)
                                            (W.and2 (W.eq y_3.2.1.2.1 y_7.2.1)
                                              (W.and2 (W.eq y_3.2.1.2.2.1 y_7.2.2.1)
                                                (W.and2 (W.eq y_3.2.1.2.2.2.1 y_7.2.2.2.1) (W.and2 (W.eq y_3.2.1.2.2.2.2.1 y_7.2.2.2.2.1) (W.and2 (W.eq y_3.2.1.2.2.2.2.2 y_7.2.2.2.2.2) true))))))
                                          false))
                                      (W.not (W.not y_6.2.2)))
                                    none
                                    (br
                                      (W.and2
                                        (W.pick false true
                                          (W.pick
                                            (W.and2 (W.eq y_3.1.1 y.1)
                                              (W.and2 (W.eq y_3.1.2.1 y.2.1)
                                                (W.and2 (W.eq y_3.1.2.2.1 y.2.2.1)
                                                  (W.and2 (W.eq y_3.1.2.2.2.1 y.2.2.2.1) (W.and2 (W.eq y_3.1.2.2.2.2.1 y.2.2.2.2.1) (W.and2 (W.eq y_3.1.2.2.2.2.2 y.2.2.2.2.2) true))))))
                                            (W.and2 (W.eq y_3.2.1.1 y_7.1)
                                              (W.and2 (W.eq y_3.2.1.2.1 y_7.2.1)
                                                (W.and2 (W.eq y_3.2.1.2.2.1 y_7.2.2.1)
                                                  (W.and2 (W.eq y_3.2.1.2.2.2.1 y_7.2.2.2.1) (W.and2 (W.eq y_3.2.1.2.2.2.2.1 y_7.2.2.2.2.1) (W.and2 (W.eq y_3.2.1.2.2.2.2.2 y_7.2.2.2.2.2) true))))))
                                            false))
                                        (W.not (W.not y_6.2.2)))
                                      none
                                      (br
                                        (W.pick false true
                                          (W.pick
                                            (W.and2 (W.eq y_3.1.1 y.1)
                                              (W.and2 (W.eq y_3.1.2.1 y.2.1)
                                                (W.and2 (W.eq y_3.1.2.2.1 y.2.2.1)
                                                  (W.and2 (W.eq y_3.1.2.2.2.1 y.2.2.2.1) (W.and2 (W.eq y_3.1.2.2.2.2.1 y.2.2.2.2.1) (W.and2 (W.eq y_3.1.2.2.2.2.2 y.2.2.2.2.2) true))))))
                                            (W.and2 (W.eq y_3.2.1.1 y_7.1)
                                              (W.and2 (W.eq y_3.2.1.2.1 y_7.2.1)
                                                (W.and2 (W.eq y_3.2.1.2.2.1 y_7.2.2.1)
                                                  (W.and2 (W.eq y_3.2.1.2.2.2.1 y_7.2.2.2.1) (W.and2 (W.eq y_3.2.1.2.2.2.2.1 y_7.2.2.2.2.1) (W.and2 (W.eq y_3.2.1.2.2.2.2.2 y_7.2.2.2.2.2) true))))))
                                            false))
                                        (br (W.not y_6.2.2) (F_clevislaw10heads Unit () fun y => br (W.pick true y false) (some ()) none) none) none))))
                              (br
                                (W.and2 true
                                  (W.and2 (W.eq y_3.1.1 y.1)
                                    (W.and2 (W.eq y_3.1.2.1 y.2.1)
                                      (W.and2 (W.eq y_3.1.2.2.1 y.2.2.1)
                                        (W.and2 (W.eq y_3.1.2.2.2.1 y.2.2.2.1) (W.and2 (W.eq y_3.1.2.2.2.2.1 y.2.2.2.2.1) (W.and2 (W.eq y_3.1.2.2.2.2.2 y.2.2.2.2.2) true)))))))
                                none
                                (br
                                  (W.and2 (W.eq y_3.1.1 y.1)
                                    (W.and2 (W.eq y_3.1.2.1 y.2.1)
                                      (W.and2 (W.eq y_3.1.2.2.1 y.2.2.1)
                                        (W.and2 (W.eq y_3.1.2.2.2.1 y.2.2.2.1) (W.and2 (W.eq y_3.1.2.2.2.2.1 y.2.2.2.2.1) (W.and2 (W.eq y_3.1.2.2.2.2.2 y.2.2.2.2.2) true))))))
                                  none none)))
                          (br (W.and2 true (W.not (W.not y_6.2.2)))
                            (F_clevisref08Const Unit x1 fun y =>
                              br
                                (W.and2 (W.and2 true (W.not (W.not y_6.2.2)))
                                  (W.and2 (W.eq y_6.1.1 y.1)
                                    (W.and2 (W.eq y_6.1.2.1 y.2.1)
                                      (W.and2 (W.eq y_6.1.2.2.1 y.2.2.1)
                                        (W.and2 (W.eq y_6.1.2.2.2.1 y.2.2.2.1) (W.and2 (W.eq y_6.1.2.2.2.2.1 y.2.2.2.2.1) (W.and2 (W.eq y_6.1.2.2.2.2.2 y.2.2.2.2.2) true)))))))
                                (F_clevisref08Const Unit x2 fun y_7 =>
                                  br
                                    (W.pick true
                                      (W.pick (W.not y_6.2.2) true
                                        (W.pick
                                          (W.and2 (W.eq y_6.1.1 y.1)
                                            (W.and2 (W.eq y_6.1.2.1 y.2.1)
                                              (W.and2 (W.eq y_6.1.2.2.1 y.2.2.1)
                                                (W.and2 (W.eq y_6.1.2.2.2.1 y.2.2.2.1) (W.and2 (W.eq y_6.1.2.2.2.2.1 y.2.2.2.2.1) (W.and2 (W.eq y_6.1.2.2.2.2.2 y.2.2.2.2.2) true))))))
                                          (W.and2 (W.eq y_6.2.1.1 y_7.1)
                                            (W.and2 (W.eq y_6.2.1.2.1 y_7.2.1)
                                              (W.and2 (W.eq y_6.2.1.2.2.1 y_7.2.2.1)
                                                (W.and2 (W.eq y_6.2.1.2.2.2.1 y_7.2.2.2.1) (W.and2 (W.eq y_6.2.1.2.2.2.2.1 y_7.2.2.2.2.1) (W.and2 (W.eq y_6.2.1.2.2.2.2.2 y_7.2.2.2.2.2) true))))))
                                          false))
                                      false)
                                    (F_clevislaw10heads Unit () fun y => br (W.pick true y false) (some ()) none) none)
                                (br
                                  (W.and2 (W.and2 true (W.not (W.not y_6.2.2)))
                                    (W.and2 (W.eq y_6.1.1 y.1)
                                      (W.and2 (W.eq y_6.1.2.1 y.2.1)
                                        (W.and2 (W.eq y_6.1.2.2.1 y.2.2.1)
                                          (W.and2 (W.eq y_6.1.2.2.2.1 y.2.2.2.1) (W.and2 (W.eq y_6.1.2.2.2.2.1 y.2.2.2.2.1) (W.and2 (W.eq y_6.1.2.2.2.2.2 y.2.2.2.2.2) true)))))))
                                  none
                                  (br (W.and2 true (W.not (W.not y_6.2.2)))
                                    (br
                                      (W.and2 (W.eq y_6.1.1 y.1)
                                        (W.and2 (W.eq y_6.1.2.1 y.2.1)
                                          (W.and2 (W.eq y_6.1.2.2.1 y.2.2.1)
                                            (W.and2 (W.eq y_6.1.2.2.2.1 y.2.2.2.1) (W.and2 (W.eq y_6.1.2.2.2.2.1 y.2.2.2.2.1) (W.and2 (W.eq y_6.1.2.2.2.2.2 y.2.2.2.2.2) true))))))
                                      (br (W.not y_6.2.2) (F_clevislaw10heads Unit () fun y => br (W.pick true y false) (some ()) none) none)
                                      (br (W.pick true (W.pick (W.not y_6.2.2) true false) false) (F_clevislaw10heads Unit () fun y => br (W.pick true y false) (some ()) none) none))
                                    (br (W.not y_6.2.2) (F_clevislaw10heads Unit () fun y => br (W.pick true y false) (some ()) none) none))))
                            (br (W.and2 true (W.not (W.not y_6.2.2))) none
                              (br (W.and2 true (W.not (W.not y_6.2.2))) none (br (W.not y_6.2.2) (F_clevislaw10heads Unit () fun y => br (W.pick true y false) (some ()) none) none))))))
theorem E_clevislaw10BranchConst {F_clevisref01Cond : FT ps_clevisref01Cond qs_clevisref01Cond} {F_branch_Refine : FT ps_branch_Refine qs_branch_Refine} {F_clevisref08Const : FT ps_clevisref08Const qs_clevisref08Const} {F_clevislaw10heads : FT ps_clevislaw10heads qs_clevislaw10heads} (h_clevisref01Cond : SpecOk Try.prog 9 (mkS ps_clevisref01Cond qs_clevisref01Cond F_clevisref01Cond)) (h_branch_Refine : SpecOk Try.prog 10 (mkS ps_branch_Refine qs_branch_Refine F_branch_Refine)) (h_clevisref08Const : SpecOk Try.prog 11 (mkS ps_clevisref08Const qs_clevisref08Const F_clevisref08Const)) (h_clevislaw10heads : SpecOk Try.prog 12 (mkS ps_clevislaw10heads qs_clevislaw10heads F_clevislaw10heads)) (x : PTs.D ps_clevislaw10BranchConst) (hL : L_clevislaw10BranchConst F_clevisref01Cond F_branch_Refine F_clevisref08Const F_clevislaw10heads x = some ()) :
    ∃ (C : Cfg) (fl d : Nat), CfgOk C ∧ C.P = Try.prog ∧ call C fl d 3 (encL false ps_clevislaw10BranchConst x) [] getL = some () :=
  ⟨_, 10, 12, (cfgOk_cons (cfgOk_cons (cfgOk_cons (cfgOk_cons base h_clevislaw10heads) h_clevisref08Const) h_branch_Refine) h_clevisref01Cond), rfl, (show _ = L_clevislaw10BranchConst F_clevisref01Cond F_branch_Refine F_clevisref08Const F_clevislaw10heads x by obtain ⟨x0, x1, x2, x3⟩ := x; kernel_rfl).trans hL⟩
abbrev ps_clevisref10Opposite : List PT := [.one (.int .i64)]
abbrev qs_clevisref10Opposite : List PT := [.one (.int .i64)]
noncomputable def N_clevisref10Opposite   : FT ps_clevisref10Opposite qs_clevisref10Opposite := fun R x k => match x with
  | x0 => 
      br (W.eq 16 x0) (k 80)
        (br (W.eq 80 x0) (k 16)
          (br (W.eq 32 x0) (k 176)
            (br (W.eq 176 x0) (k 32) (br (W.eq 48 x0) (k 160) (br (W.eq 160 x0) (k 48) (br (W.eq 96 x0) (k 208) (br (W.eq 208 x0) (k 96) (br (W.eq 112 x0) (k 192) (br (W.eq 192 x0) (k 112) (k (-1)))))))))))
theorem S_clevisref10Opposite   : SpecOk Try.prog 15 (mkS ps_clevisref10Opposite qs_clevisref10Opposite (N_clevisref10Opposite )) :=
  specOk_mk (fl := 22) (d := 12) base (by intro R x0 k; kernel_rfl)
noncomputable def F_clevisref10Opposite : FT ps_clevisref10Opposite qs_clevisref10Opposite := N_clevisref10Opposite  
theorem ok_clevisref10Opposite : SpecOk Try.prog 15 (mkS ps_clevisref10Opposite qs_clevisref10Opposite F_clevisref10Opposite) := S_clevisref10Opposite 
abbrev ps_clevisref07Check : List PT := [.agg ((.prod (.int .u64) (.int .u64)))]
abbrev qs_clevisref07Check : List PT := [.one (.bool)]
noncomputable def N_clevisref07Check   : FT ps_clevisref07Check qs_clevisref07Check := fun R x k => match x with
  | (x0Value, x0Mask) => 
      k (W.eq (W.wrap IntKind.u64 (W.and IntKind.u64 x0Value x0Mask)) 0)
theorem S_clevisref07Check   : SpecOk Try.prog 33 (mkS ps_clevisref07Check qs_clevisref07Check (N_clevisref07Check )) :=
  specOk_mk (fl := 10) (d := 12) base (by rintro R ⟨x0Value, x0Mask⟩ k; kernel_rfl)
noncomputable def F_clevisref07Check : FT ps_clevisref07Check qs_clevisref07Check := N_clevisref07Check  
theorem ok_clevisref07Check : SpecOk Try.prog 33 (mkS ps_clevisref07Check qs_clevisref07Check F_clevisref07Check) := S_clevisref07Check 
abbrev ps_clevisref08Check : List PT := [.agg ((.prod (.int .u64) (.prod (.int .u64) (.prod (.int .i64) (.prod (.int .i64) ((.prod (.int .u64) (.int .u64))))))))]
abbrev qs_clevisref08Check : List PT := [.one (.bool)]
noncomputable def N_clevisref08Check (F_clevisref07Check : FT ps_clevisref07Check qs_clevisref07Check)  : FT ps_clevisref08Check qs_clevisref08Check := fun R x k => match x with
  | (x0Umin, x0Umax, x0Smin, x0Smax, (x0Bits_Value, x0Bits_Mask)) => 
      br (W.pick (W.le x0Umin x0Umax) (W.le x0Smin x0Smax) false) (F_clevisref07Check R (x0Bits_Value, x0Bits_Mask) fun y => k (W.pick true y false)) (k false)
theorem S_clevisref08Check {F_clevisref07Check : FT ps_clevisref07Check qs_clevisref07Check} (h_clevisref07Check : SpecOk Try.prog 33 (mkS ps_clevisref07Check qs_clevisref07Check F_clevisref07Check)) : SpecOk Try.prog 16 (mkS ps_clevisref08Check qs_clevisref08Check (N_clevisref08Check F_clevisref07Check)) :=
  specOk_mk (fl := 10) (d := 12) (cfgOk_cons base h_clevisref07Check) (by rintro R ⟨x0Umin, x0Umax, x0Smin, x0Smax, ⟨x0Bits_Value, x0Bits_Mask⟩⟩ k; kernel_rfl)
noncomputable def F_clevisref08Check : FT ps_clevisref08Check qs_clevisref08Check := N_clevisref08Check F_clevisref07Check 
theorem ok_clevisref08Check : SpecOk Try.prog 16 (mkS ps_clevisref08Check qs_clevisref08Check F_clevisref08Check) := S_clevisref08Check ok_clevisref07Check
abbrev ps_clevisref08Value : List PT := [.agg ((.prod (.int .u64) (.prod (.int .u64) (.prod (.int .i64) (.prod (.int .i64) ((.prod (.int .u64) (.int .u64))))))))]
abbrev qs_clevisref08Value : List PT := [.one (.int .u64), .one (.bool)]
noncomputable def N_clevisref08Value   : FT ps_clevisref08Value qs_clevisref08Value := fun R x k => match x with
  | (x0Umin, x0Umax, x0Smin, x0Smax, (x0Bits_Value, x0Bits_Mask)) => 
      br (W.ne x0Umin x0Umax) (k (0, false)) (k (x0Umin, true))
theorem S_clevisref08Value   : SpecOk Try.prog 28 (mkS ps_clevisref08Value qs_clevisref08Value (N_clevisref08Value )) :=
  specOk_mk (fl := 10) (d := 12) base (by rintro R ⟨x0Umin, x0Umax, x0Smin, x0Smax, ⟨x0Bits_Value, x0Bits_Mask⟩⟩ k; kernel_rfl)
noncomputable def F_clevisref08Value : FT ps_clevisref08Value qs_clevisref08Value := N_clevisref08Value  
theorem ok_clevisref08Value : SpecOk Try.prog 28 (mkS ps_clevisref08Value qs_clevisref08Value F_clevisref08Value) := S_clevisref08Value 
abbrev ps_clevisref10signed : List PT := [.one (.int .i64)]
abbrev qs_clevisref10signed : List PT := [.one (.bool)]
noncomputable def N_clevisref10signed   : FT ps_clevisref10signed qs_clevisref10signed := fun R x k => match x with
  | x0 => 
      k (W.pick (W.pick (W.pick (W.eq x0 96) true (W.eq x0 112)) true (W.eq x0 192)) true (W.eq x0 208))
theorem S_clevisref10signed   : SpecOk Try.prog 29 (mkS ps_clevisref10signed qs_clevisref10signed (N_clevisref10signed )) :=
  specOk_mk (fl := 10) (d := 12) base (by intro R x0 k; kernel_rfl)
noncomputable def F_clevisref10signed : FT ps_clevisref10signed qs_clevisref10signed := N_clevisref10signed  
theorem ok_clevisref10signed : SpecOk Try.prog 29 (mkS ps_clevisref10signed qs_clevisref10signed F_clevisref10signed) := S_clevisref10signed 
abbrev ps_clevisref07of : List PT := [.one (.int .u64), .one (.int .u64)]
abbrev qs_clevisref07of : List PT := [.agg ((.prod (.int .u64) (.int .u64)))]
noncomputable def N_clevisref07of   : FT ps_clevisref07of qs_clevisref07of := fun R x k => match x with
  | (x0, x1) => 
      k (W.wrap IntKind.u64 (W.andNot IntKind.u64 x0 x1), x1)
theorem S_clevisref07of   : SpecOk Try.prog 67 (mkS ps_clevisref07of qs_clevisref07of (N_clevisref07of )) :=
  specOk_mk (fl := 10) (d := 12) base (by rintro R ⟨x0, x1⟩ k; kernel_rfl)
noncomputable def F_clevisref07of : FT ps_clevisref07of qs_clevisref07of := N_clevisref07of  
theorem ok_clevisref07of : SpecOk Try.prog 67 (mkS ps_clevisref07of qs_clevisref07of F_clevisref07of) := S_clevisref07of 
abbrev ps_clevisref07Meet : List PT := [.agg ((.prod (.int .u64) (.int .u64))), .agg ((.prod (.int .u64) (.int .u64)))]
abbrev qs_clevisref07Meet : List PT := [.agg ((.prod (.int .u64) (.int .u64))), .one (.bool)]
noncomputable def N_clevisref07Meet (F_clevisref07of : FT ps_clevisref07of qs_clevisref07of)  : FT ps_clevisref07Meet qs_clevisref07Meet := fun R x k => match x with
  | ((x0Value, x0Mask), (x1Value, x1Mask)) => 
      F_clevisref07of R (W.wrap IntKind.u64 (W.or IntKind.u64 x0Value x1Value), W.wrap IntKind.u64 (W.and IntKind.u64 x0Mask x1Mask)) fun y =>
        k ((y.1, y.2), W.eq (W.wrap IntKind.u64 (W.andNot IntKind.u64 (W.wrap IntKind.u64 (W.xor IntKind.u64 x0Value x1Value)) (W.wrap IntKind.u64 (W.or IntKind.u64 x0Mask x1Mask)))) 0)
theorem S_clevisref07Meet {F_clevisref07of : FT ps_clevisref07of qs_clevisref07of} (h_clevisref07of : SpecOk Try.prog 67 (mkS ps_clevisref07of qs_clevisref07of F_clevisref07of)) : SpecOk Try.prog 59 (mkS ps_clevisref07Meet qs_clevisref07Meet (N_clevisref07Meet F_clevisref07of)) :=
  specOk_mk (fl := 10) (d := 12) (cfgOk_cons base h_clevisref07of) (by rintro R ⟨⟨x0Value, x0Mask⟩, ⟨x1Value, x1Mask⟩⟩ k; kernel_rfl)
noncomputable def F_clevisref07Meet : FT ps_clevisref07Meet qs_clevisref07Meet := N_clevisref07Meet F_clevisref07of 
theorem ok_clevisref07Meet : SpecOk Try.prog 59 (mkS ps_clevisref07Meet qs_clevisref07Meet F_clevisref07Meet) := S_clevisref07Meet ok_clevisref07of
abbrev ps_clevisref10known : List PT := [.agg ((.prod (.int .u64) (.prod (.int .u64) (.prod (.int .i64) (.prod (.int .i64) ((.prod (.int .u64) (.int .u64)))))))), .agg ((.prod (.int .u64) (.int .u64)))]
abbrev qs_clevisref10known : List PT := [.agg ((.prod (.int .u64) (.prod (.int .u64) (.prod (.int .i64) (.prod (.int .i64) ((.prod (.int .u64) (.int .u64)))))))), .one (.bool)]
noncomputable def N_clevisref10known (F_clevisref07Meet : FT ps_clevisref07Meet qs_clevisref07Meet)  : FT ps_clevisref10known qs_clevisref10known := fun R x k => match x with
  | ((x0Umin, x0Umax, x0Smin, x0Smax, (x0Bits_Value, x0Bits_Mask)), (x1Value, x1Mask)) => 
      F_clevisref07Meet R ((x0Bits_Value, x0Bits_Mask), x1Value, x1Mask) fun y => k ((x0Umin, x0Umax, x0Smin, x0Smax, y.1.1, y.1.2), y.2)
theorem S_clevisref10known {F_clevisref07Meet : FT ps_clevisref07Meet qs_clevisref07Meet} (h_clevisref07Meet : SpecOk Try.prog 59 (mkS ps_clevisref07Meet qs_clevisref07Meet F_clevisref07Meet)) : SpecOk Try.prog 50 (mkS ps_clevisref10known qs_clevisref10known (N_clevisref10known F_clevisref07Meet)) :=
  specOk_mk (fl := 10) (d := 12) (cfgOk_cons base h_clevisref07Meet) (by rintro R ⟨⟨x0Umin, x0Umax, x0Smin, x0Smax, ⟨x0Bits_Value, x0Bits_Mask⟩⟩, ⟨x1Value, x1Mask⟩⟩ k; kernel_rfl)
noncomputable def F_clevisref10known : FT ps_clevisref10known qs_clevisref10known := N_clevisref10known F_clevisref07Meet 
theorem ok_clevisref10known : SpecOk Try.prog 50 (mkS ps_clevisref10known qs_clevisref10known F_clevisref10known) := S_clevisref10known ok_clevisref07Meet
abbrev ps_clevisref10set : List PT := [.agg ((.prod (.int .u64) (.prod (.int .u64) (.prod (.int .i64) (.prod (.int .i64) ((.prod (.int .u64) (.int .u64)))))))), .agg ((.prod (.int .u64) (.prod (.int .u64) (.prod (.int .i64) (.prod (.int .i64) ((.prod (.int .u64) (.int .u64)))))))), .one (.bool)]
abbrev qs_clevisref10set : List PT := [.agg ((.prod (.int .u64) (.prod (.int .u64) (.prod (.int .i64) (.prod (.int .i64) ((.prod (.int .u64) (.int .u64)))))))), .one (.bool)]
noncomputable def N_clevisref10set (F_clevisref08Value : FT ps_clevisref08Value qs_clevisref08Value) (F_clevisref10known : FT ps_clevisref10known qs_clevisref10known)  : FT ps_clevisref10set qs_clevisref10set := fun R x k => match x with
  | ((x0Umin, x0Umax, x0Smin, x0Smax, (x0Bits_Value, x0Bits_Mask)), (x1Umin, x1Umax, x1Smin, x1Smax, (x1Bits_Value, x1Bits_Mask)), x2) => 
      F_clevisref08Value R (x1Umin, x1Umax, x1Smin, x1Smax, x1Bits_Value, x1Bits_Mask) fun y =>
        br (W.not y.2) (k ((x0Umin, x0Umax, x0Smin, x0Smax, x0Bits_Value, x0Bits_Mask), true))
          (br (W.not x2)
            (F_clevisref10known R ((x0Umin, x0Umax, x0Smin, x0Smax, x0Bits_Value, x0Bits_Mask), 0, W.wrap IntKind.u64 (W.andNot IntKind.u64 18446744073709551615 y.1)) fun y =>
              k ((y.1.1, y.1.2.1, y.1.2.2.1, y.1.2.2.2.1, y.1.2.2.2.2.1, y.1.2.2.2.2.2), y.2))
            (br (W.pick (W.eq y.1 0) true (W.ne (W.wrap IntKind.u64 (W.and IntKind.u64 y.1 (W.wrap IntKind.u64 (W.sub y.1 1)))) 0))
              (k ((x0Umin, x0Umax, x0Smin, x0Smax, x0Bits_Value, x0Bits_Mask), true))
              (F_clevisref10known R ((x0Umin, x0Umax, x0Smin, x0Smax, x0Bits_Value, x0Bits_Mask), y.1, W.wrap IntKind.u64 (W.andNot IntKind.u64 18446744073709551615 y.1)) fun y =>
                k ((y.1.1, y.1.2.1, y.1.2.2.1, y.1.2.2.2.1, y.1.2.2.2.2.1, y.1.2.2.2.2.2), y.2))))
theorem S_clevisref10set {F_clevisref08Value : FT ps_clevisref08Value qs_clevisref08Value} {F_clevisref10known : FT ps_clevisref10known qs_clevisref10known} (h_clevisref08Value : SpecOk Try.prog 28 (mkS ps_clevisref08Value qs_clevisref08Value F_clevisref08Value)) (h_clevisref10known : SpecOk Try.prog 50 (mkS ps_clevisref10known qs_clevisref10known F_clevisref10known)) : SpecOk Try.prog 30 (mkS ps_clevisref10set qs_clevisref10set (N_clevisref10set F_clevisref08Value F_clevisref10known)) :=
  specOk_mk (fl := 10) (d := 12) (cfgOk_cons (cfgOk_cons base h_clevisref10known) h_clevisref08Value) (by rintro R ⟨⟨x0Umin, x0Umax, x0Smin, x0Smax, ⟨x0Bits_Value, x0Bits_Mask⟩⟩, ⟨x1Umin, x1Umax, x1Smin, x1Smax, ⟨x1Bits_Value, x1Bits_Mask⟩⟩, x2⟩ k; kernel_rfl)
noncomputable def F_clevisref10set : FT ps_clevisref10set qs_clevisref10set := N_clevisref10set F_clevisref08Value F_clevisref10known 
theorem ok_clevisref10set : SpecOk Try.prog 30 (mkS ps_clevisref10set qs_clevisref10set F_clevisref10set) := S_clevisref10set ok_clevisref08Value ok_clevisref10known
abbrev ps_clevisref08bits : List PT := [.agg ((.prod (.int .u64) (.prod (.int .u64) (.prod (.int .i64) (.prod (.int .i64) ((.prod (.int .u64) (.int .u64))))))))]
abbrev qs_clevisref08bits : List PT := [.agg ((.prod (.int .u64) (.prod (.int .u64) (.prod (.int .i64) (.prod (.int .i64) ((.prod (.int .u64) (.int .u64))))))))]
noncomputable def N_clevisref08bits   : FT ps_clevisref08bits qs_clevisref08bits := fun R x k => match x with
  | (x0Umin, x0Umax, x0Smin, x0Smax, (x0Bits_Value, x0Bits_Mask)) => 
      k
        (W.max x0Umin x0Bits_Value, W.min x0Umax (W.wrap IntKind.u64 (W.or IntKind.u64 x0Bits_Value x0Bits_Mask)),
          W.max x0Smin (W.wrap IntKind.i64 (W.wrap IntKind.u64 (W.or IntKind.u64 x0Bits_Value (W.wrap IntKind.u64 (W.and IntKind.u64 x0Bits_Mask 9223372036854775808))))),
          W.min x0Smax (W.wrap IntKind.i64 (W.wrap IntKind.u64 (W.or IntKind.u64 x0Bits_Value (W.wrap IntKind.u64 (W.and IntKind.u64 x0Bits_Mask 9223372036854775807))))), x0Bits_Value, x0Bits_Mask)
theorem S_clevisref08bits   : SpecOk Try.prog 57 (mkS ps_clevisref08bits qs_clevisref08bits (N_clevisref08bits )) :=
  specOk_mk (fl := 10) (d := 12) base (by rintro R ⟨x0Umin, x0Umax, x0Smin, x0Smax, ⟨x0Bits_Value, x0Bits_Mask⟩⟩ k; kernel_rfl)
noncomputable def F_clevisref08bits : FT ps_clevisref08bits qs_clevisref08bits := N_clevisref08bits  
theorem ok_clevisref08bits : SpecOk Try.prog 57 (mkS ps_clevisref08bits qs_clevisref08bits F_clevisref08bits) := S_clevisref08bits 
abbrev ps_clevisref08signs : List PT := [.agg ((.prod (.int .u64) (.prod (.int .u64) (.prod (.int .i64) (.prod (.int .i64) ((.prod (.int .u64) (.int .u64))))))))]
abbrev qs_clevisref08signs : List PT := [.agg ((.prod (.int .u64) (.prod (.int .u64) (.prod (.int .i64) (.prod (.int .i64) ((.prod (.int .u64) (.int .u64))))))))]
noncomputable def N_clevisref08signs   : FT ps_clevisref08signs qs_clevisref08signs := fun R x k => match x with
  | (x0Umin, x0Umax, x0Smin, x0Smax, (x0Bits_Value, x0Bits_Mask)) => 
      br (W.pick (W.ge x0Smin 0) true (W.lt x0Smax 0))
        (k
          (W.max x0Umin (W.wrap IntKind.u64 x0Smin), W.min x0Umax (W.wrap IntKind.u64 x0Smax), W.wrap IntKind.i64 (W.max x0Umin (W.wrap IntKind.u64 x0Smin)),
            W.wrap IntKind.i64 (W.min x0Umax (W.wrap IntKind.u64 x0Smax)), x0Bits_Value, x0Bits_Mask))
        (br (W.ge (W.wrap IntKind.i64 x0Umax) 0)
          (k (x0Umin, W.wrap IntKind.u64 (W.min x0Smax (W.wrap IntKind.i64 x0Umax)), W.wrap IntKind.i64 x0Umin, W.min x0Smax (W.wrap IntKind.i64 x0Umax), x0Bits_Value, x0Bits_Mask))
          (br (W.lt (W.wrap IntKind.i64 x0Umin) 0)
            (k (W.wrap IntKind.u64 (W.max x0Smin (W.wrap IntKind.i64 x0Umin)), x0Umax, W.max x0Smin (W.wrap IntKind.i64 x0Umin), W.wrap IntKind.i64 x0Umax, x0Bits_Value, x0Bits_Mask))
            (k (x0Umin, x0Umax, x0Smin, x0Smax, x0Bits_Value, x0Bits_Mask))))
theorem S_clevisref08signs   : SpecOk Try.prog 58 (mkS ps_clevisref08signs qs_clevisref08signs (N_clevisref08signs )) :=
  specOk_mk (fl := 10) (d := 12) base (by rintro R ⟨x0Umin, x0Umax, x0Smin, x0Smax, ⟨x0Bits_Value, x0Bits_Mask⟩⟩ k; kernel_rfl)
noncomputable def F_clevisref08signs : FT ps_clevisref08signs qs_clevisref08signs := N_clevisref08signs  
theorem ok_clevisref08signs : SpecOk Try.prog 58 (mkS ps_clevisref08signs qs_clevisref08signs F_clevisref08signs) := S_clevisref08signs 
abbrev ps_clevisref07Range : List PT := [.one (.int .u64), .one (.int .u64)]
abbrev qs_clevisref07Range : List PT := [.agg ((.prod (.int .u64) (.int .u64)))]
noncomputable def PL_clevisref07Range_3_0  (fl : Nat)  (R : Type) (k : PTs.D qs_clevisref07Range → Option R) : LoopI R :=
  locate (Cw Try.prog [] noH) fl (call (Cw Try.prog [] noH) fl 11) 0 60 3 [] (getR qs_clevisref07Range k)
noncomputable def P_clevisref07Range_3_0  (fl : Nat)  (n : Nat) (R : Type) (y0 : Int) (y1 : Int) (y2 : Int) (y3 : Int) (y4 : Int) (k : PTs.D qs_clevisref07Range → Option R) : Option R :=
  loopH (PL_clevisref07Range_3_0  fl  R k).body (PL_clevisref07Range_3_0  fl  R k).head n (some (
      S.mk
        [V.int IntKind.u64 y0, V.any, V.any, V.any, V.ptr 0 0, V.int IntKind.u64 y1, V.int IntKind.u64 y2, V.any, V.any, V.any, V.any, V.any, V.any, V.any, V.any, V.any, V.any, V.any, V.any, V.any, V.any,
          V.any]
        [] [Blk.cells [V.int IntKind.u64 y3, V.int IntKind.u64 y4]])) (PL_clevisref07Range_3_0  fl  R k).kont
theorem P_clevisref07Range_3_0_s  (fl : Nat)  (n : Nat) (R : Type) (y0 : Int) (y1 : Int) (y2 : Int) (y3 : Int) (y4 : Int) (k : PTs.D qs_clevisref07Range → Option R) : P_clevisref07Range_3_0  fl  (n + 1) R y0 y1 y2 y3 y4 k =
      br (W.ne y1 0) (P_clevisref07Range_3_0 fl n R y0 (W.wrap IntKind.u64 (W.quo y1 2)) (W.wrap IntKind.u64 (W.add (W.wrap IntKind.u64 (W.mul y2 2)) 1)) y3 y4 k) (k (W.wrap IntKind.u64 (W.andNot IntKind.u64 y0 y2), y2)) := by kernel_rfl
noncomputable def N_clevisref07Range  (fl : Nat) : FT ps_clevisref07Range qs_clevisref07Range := fun R x k => match x with
  | (x0, x1) => 
      P_clevisref07Range_3_0 fl fl R x0 (W.wrap IntKind.u64 (W.xor IntKind.u64 x0 x1)) 0 0 0 k
theorem Q_clevisref07Range  (fl : Nat) (R : Type) (x : PTs.D ps_clevisref07Range) (k : PTs.D qs_clevisref07Range → Option R) : call (Cw Try.prog [] noH) fl 12 60 (encL true ps_clevisref07Range x) [] (getR qs_clevisref07Range k) = N_clevisref07Range  fl R x k := by
  obtain ⟨x0, x1⟩ := x; kernel_rfl
theorem S_clevisref07Range   : SpecOk Try.prog 60 (mkS ps_clevisref07Range qs_clevisref07Range (N_clevisref07Range  W.big)) :=
  specOk_mk (fl := W.big) (d := 12) base (fun R x k => Q_clevisref07Range W.big R x k)
noncomputable def F_clevisref07Range : FT ps_clevisref07Range qs_clevisref07Range := N_clevisref07Range  W.big
theorem ok_clevisref07Range : SpecOk Try.prog 60 (mkS ps_clevisref07Range qs_clevisref07Range F_clevisref07Range) := S_clevisref07Range 
abbrev ps_clevisref08Tidy : List PT := [.agg ((.prod (.int .u64) (.prod (.int .u64) (.prod (.int .i64) (.prod (.int .i64) ((.prod (.int .u64) (.int .u64))))))))]
abbrev qs_clevisref08Tidy : List PT := [.agg ((.prod (.int .u64) (.prod (.int .u64) (.prod (.int .i64) (.prod (.int .i64) ((.prod (.int .u64) (.int .u64)))))))), .one (.bool)]
noncomputable def PL_clevisref08Tidy_2_0 (F_clevisref07Meet : FT ps_clevisref07Meet qs_clevisref07Meet) (F_clevisref08bits : FT ps_clevisref08bits qs_clevisref08bits) (F_clevisref08signs : FT ps_clevisref08signs qs_clevisref08signs) (F_clevisref07Range : FT ps_clevisref07Range qs_clevisref07Range) (fl : Nat)  (R : Type) (k : PTs.D qs_clevisref08Tidy → Option R) : LoopI R :=
  locate (Cw Try.prog [(59, mkS ps_clevisref07Meet qs_clevisref07Meet F_clevisref07Meet), (57, mkS ps_clevisref08bits qs_clevisref08bits F_clevisref08bits), (58, mkS ps_clevisref08signs qs_clevisref08signs F_clevisref08signs), (60, mkS ps_clevisref07Range qs_clevisref07Range F_clevisref07Range)] noH) fl (call (Cw Try.prog [(59, mkS ps_clevisref07Meet qs_clevisref07Meet F_clevisref07Meet), (57, mkS ps_clevisref08bits qs_clevisref08bits F_clevisref08bits), (58, mkS ps_clevisref08signs qs_clevisref08signs F_clevisref08signs), (60, mkS ps_clevisref07Range qs_clevisref07Range F_clevisref07Range)] noH) fl 11) 0 32 2 [] (getR qs_clevisref08Tidy k)
noncomputable def P_clevisref08Tidy_2_0 (F_clevisref07Meet : FT ps_clevisref07Meet qs_clevisref07Meet) (F_clevisref08bits : FT ps_clevisref08bits qs_clevisref08bits) (F_clevisref08signs : FT ps_clevisref08signs qs_clevisref08signs) (F_clevisref07Range : FT ps_clevisref07Range qs_clevisref07Range) (fl : Nat)  (n : Nat) (R : Type) (y0 : Int) (y1 : Int) (y2 : Int) (y3 : Int) (y4 : Int) (y5 : Int) (y6 : Int) (y7 : Int) (y8 : Int) (y9 : Int) (y10 : Int) (y11 : Int) (y12 : Int) (k : PTs.D qs_clevisref08Tidy → Option R) : Option R :=
  loopH (PL_clevisref08Tidy_2_0 F_clevisref07Meet F_clevisref08bits F_clevisref08signs F_clevisref07Range fl  R k).body (PL_clevisref08Tidy_2_0 F_clevisref07Meet F_clevisref08bits F_clevisref08signs F_clevisref07Range fl  R k).head n (some (
      S.mk
        [V.any, V.ptr 0 0, V.ptr 1 0, V.any, V.int IntKind.i64 y0, V.any, V.any, V.any, V.any, V.any, V.any, V.any, V.any, V.any, V.any, V.any, V.any, V.any, V.any, V.any, V.any, V.any, V.any, V.any, V.any,
          V.any, V.any, V.any, V.any, V.any, V.any, V.any, V.any, V.any, V.any, V.any, V.any, V.any, V.any, V.any, V.any, V.any, V.any, V.any, V.any, V.any, V.any, V.any, V.any, V.any, V.any, V.any, V.any,
          V.any, V.any, V.any, V.any, V.any, V.any]
        []
        [Blk.cells [V.int IntKind.u64 y1, V.int IntKind.u64 y2, V.int IntKind.i64 y3, V.int IntKind.i64 y4, V.int IntKind.u64 y5, V.int IntKind.u64 y6],
          Blk.cells [V.int IntKind.u64 y7, V.int IntKind.u64 y8, V.int IntKind.i64 y9, V.int IntKind.i64 y10, V.int IntKind.u64 y11, V.int IntKind.u64 y12]])) (PL_clevisref08Tidy_2_0 F_clevisref07Meet F_clevisref08bits F_clevisref08signs F_clevisref07Range fl  R k).kont
theorem P_clevisref08Tidy_2_0_s {F_clevisref07Meet : FT ps_clevisref07Meet qs_clevisref07Meet} {F_clevisref08bits : FT ps_clevisref08bits qs_clevisref08bits} {F_clevisref08signs : FT ps_clevisref08signs qs_clevisref08signs} {F_clevisref07Range : FT ps_clevisref07Range qs_clevisref07Range} (fl : Nat)  (n : Nat) (R : Type) (y0 : Int) (y1 : Int) (y2 : Int) (y3 : Int) (y4 : Int) (y5 : Int) (y6 : Int) (y7 : Int) (y8 : Int) (y9 : Int) (y10 : Int) (y11 : Int) (y12 : Int) (k : PTs.D qs_clevisref08Tidy → Option R) : P_clevisref08Tidy_2_0 F_clevisref07Meet F_clevisref08bits F_clevisref08signs F_clevisref07Range fl  (n + 1) R y0 y1 y2 y3 y4 y5 y6 y7 y8 y9 y10 y11 y12 k =
      br (W.lt y0 2)
        (F_clevisref08bits R (y1, y2, y3, y4, y5, y6) fun y =>
          br (W.pick (W.gt y.1 y.2.1) true (W.gt y.2.2.1 y.2.2.2.1)) (k ((0, 0, 0, 0, 0, 0), false))
            (F_clevisref08signs R (y.1, y.2.1, y.2.2.1, y.2.2.2.1, y.2.2.2.2.1, y.2.2.2.2.2) fun y =>
              F_clevisref07Range R (y.1, y.2.1) fun y_1 =>
                F_clevisref07Meet R ((y.2.2.2.2.1, y.2.2.2.2.2), y_1.1, y_1.2) fun y_2 =>
                  br (W.pick (W.pick (W.not y_2.2) true (W.gt y.1 y.2.1)) true (W.gt y.2.2.1 y.2.2.2.1)) (k ((0, 0, 0, 0, 0, 0), false))
                    (P_clevisref08Tidy_2_0 F_clevisref07Meet F_clevisref08bits F_clevisref08signs F_clevisref07Range fl n R (W.wrap IntKind.i64 (W.add y0 1)) y.1 y.2.1 y.2.2.1 y.2.2.2.1 y_2.1.1 y_2.1.2 y7 y8 y9 y10
                      y11 y12 k)))
        (k ((y1, y2, y3, y4, y5, y6), true)) := by kernel_rfl
noncomputable def N_clevisref08Tidy (F_clevisref07Meet : FT ps_clevisref07Meet qs_clevisref07Meet) (F_clevisref08bits : FT ps_clevisref08bits qs_clevisref08bits) (F_clevisref08signs : FT ps_clevisref08signs qs_clevisref08signs) (F_clevisref07Range : FT ps_clevisref07Range qs_clevisref07Range) (fl : Nat) : FT ps_clevisref08Tidy qs_clevisref08Tidy := fun R x k => match x with
  | (x0Umin, x0Umax, x0Smin, x0Smax, (x0Bits_Value, x0Bits_Mask)) => 
      P_clevisref08Tidy_2_0 F_clevisref07Meet F_clevisref08bits F_clevisref08signs F_clevisref07Range fl fl R 0 x0Umin x0Umax x0Smin x0Smax x0Bits_Value x0Bits_Mask 0 0 0 0 0 0 k
theorem Q_clevisref08Tidy {F_clevisref07Meet : FT ps_clevisref07Meet qs_clevisref07Meet} {F_clevisref08bits : FT ps_clevisref08bits qs_clevisref08bits} {F_clevisref08signs : FT ps_clevisref08signs qs_clevisref08signs} {F_clevisref07Range : FT ps_clevisref07Range qs_clevisref07Range} (fl : Nat) (R : Type) (x : PTs.D ps_clevisref08Tidy) (k : PTs.D qs_clevisref08Tidy → Option R) : call (Cw Try.prog [(59, mkS ps_clevisref07Meet qs_clevisref07Meet F_clevisref07Meet), (57, mkS ps_clevisref08bits qs_clevisref08bits F_clevisref08bits), (58, mkS ps_clevisref08signs qs_clevisref08signs F_clevisref08signs), (60, mkS ps_clevisref07Range qs_clevisref07Range F_clevisref07Range)] noH) fl 12 32 (encL true ps_clevisref08Tidy x) [] (getR qs_clevisref08Tidy k) = N_clevisref08Tidy F_clevisref07Meet F_clevisref08bits F_clevisref08signs F_clevisref07Range fl R x k := by
  obtain ⟨x0Umin, x0Umax, x0Smin, x0Smax, ⟨x0Bits_Value, x0Bits_Mask⟩⟩ := x; kernel_rfl
theorem S_clevisref08Tidy {F_clevisref07Meet : FT ps_clevisref07Meet qs_clevisref07Meet} {F_clevisref08bits : FT ps_clevisref08bits qs_clevisref08bits} {F_clevisref08signs : FT ps_clevisref08signs qs_clevisref08signs} {F_clevisref07Range : FT ps_clevisref07Range qs_clevisref07Range} (h_clevisref07Meet : SpecOk Try.prog 59 (mkS ps_clevisref07Meet qs_clevisref07Meet F_clevisref07Meet)) (h_clevisref08bits : SpecOk Try.prog 57 (mkS ps_clevisref08bits qs_clevisref08bits F_clevisref08bits)) (h_clevisref08signs : SpecOk Try.prog 58 (mkS ps_clevisref08signs qs_clevisref08signs F_clevisref08signs)) (h_clevisref07Range : SpecOk Try.prog 60 (mkS ps_clevisref07Range qs_clevisref07Range F_clevisref07Range)) : SpecOk Try.prog 32 (mkS ps_clevisref08Tidy qs_clevisref08Tidy (N_clevisref08Tidy F_clevisref07Meet F_clevisref08bits F_clevisref08signs F_clevisref07Range W.big)) :=
  specOk_mk (fl := W.big) (d := 12) (cfgOk_cons (cfgOk_cons (cfgOk_cons (cfgOk_cons base h_clevisref07Range) h_clevisref08signs) h_clevisref08bits) h_clevisref07Meet) (fun R x k => Q_clevisref08Tidy W.big R x k)
noncomputable def F_clevisref08Tidy : FT ps_clevisref08Tidy qs_clevisref08Tidy := N_clevisref08Tidy F_clevisref07Meet F_clevisref08bits F_clevisref08signs F_clevisref07Range W.big
theorem ok_clevisref08Tidy : SpecOk Try.prog 32 (mkS ps_clevisref08Tidy qs_clevisref08Tidy F_clevisref08Tidy) := S_clevisref08Tidy ok_clevisref07Meet ok_clevisref08bits ok_clevisref08signs ok_clevisref07Range
abbrev ps_clevisref08Meet : List PT := [.agg ((.prod (.int .u64) (.prod (.int .u64) (.prod (.int .i64) (.prod (.int .i64) ((.prod (.int .u64) (.int .u64)))))))), .agg ((.prod (.int .u64) (.prod (.int .u64) (.prod (.int .i64) (.prod (.int .i64) ((.prod (.int .u64) (.int .u64))))))))]
abbrev qs_clevisref08Meet : List PT := [.agg ((.prod (.int .u64) (.prod (.int .u64) (.prod (.int .i64) (.prod (.int .i64) ((.prod (.int .u64) (.int .u64)))))))), .one (.bool)]
noncomputable def N_clevisref08Meet (F_clevisref07Meet : FT ps_clevisref07Meet qs_clevisref07Meet) (F_clevisref08Tidy : FT ps_clevisref08Tidy qs_clevisref08Tidy)  : FT ps_clevisref08Meet qs_clevisref08Meet := fun R x k => match x with
  | ((x0Umin, x0Umax, x0Smin, x0Smax, (x0Bits_Value, x0Bits_Mask)), (x1Umin, x1Umax, x1Smin, x1Smax, (x1Bits_Value, x1Bits_Mask))) => 
      F_clevisref07Meet R ((x0Bits_Value, x0Bits_Mask), x1Bits_Value, x1Bits_Mask) fun y =>
        br (W.not y.2) (k ((0, 0, 0, 0, 0, 0), false))
          (F_clevisref08Tidy R (W.max x0Umin x1Umin, W.min x0Umax x1Umax, W.max x0Smin x1Smin, W.min x0Smax x1Smax, y.1.1, y.1.2) fun y =>
            k ((y.1.1, y.1.2.1, y.1.2.2.1, y.1.2.2.2.1, y.1.2.2.2.2.1, y.1.2.2.2.2.2), y.2))
theorem S_clevisref08Meet {F_clevisref07Meet : FT ps_clevisref07Meet qs_clevisref07Meet} {F_clevisref08Tidy : FT ps_clevisref08Tidy qs_clevisref08Tidy} (h_clevisref07Meet : SpecOk Try.prog 59 (mkS ps_clevisref07Meet qs_clevisref07Meet F_clevisref07Meet)) (h_clevisref08Tidy : SpecOk Try.prog 32 (mkS ps_clevisref08Tidy qs_clevisref08Tidy F_clevisref08Tidy)) : SpecOk Try.prog 51 (mkS ps_clevisref08Meet qs_clevisref08Meet (N_clevisref08Meet F_clevisref07Meet F_clevisref08Tidy)) :=
  specOk_mk (fl := 10) (d := 12) (cfgOk_cons (cfgOk_cons base h_clevisref08Tidy) h_clevisref07Meet) (by rintro R ⟨⟨x0Umin, x0Umax, x0Smin, x0Smax, ⟨x0Bits_Value, x0Bits_Mask⟩⟩, ⟨x1Umin, x1Umax, x1Smin, x1Smax, ⟨x1Bits_Value, x1Bits_Mask⟩⟩⟩ k; kernel_rfl)
noncomputable def F_clevisref08Meet : FT ps_clevisref08Meet qs_clevisref08Meet := N_clevisref08Meet F_clevisref07Meet F_clevisref08Tidy 
theorem ok_clevisref08Meet : SpecOk Try.prog 51 (mkS ps_clevisref08Meet qs_clevisref08Meet F_clevisref08Meet) := S_clevisref08Meet ok_clevisref07Meet ok_clevisref08Tidy
abbrev ps_clevisref10apart : List PT := [.agg ((.prod (.int .u64) (.prod (.int .u64) (.prod (.int .i64) (.prod (.int .i64) ((.prod (.int .u64) (.int .u64)))))))), .one (.int .u64)]
abbrev qs_clevisref10apart : List PT := [.agg ((.prod (.int .u64) (.prod (.int .u64) (.prod (.int .i64) (.prod (.int .i64) ((.prod (.int .u64) (.int .u64))))))))]
noncomputable def N_clevisref10apart   : FT ps_clevisref10apart qs_clevisref10apart := fun R x k => match x with
  | ((x0Umin, x0Umax, x0Smin, x0Smax, (x0Bits_Value, x0Bits_Mask)), x1) => 
      br (W.pick (W.eq x0Umin x1) (W.lt x1 18446744073709551615) false)
        (br (W.pick (W.eq x0Umax x1) (W.gt x1 0) false)
          (br (W.pick (W.eq x0Smin (W.wrap IntKind.i64 x1)) (W.lt (W.wrap IntKind.i64 x1) 9223372036854775807) false)
            (br (W.pick (W.eq x0Smax (W.wrap IntKind.i64 x1)) (W.gt (W.wrap IntKind.i64 x1) (-9223372036854775808)) false)
              (k
                (W.wrap IntKind.u64 (W.add x1 1), W.wrap IntKind.u64 (W.sub x1 1), W.wrap IntKind.i64 (W.add (W.wrap IntKind.i64 x1) 1), W.wrap IntKind.i64 (W.sub (W.wrap IntKind.i64 x1) 1), x0Bits_Value,
                  x0Bits_Mask))
              (k (W.wrap IntKind.u64 (W.add x1 1), W.wrap IntKind.u64 (W.sub x1 1), W.wrap IntKind.i64 (W.add (W.wrap IntKind.i64 x1) 1), x0Smax, x0Bits_Value, x0Bits_Mask)))
            (br (W.pick (W.eq x0Smax (W.wrap IntKind.i64 x1)) (W.gt (W.wrap IntKind.i64 x1) (-9223372036854775808)) false)
              (k (W.wrap IntKind.u64 (W.add x1 1), W.wrap IntKind.u64 (W.sub x1 1), x0Smin, W.wrap IntKind.i64 (W.sub (W.wrap IntKind.i64 x1) 1), x0Bits_Value, x0Bits_Mask))
              (k (W.wrap IntKind.u64 (W.add x1 1), W.wrap IntKind.u64 (W.sub x1 1), x0Smin, x0Smax, x0Bits_Value, x0Bits_Mask))))
          (br (W.pick (W.eq x0Smin (W.wrap IntKind.i64 x1)) (W.lt (W.wrap IntKind.i64 x1) 9223372036854775807) false)
            (br (W.pick (W.eq x0Smax (W.wrap IntKind.i64 x1)) (W.gt (W.wrap IntKind.i64 x1) (-9223372036854775808)) false)
              (k (W.wrap IntKind.u64 (W.add x1 1), x0Umax, W.wrap IntKind.i64 (W.add (W.wrap IntKind.i64 x1) 1), W.wrap IntKind.i64 (W.sub (W.wrap IntKind.i64 x1) 1), x0Bits_Value, x0Bits_Mask))
              (k (W.wrap IntKind.u64 (W.add x1 1), x0Umax, W.wrap IntKind.i64 (W.add (W.wrap IntKind.i64 x1) 1), x0Smax, x0Bits_Value, x0Bits_Mask)))
            (br (W.pick (W.eq x0Smax (W.wrap IntKind.i64 x1)) (W.gt (W.wrap IntKind.i64 x1) (-9223372036854775808)) false)
              (k (W.wrap IntKind.u64 (W.add x1 1), x0Umax, x0Smin, W.wrap IntKind.i64 (W.sub (W.wrap IntKind.i64 x1) 1), x0Bits_Value, x0Bits_Mask))
              (k (W.wrap IntKind.u64 (W.add x1 1), x0Umax, x0Smin, x0Smax, x0Bits_Value, x0Bits_Mask)))))
        (br (W.pick (W.eq x0Umax x1) (W.gt x1 0) false)
          (br (W.pick (W.eq x0Smin (W.wrap IntKind.i64 x1)) (W.lt (W.wrap IntKind.i64 x1) 9223372036854775807) false)
            (br (W.pick (W.eq x0Smax (W.wrap IntKind.i64 x1)) (W.gt (W.wrap IntKind.i64 x1) (-9223372036854775808)) false)
              (k (x0Umin, W.wrap IntKind.u64 (W.sub x1 1), W.wrap IntKind.i64 (W.add (W.wrap IntKind.i64 x1) 1), W.wrap IntKind.i64 (W.sub (W.wrap IntKind.i64 x1) 1), x0Bits_Value, x0Bits_Mask))
              (k (x0Umin, W.wrap IntKind.u64 (W.sub x1 1), W.wrap IntKind.i64 (W.add (W.wrap IntKind.i64 x1) 1), x0Smax, x0Bits_Value, x0Bits_Mask)))
            (br (W.pick (W.eq x0Smax (W.wrap IntKind.i64 x1)) (W.gt (W.wrap IntKind.i64 x1) (-9223372036854775808)) false)
              (k (x0Umin, W.wrap IntKind.u64 (W.sub x1 1), x0Smin, W.wrap IntKind.i64 (W.sub (W.wrap IntKind.i64 x1) 1), x0Bits_Value, x0Bits_Mask))
              (k (x0Umin, W.wrap IntKind.u64 (W.sub x1 1), x0Smin, x0Smax, x0Bits_Value, x0Bits_Mask))))
          (br (W.pick (W.eq x0Smin (W.wrap IntKind.i64 x1)) (W.lt (W.wrap IntKind.i64 x1) 9223372036854775807) false)
            (br (W.pick (W.eq x0Smax (W.wrap IntKind.i64 x1)) (W.gt (W.wrap IntKind.i64 x1) (-9223372036854775808)) false)
              (k (x0Umin, x0Umax, W.wrap IntKind.i64 (W.add (W.wrap IntKind.i64 x1) 1), W.wrap IntKind.i64 (W.sub (W.wrap IntKind.i64 x1) 1), x0Bits_Value, x0Bits_Mask))
              (k (x0Umin, x0Umax, W.wrap IntKind.i64 (W.add (W.wrap IntKind.i64 x1) 1), x0Smax, x0Bits_Value, x0Bits_Mask)))
            (br (W.pick (W.eq x0Smax (W.wrap IntKind.i64 x1)) (W.gt (W.wrap IntKind.i64 x1) (-9223372036854775808)) false)
              (k (x0Umin, x0Umax, x0Smin, W.wrap IntKind.i64 (W.sub (W.wrap IntKind.i64 x1) 1), x0Bits_Value, x0Bits_Mask)) (k (x0Umin, x0Umax, x0Smin, x0Smax, x0Bits_Value, x0Bits_Mask)))))
theorem S_clevisref10apart   : SpecOk Try.prog 52 (mkS ps_clevisref10apart qs_clevisref10apart (N_clevisref10apart )) :=
  specOk_mk (fl := 10) (d := 12) base (by rintro R ⟨⟨x0Umin, x0Umax, x0Smin, x0Smax, ⟨x0Bits_Value, x0Bits_Mask⟩⟩, x1⟩ k; kernel_rfl)
noncomputable def F_clevisref10apart : FT ps_clevisref10apart qs_clevisref10apart := N_clevisref10apart  
theorem ok_clevisref10apart : SpecOk Try.prog 52 (mkS ps_clevisref10apart qs_clevisref10apart F_clevisref10apart) := S_clevisref10apart 
abbrev ps_clevisref10below : List PT := [.agg ((.prod (.int .u64) (.prod (.int .u64) (.prod (.int .i64) (.prod (.int .i64) ((.prod (.int .u64) (.int .u64)))))))), .agg ((.prod (.int .u64) (.prod (.int .u64) (.prod (.int .i64) (.prod (.int .i64) ((.prod (.int .u64) (.int .u64))))))))]
abbrev qs_clevisref10below : List PT := [.agg ((.prod (.int .u64) (.prod (.int .u64) (.prod (.int .i64) (.prod (.int .i64) ((.prod (.int .u64) (.int .u64)))))))), .agg ((.prod (.int .u64) (.prod (.int .u64) (.prod (.int .i64) (.prod (.int .i64) ((.prod (.int .u64) (.int .u64)))))))), .one (.bool)]
noncomputable def N_clevisref10below   : FT ps_clevisref10below qs_clevisref10below := fun R x k => match x with
  | ((x0Umin, x0Umax, x0Smin, x0Smax, (x0Bits_Value, x0Bits_Mask)), (x1Umin, x1Umax, x1Smin, x1Smax, (x1Bits_Value, x1Bits_Mask))) => 
      br (W.eq x1Umax 0) (k ((x0Umin, x0Umax, x0Smin, x0Smax, x0Bits_Value, x0Bits_Mask), (x1Umin, x1Umax, x1Smin, x1Smax, x1Bits_Value, x1Bits_Mask), false))
        (br (W.eq x0Umin 18446744073709551615)
          (k ((x0Umin, W.min x0Umax (W.wrap IntKind.u64 (W.sub x1Umax 1)), x0Smin, x0Smax, x0Bits_Value, x0Bits_Mask), (x1Umin, x1Umax, x1Smin, x1Smax, x1Bits_Value, x1Bits_Mask), false))
          (k
            ((x0Umin, W.min x0Umax (W.wrap IntKind.u64 (W.sub x1Umax 1)), x0Smin, x0Smax, x0Bits_Value, x0Bits_Mask),
              (W.max x1Umin (W.wrap IntKind.u64 (W.add x0Umin 1)), x1Umax, x1Smin, x1Smax, x1Bits_Value, x1Bits_Mask), true)))
theorem S_clevisref10below   : SpecOk Try.prog 53 (mkS ps_clevisref10below qs_clevisref10below (N_clevisref10below )) :=
  specOk_mk (fl := 10) (d := 12) base (by rintro R ⟨⟨x0Umin, x0Umax, x0Smin, x0Smax, ⟨x0Bits_Value, x0Bits_Mask⟩⟩, ⟨x1Umin, x1Umax, x1Smin, x1Smax, ⟨x1Bits_Value, x1Bits_Mask⟩⟩⟩ k; kernel_rfl)
noncomputable def F_clevisref10below : FT ps_clevisref10below qs_clevisref10below := N_clevisref10below  
theorem ok_clevisref10below : SpecOk Try.prog 53 (mkS ps_clevisref10below qs_clevisref10below F_clevisref10below) := S_clevisref10below 
abbrev ps_clevisref10upto : List PT := [.agg ((.prod (.int .u64) (.prod (.int .u64) (.prod (.int .i64) (.prod (.int .i64) ((.prod (.int .u64) (.int .u64)))))))), .agg ((.prod (.int .u64) (.prod (.int .u64) (.prod (.int .i64) (.prod (.int .i64) ((.prod (.int .u64) (.int .u64))))))))]
abbrev qs_clevisref10upto : List PT := [.agg ((.prod (.int .u64) (.prod (.int .u64) (.prod (.int .i64) (.prod (.int .i64) ((.prod (.int .u64) (.int .u64)))))))), .agg ((.prod (.int .u64) (.prod (.int .u64) (.prod (.int .i64) (.prod (.int .i64) ((.prod (.int .u64) (.int .u64)))))))), .one (.bool)]
noncomputable def N_clevisref10upto   : FT ps_clevisref10upto qs_clevisref10upto := fun R x k => match x with
  | ((x0Umin, x0Umax, x0Smin, x0Smax, (x0Bits_Value, x0Bits_Mask)), (x1Umin, x1Umax, x1Smin, x1Smax, (x1Bits_Value, x1Bits_Mask))) => 
      k ((x0Umin, W.min x0Umax x1Umax, x0Smin, x0Smax, x0Bits_Value, x0Bits_Mask), (W.max x1Umin x0Umin, x1Umax, x1Smin, x1Smax, x1Bits_Value, x1Bits_Mask), true)
theorem S_clevisref10upto   : SpecOk Try.prog 54 (mkS ps_clevisref10upto qs_clevisref10upto (N_clevisref10upto )) :=
  specOk_mk (fl := 10) (d := 12) base (by rintro R ⟨⟨x0Umin, x0Umax, x0Smin, x0Smax, ⟨x0Bits_Value, x0Bits_Mask⟩⟩, ⟨x1Umin, x1Umax, x1Smin, x1Smax, ⟨x1Bits_Value, x1Bits_Mask⟩⟩⟩ k; kernel_rfl)
noncomputable def F_clevisref10upto : FT ps_clevisref10upto qs_clevisref10upto := N_clevisref10upto  
theorem ok_clevisref10upto : SpecOk Try.prog 54 (mkS ps_clevisref10upto qs_clevisref10upto F_clevisref10upto) := S_clevisref10upto 
abbrev ps_clevisref10sbelow : List PT := [.agg ((.prod (.int .u64) (.prod (.int .u64) (.prod (.int .i64) (.prod (.int .i64) ((.prod (.int .u64) (.int .u64)))))))), .agg ((.prod (.int .u64) (.prod (.int .u64) (.prod (.int .i64) (.prod (.int .i64) ((.prod (.int .u64) (.int .u64))))))))]
abbrev qs_clevisref10sbelow : List PT := [.agg ((.prod (.int .u64) (.prod (.int .u64) (.prod (.int .i64) (.prod (.int .i64) ((.prod (.int .u64) (.int .u64)))))))), .agg ((.prod (.int .u64) (.prod (.int .u64) (.prod (.int .i64) (.prod (.int .i64) ((.prod (.int .u64) (.int .u64)))))))), .one (.bool)]
noncomputable def N_clevisref10sbelow   : FT ps_clevisref10sbelow qs_clevisref10sbelow := fun R x k => match x with
  | ((x0Umin, x0Umax, x0Smin, x0Smax, (x0Bits_Value, x0Bits_Mask)), (x1Umin, x1Umax, x1Smin, x1Smax, (x1Bits_Value, x1Bits_Mask))) => 
      br (W.pick (W.eq x1Smax (-9223372036854775808)) true (W.eq x0Smin 9223372036854775807))
        (k ((x0Umin, x0Umax, x0Smin, x0Smax, x0Bits_Value, x0Bits_Mask), (x1Umin, x1Umax, x1Smin, x1Smax, x1Bits_Value, x1Bits_Mask), false))
        (k
          ((x0Umin, x0Umax, x0Smin, W.min x0Smax (W.wrap IntKind.i64 (W.sub x1Smax 1)), x0Bits_Value, x0Bits_Mask),
            (x1Umin, x1Umax, W.max x1Smin (W.wrap IntKind.i64 (W.add x0Smin 1)), x1Smax, x1Bits_Value, x1Bits_Mask), true))
theorem S_clevisref10sbelow   : SpecOk Try.prog 55 (mkS ps_clevisref10sbelow qs_clevisref10sbelow (N_clevisref10sbelow )) :=
  specOk_mk (fl := 10) (d := 12) base (by rintro R ⟨⟨x0Umin, x0Umax, x0Smin, x0Smax, ⟨x0Bits_Value, x0Bits_Mask⟩⟩, ⟨x1Umin, x1Umax, x1Smin, x1Smax, ⟨x1Bits_Value, x1Bits_Mask⟩⟩⟩ k; kernel_rfl)
noncomputable def F_clevisref10sbelow : FT ps_clevisref10sbelow qs_clevisref10sbelow := N_clevisref10sbelow  
theorem ok_clevisref10sbelow : SpecOk Try.prog 55 (mkS ps_clevisref10sbelow qs_clevisref10sbelow F_clevisref10sbelow) := S_clevisref10sbelow 
abbrev ps_clevisref10supto : List PT := [.agg ((.prod (.int .u64) (.prod (.int .u64) (.prod (.int .i64) (.prod (.int .i64) ((.prod (.int .u64) (.int .u64)))))))), .agg ((.prod (.int .u64) (.prod (.int .u64) (.prod (.int .i64) (.prod (.int .i64) ((.prod (.int .u64) (.int .u64))))))))]
abbrev qs_clevisref10supto : List PT := [.agg ((.prod (.int .u64) (.prod (.int .u64) (.prod (.int .i64) (.prod (.int .i64) ((.prod (.int .u64) (.int .u64)))))))), .agg ((.prod (.int .u64) (.prod (.int .u64) (.prod (.int .i64) (.prod (.int .i64) ((.prod (.int .u64) (.int .u64)))))))), .one (.bool)]
noncomputable def N_clevisref10supto   : FT ps_clevisref10supto qs_clevisref10supto := fun R x k => match x with
  | ((x0Umin, x0Umax, x0Smin, x0Smax, (x0Bits_Value, x0Bits_Mask)), (x1Umin, x1Umax, x1Smin, x1Smax, (x1Bits_Value, x1Bits_Mask))) => 
      k ((x0Umin, x0Umax, x0Smin, W.min x0Smax x1Smax, x0Bits_Value, x0Bits_Mask), (x1Umin, x1Umax, W.max x1Smin x0Smin, x1Smax, x1Bits_Value, x1Bits_Mask), true)
theorem S_clevisref10supto   : SpecOk Try.prog 56 (mkS ps_clevisref10supto qs_clevisref10supto (N_clevisref10supto )) :=
  specOk_mk (fl := 10) (d := 12) base (by rintro R ⟨⟨x0Umin, x0Umax, x0Smin, x0Smax, ⟨x0Bits_Value, x0Bits_Mask⟩⟩, ⟨x1Umin, x1Umax, x1Smin, x1Smax, ⟨x1Bits_Value, x1Bits_Mask⟩⟩⟩ k; kernel_rfl)
noncomputable def F_clevisref10supto : FT ps_clevisref10supto qs_clevisref10supto := N_clevisref10supto  
theorem ok_clevisref10supto : SpecOk Try.prog 56 (mkS ps_clevisref10supto qs_clevisref10supto F_clevisref10supto) := S_clevisref10supto 
abbrev ps_clevisref10truth : List PT := [.one (.int .i64), .agg ((.prod (.int .u64) (.prod (.int .u64) (.prod (.int .i64) (.prod (.int .i64) ((.prod (.int .u64) (.int .u64)))))))), .agg ((.prod (.int .u64) (.prod (.int .u64) (.prod (.int .i64) (.prod (.int .i64) ((.prod (.int .u64) (.int .u64))))))))]
abbrev qs_clevisref10truth : List PT := [.agg ((.prod (.int .u64) (.prod (.int .u64) (.prod (.int .i64) (.prod (.int .i64) ((.prod (.int .u64) (.int .u64)))))))), .agg ((.prod (.int .u64) (.prod (.int .u64) (.prod (.int .i64) (.prod (.int .i64) ((.prod (.int .u64) (.int .u64)))))))), .one (.bool)]
noncomputable def N_clevisref10truth (F_clevisref08Value : FT ps_clevisref08Value qs_clevisref08Value) (F_clevisref08Meet : FT ps_clevisref08Meet qs_clevisref08Meet) (F_clevisref10apart : FT ps_clevisref10apart qs_clevisref10apart) (F_clevisref10below : FT ps_clevisref10below qs_clevisref10below) (F_clevisref10upto : FT ps_clevisref10upto qs_clevisref10upto) (F_clevisref10sbelow : FT ps_clevisref10sbelow qs_clevisref10sbelow) (F_clevisref10supto : FT ps_clevisref10supto qs_clevisref10supto)  : FT ps_clevisref10truth qs_clevisref10truth := fun R x k => match x with
  | (x0, (x1Umin, x1Umax, x1Smin, x1Smax, (x1Bits_Value, x1Bits_Mask)), (x2Umin, x2Umax, x2Smin, x2Smax, (x2Bits_Value, x2Bits_Mask))) => 
      br (W.eq x0 16)
        (F_clevisref08Meet R ((x1Umin, x1Umax, x1Smin, x1Smax, x1Bits_Value, x1Bits_Mask), x2Umin, x2Umax, x2Smin, x2Smax, x2Bits_Value, x2Bits_Mask) fun y =>
          k ((y.1.1, y.1.2.1, y.1.2.2.1, y.1.2.2.2.1, y.1.2.2.2.2.1, y.1.2.2.2.2.2), (y.1.1, y.1.2.1, y.1.2.2.1, y.1.2.2.2.1, y.1.2.2.2.2.1, y.1.2.2.2.2.2), y.2))
        (br (W.eq x0 80)
          (F_clevisref08Value R (x1Umin, x1Umax, x1Smin, x1Smax, x1Bits_Value, x1Bits_Mask) fun y =>
            F_clevisref08Value R (x2Umin, x2Umax, x2Smin, x2Smax, x2Bits_Value, x2Bits_Mask) fun y_1 =>
              br y_1.2
                (F_clevisref10apart R ((x1Umin, x1Umax, x1Smin, x1Smax, x1Bits_Value, x1Bits_Mask), y_1.1) fun y_2 =>
                  br y.2
                    (F_clevisref10apart R ((x2Umin, x2Umax, x2Smin, x2Smax, x2Bits_Value, x2Bits_Mask), y.1) fun y =>
                      k ((y_2.1, y_2.2.1, y_2.2.2.1, y_2.2.2.2.1, y_2.2.2.2.2.1, y_2.2.2.2.2.2), (y.1, y.2.1, y.2.2.1, y.2.2.2.1, y.2.2.2.2.1, y.2.2.2.2.2), true))
                    (k ((y_2.1, y_2.2.1, y_2.2.2.1, y_2.2.2.2.1, y_2.2.2.2.2.1, y_2.2.2.2.2.2), (x2Umin, x2Umax, x2Smin, x2Smax, x2Bits_Value, x2Bits_Mask), true)))
                (br y.2
                  (F_clevisref10apart R ((x2Umin, x2Umax, x2Smin, x2Smax, x2Bits_Value, x2Bits_Mask), y.1) fun y =>
                    k ((x1Umin, x1Umax, x1Smin, x1Smax, x1Bits_Value, x1Bits_Mask), (y.1, y.2.1, y.2.2.1, y.2.2.2.1, y.2.2.2.2.1, y.2.2.2.2.2), true))
                  (k ((x1Umin, x1Umax, x1Smin, x1Smax, x1Bits_Value, x1Bits_Mask), (x2Umin, x2Umax, x2Smin, x2Smax, x2Bits_Value, x2Bits_Mask), true))))
          (br (W.eq x0 32)
            (F_clevisref10below R ((x2Umin, x2Umax, x2Smin, x2Smax, x2Bits_Value, x2Bits_Mask), x1Umin, x1Umax, x1Smin, x1Smax, x1Bits_Value, x1Bits_Mask) fun y =>
              k ((y.2.1.1, y.2.1.2.1, y.2.1.2.2.1, y.2.1.2.2.2.1, y.2.1.2.2.2.2.1, y.2.1.2.2.2.2.2), (y.1.1, y.1.2.1, y.1.2.2.1, y.1.2.2.2.1, y.1.2.2.2.2.1, y.1.2.2.2.2.2), y.2.2))
            (br (W.eq x0 160)
              (F_clevisref10below R ((x1Umin, x1Umax, x1Smin, x1Smax, x1Bits_Value, x1Bits_Mask), x2Umin, x2Umax, x2Smin, x2Smax, x2Bits_Value, x2Bits_Mask) fun y =>
                k ((y.1.1, y.1.2.1, y.1.2.2.1, y.1.2.2.2.1, y.1.2.2.2.2.1, y.1.2.2.2.2.2), (y.2.1.1, y.2.1.2.1, y.2.1.2.2.1, y.2.1.2.2.2.1, y.2.1.2.2.2.2.1, y.2.1.2.2.2.2.2), y.2.2))
              (br (W.eq x0 48)
                (F_clevisref10upto R ((x2Umin, x2Umax, x2Smin, x2Smax, x2Bits_Value, x2Bits_Mask), x1Umin, x1Umax, x1Smin, x1Smax, x1Bits_Value, x1Bits_Mask) fun y =>
                  k ((y.2.1.1, y.2.1.2.1, y.2.1.2.2.1, y.2.1.2.2.2.1, y.2.1.2.2.2.2.1, y.2.1.2.2.2.2.2), (y.1.1, y.1.2.1, y.1.2.2.1, y.1.2.2.2.1, y.1.2.2.2.2.1, y.1.2.2.2.2.2), y.2.2))
                (br (W.eq x0 176)
                  (F_clevisref10upto R ((x1Umin, x1Umax, x1Smin, x1Smax, x1Bits_Value, x1Bits_Mask), x2Umin, x2Umax, x2Smin, x2Smax, x2Bits_Value, x2Bits_Mask) fun y =>
                    k ((y.1.1, y.1.2.1, y.1.2.2.1, y.1.2.2.2.1, y.1.2.2.2.2.1, y.1.2.2.2.2.2), (y.2.1.1, y.2.1.2.1, y.2.1.2.2.1, y.2.1.2.2.2.1, y.2.1.2.2.2.2.1, y.2.1.2.2.2.2.2), y.2.2))
                  (br (W.eq x0 96)
                    (F_clevisref10sbelow R ((x2Umin, x2Umax, x2Smin, x2Smax, x2Bits_Value, x2Bits_Mask), x1Umin, x1Umax, x1Smin, x1Smax, x1Bits_Value, x1Bits_Mask) fun y =>
                      k ((y.2.1.1, y.2.1.2.1, y.2.1.2.2.1, y.2.1.2.2.2.1, y.2.1.2.2.2.2.1, y.2.1.2.2.2.2.2), (y.1.1, y.1.2.1, y.1.2.2.1, y.1.2.2.2.1, y.1.2.2.2.2.1, y.1.2.2.2.2.2), y.2.2))
                    (br (W.eq x0 192)
                      (F_clevisref10sbelow R ((x1Umin, x1Umax, x1Smin, x1Smax, x1Bits_Value, x1Bits_Mask), x2Umin, x2Umax, x2Smin, x2Smax, x2Bits_Value, x2Bits_Mask) fun y =>
                        k ((y.1.1, y.1.2.1, y.1.2.2.1, y.1.2.2.2.1, y.1.2.2.2.2.1, y.1.2.2.2.2.2), (y.2.1.1, y.2.1.2.1, y.2.1.2.2.1, y.2.1.2.2.2.1, y.2.1.2.2.2.2.1, y.2.1.2.2.2.2.2), y.2.2))
                      (br (W.eq x0 112)
                        (F_clevisref10supto R ((x2Umin, x2Umax, x2Smin, x2Smax, x2Bits_Value, x2Bits_Mask), x1Umin, x1Umax, x1Smin, x1Smax, x1Bits_Value, x1Bits_Mask) fun y =>
                          k ((y.2.1.1, y.2.1.2.1, y.2.1.2.2.1, y.2.1.2.2.2.1, y.2.1.2.2.2.2.1, y.2.1.2.2.2.2.2), (y.1.1, y.1.2.1, y.1.2.2.1, y.1.2.2.2.1, y.1.2.2.2.2.1, y.1.2.2.2.2.2), y.2.2))
                        (br (W.eq x0 208)
                          (F_clevisref10supto R ((x1Umin, x1Umax, x1Smin, x1Smax, x1Bits_Value, x1Bits_Mask), x2Umin, x2Umax, x2Smin, x2Smax, x2Bits_Value, x2Bits_Mask) fun y =>
                            k ((y.1.1, y.1.2.1, y.1.2.2.1, y.1.2.2.2.1, y.1.2.2.2.2.1, y.1.2.2.2.2.2), (y.2.1.1, y.2.1.2.1, y.2.1.2.2.1, y.2.1.2.2.2.1, y.2.1.2.2.2.2.1, y.2.1.2.2.2.2.2), y.2.2))
                          (k ((x1Umin, x1Umax, x1Smin, x1Smax, x1Bits_Value, x1Bits_Mask), (x2Umin, x2Umax, x2Smin, x2Smax, x2Bits_Value, x2Bits_Mask), true)))))))))))
theorem S_clevisref10truth {F_clevisref08Value : FT ps_clevisref08Value qs_clevisref08Value} {F_clevisref08Meet : FT ps_clevisref08Meet qs_clevisref08Meet} {F_clevisref10apart : FT ps_clevisref10apart qs_clevisref10apart} {F_clevisref10below : FT ps_clevisref10below qs_clevisref10below} {F_clevisref10upto : FT ps_clevisref10upto qs_clevisref10upto} {F_clevisref10sbelow : FT ps_clevisref10sbelow qs_clevisref10sbelow} {F_clevisref10supto : FT ps_clevisref10supto qs_clevisref10supto} (h_clevisref08Value : SpecOk Try.prog 28 (mkS ps_clevisref08Value qs_clevisref08Value F_clevisref08Value)) (h_clevisref08Meet : SpecOk Try.prog 51 (mkS ps_clevisref08Meet qs_clevisref08Meet F_clevisref08Meet)) (h_clevisref10apart : SpecOk Try.prog 52 (mkS ps_clevisref10apart qs_clevisref10apart F_clevisref10apart)) (h_clevisref10below : SpecOk Try.prog 53 (mkS ps_clevisref10below qs_clevisref10below F_clevisref10below)) (h_clevisref10upto : SpecOk Try.prog 54 (mkS ps_clevisref10upto qs_clevisref10upto F_clevisref10upto)) (h_clevisref10sbelow : SpecOk Try.prog 55 (mkS ps_clevisref10sbelow qs_clevisref10sbelow F_clevisref10sbelow)) (h_clevisref10supto : SpecOk Try.prog 56 (mkS ps_clevisref10supto qs_clevisref10supto F_clevisref10supto)) : SpecOk Try.prog 31 (mkS ps_clevisref10truth qs_clevisref10truth (N_clevisref10truth F_clevisref08Value F_clevisref08Meet F_clevisref10apart F_clevisref10below F_clevisref10upto F_clevisref10sbelow F_clevisref10supto)) :=
  specOk_mk (fl := 10) (d := 12) (cfgOk_cons (cfgOk_cons (cfgOk_cons (cfgOk_cons (cfgOk_cons (cfgOk_cons (cfgOk_cons base h_clevisref10supto) h_clevisref10sbelow) h_clevisref10upto) h_clevisref10below) h_clevisref10apart) h_clevisref08Meet) h_clevisref08Value) (by rintro R ⟨x0, ⟨x1Umin, x1Umax, x1Smin, x1Smax, ⟨x1Bits_Value, x1Bits_Mask⟩⟩, ⟨x2Umin, x2Umax, x2Smin, x2Smax, ⟨x2Bits_Value, x2Bits_Mask⟩⟩⟩ k; kernel_rfl)
noncomputable def F_clevisref10truth : FT ps_clevisref10truth qs_clevisref10truth := N_clevisref10truth F_clevisref08Value F_clevisref08Meet F_clevisref10apart F_clevisref10below F_clevisref10upto F_clevisref10sbelow F_clevisref10supto 
theorem ok_clevisref10truth : SpecOk Try.prog 31 (mkS ps_clevisref10truth qs_clevisref10truth F_clevisref10truth) := S_clevisref10truth ok_clevisref08Value ok_clevisref08Meet ok_clevisref10apart ok_clevisref10below ok_clevisref10upto ok_clevisref10sbelow ok_clevisref10supto
abbrev ps_clevisref10Refine : List PT := [.one (.int .i64), .agg ((.prod (.int .u64) (.prod (.int .u64) (.prod (.int .i64) (.prod (.int .i64) ((.prod (.int .u64) (.int .u64)))))))), .agg ((.prod (.int .u64) (.prod (.int .u64) (.prod (.int .i64) (.prod (.int .i64) ((.prod (.int .u64) (.int .u64)))))))), .one (.bool), .one (.bool)]
abbrev qs_clevisref10Refine : List PT := [.agg ((.prod (.int .u64) (.prod (.int .u64) (.prod (.int .i64) (.prod (.int .i64) ((.prod (.int .u64) (.int .u64)))))))), .agg ((.prod (.int .u64) (.prod (.int .u64) (.prod (.int .i64) (.prod (.int .i64) ((.prod (.int .u64) (.int .u64)))))))), .one (.bool)]
noncomputable def N_clevisref10Refine (F_clevisref01Cond : FT ps_clevisref01Cond qs_clevisref01Cond) (F_clevisref10Opposite : FT ps_clevisref10Opposite qs_clevisref10Opposite) (F_clevisref08Check : FT ps_clevisref08Check qs_clevisref08Check) (F_clevisref08Value : FT ps_clevisref08Value qs_clevisref08Value) (F_clevisref10signed : FT ps_clevisref10signed qs_clevisref10signed) (F_clevisref10set : FT ps_clevisref10set qs_clevisref10set) (F_clevisref08Tidy : FT ps_clevisref08Tidy qs_clevisref08Tidy) (F_clevisref10truth : FT ps_clevisref10truth qs_clevisref10truth)  : FT ps_clevisref10Refine qs_clevisref10Refine := fun R x k => match x with
  | (x0, (x1Umin, x1Umax, x1Smin, x1Smax, (x1Bits_Value, x1Bits_Mask)), (x2Umin, x2Umax, x2Smin, x2Smax, (x2Bits_Value, x2Bits_Mask)), x3, x4) => 
      F_clevisref01Cond R (x0, 0, 0, true) fun y =>
        br (W.not (W.not y.2))
          (F_clevisref08Check R (x1Umin, x1Umax, x1Smin, x1Smax, x1Bits_Value, x1Bits_Mask) fun y =>
            br (W.not (W.pick false true (W.not y)))
              (F_clevisref08Check R (x2Umin, x2Umax, x2Smin, x2Smax, x2Bits_Value, x2Bits_Mask) fun y =>
                br (W.pick false true (W.not y)) (k ((x1Umin, x1Umax, x1Smin, x1Smax, x1Bits_Value, x1Bits_Mask), (x2Umin, x2Umax, x2Smin, x2Smax, x2Bits_Value, x2Bits_Mask), true))
                  (F_clevisref08Value R (x1Umin, x1Umax, x1Smin, x1Smax, x1Bits_Value, x1Bits_Mask) fun y =>
                    F_clevisref08Value R (x2Umin, x2Umax, x2Smin, x2Smax, x2Bits_Value, x2Bits_Mask) fun y_1 =>
                      br (W.pick y.2 y_1.2 false)
                        (F_clevisref01Cond R (x0, y.1, y_1.1, x3) fun y =>
                          br (W.not (W.eqB y.1 x4)) (k ((0, 0, 0, 0, 0, 0), (0, 0, 0, 0, 0, 0), false))
                            (k ((x1Umin, x1Umax, x1Smin, x1Smax, x1Bits_Value, x1Bits_Mask), (x2Umin, x2Umax, x2Smin, x2Smax, x2Bits_Value, x2Bits_Mask), true)))
                        (F_clevisref10signed R x0 fun y =>
                          br y
                            (br (W.pick (W.not x3) (W.pick (W.gt x1Umax 2147483647) true (W.gt x2Umax 2147483647)) false)
                              (k ((x1Umin, x1Umax, x1Smin, x1Smax, x1Bits_Value, x1Bits_Mask), (x2Umin, x2Umax, x2Smin, x2Smax, x2Bits_Value, x2Bits_Mask), true))
                              (br (W.eq x0 64)
                                (F_clevisref10set R ((x1Umin, x1Umax, x1Smin, x1Smax, x1Bits_Value, x1Bits_Mask), (x2Umin, x2Umax, x2Smin, x2Smax, x2Bits_Value, x2Bits_Mask), x4) fun y =>
                                  br (W.not y.2) (k ((0, 0, 0, 0, 0, 0), (0, 0, 0, 0, 0, 0), false))
                                    (F_clevisref08Tidy R (y.1.1, y.1.2.1, y.1.2.2.1, y.1.2.2.2.1, y.1.2.2.2.2.1, y.1.2.2.2.2.2) fun y =>
                                      F_clevisref08Tidy R (x2Umin, x2Umax, x2Smin, x2Smax, x2Bits_Value, x2Bits_Mask) fun y_2 =>
                                        br (W.pick (W.not y.2) true (W.not y_2.2)) (k ((0, 0, 0, 0, 0, 0), (0, 0, 0, 0, 0, 0), false))
                                          (k
                                            ((y.1.1, y.1.2.1, y.1.2.2.1, y.1.2.2.2.1, y.1.2.2.2.2.1, y.1.2.2.2.2.2), (y_2.1.1, y_2.1.2.1, y_2.1.2.2.1, y_2.1.2.2.2.1, y_2.1.2.2.2.2.1, y_2.1.2.2.2.2.2),
                                              true))))
                                (br (W.not x4)
                                  (F_clevisref10Opposite R x0 fun y =>
                                    F_clevisref10truth R (y, (x1Umin, x1Umax, x1Smin, x1Smax, x1Bits_Value, x1Bits_Mask), x2Umin, x2Umax, x2Smin, x2Smax, x2Bits_Value, x2Bits_Mask) fun y =>
                                      br (W.not y.2.2) (k ((0, 0, 0, 0, 0, 0), (0, 0, 0, 0, 0, 0), false))
                                        (F_clevisref08Tidy R (y.1.1, y.1.2.1, y.1.2.2.1, y.1.2.2.2.1, y.1.2.2.2.2.1, y.1.2.2.2.2.2) fun y_2 =>
                                          F_clevisref08Tidy R (y.2.1.1, y.2.1.2.1, y.2.1.2.2.1, y.2.1.2.2.2.1, y.2.1.2.2.2.2.1, y.2.1.2.2.2.2.2) fun y =>
                                            br (W.pick (W.not y_2.2) true (W.not y.2)) (k ((0, 0, 0, 0, 0, 0), (0, 0, 0, 0, 0, 0), false))
                                              (k
                                                ((y_2.1.1, y_2.1.2.1, y_2.1.2.2.1, y_2.1.2.2.2.1, y_2.1.2.2.2.2.1, y_2.1.2.2.2.2.2), (y.1.1, y.1.2.1, y.1.2.2.1, y.1.2.2.2.1, y.1.2.2.2.2.1, y.1.2.2.2.2.2),
                                                  true))))
                                  (F_clevisref10truth R (x0, (x1Umin, x1Umax, x1Smin, x1Smax, x1Bits_Value, x1Bits_Mask), x2Umin, x2Umax, x2Smin, x2Smax, x2Bits_Value, x2Bits_Mask) fun y =>
                                    br (W.not y.2.2) (k ((0, 0, 0, 0, 0, 0), (0, 0, 0, 0, 0, 0), false))
                                      (F_clevisref08Tidy R (y.1.1, y.1.2.1, y.1.2.2.1, y.1.2.2.2.1, y.1.2.2.2.2.1, y.1.2.2.2.2.2) fun y_2 =>
                                        F_clevisref08Tidy R (y.2.1.1, y.2.1.2.1, y.2.1.2.2.1, y.2.1.2.2.2.1, y.2.1.2.2.2.2.1, y.2.1.2.2.2.2.2) fun y =>
                                          br (W.pick (W.not y_2.2) true (W.not y.2)) (k ((0, 0, 0, 0, 0, 0), (0, 0, 0, 0, 0, 0), false))
                                            (k
                                              ((y_2.1.1, y_2.1.2.1, y_2.1.2.2.1, y_2.1.2.2.2.1, y_2.1.2.2.2.2.1, y_2.1.2.2.2.2.2), (y.1.1, y.1.2.1, y.1.2.2.1, y.1.2.2.2.1, y.1.2.2.2.2.1, y.1.2.2.2.2.2),
                                                true)))))))
                            (br (W.pick (W.not x3) (W.pick (W.gt x1Umax 4294967295) true (W.gt x2Umax 4294967295)) false)
                              (k ((x1Umin, x1Umax, x1Smin, x1Smax, x1Bits_Value, x1Bits_Mask), (x2Umin, x2Umax, x2Smin, x2Smax, x2Bits_Value, x2Bits_Mask), true))
                              (br (W.eq x0 64)
                                (F_clevisref10set R ((x1Umin, x1Umax, x1Smin, x1Smax, x1Bits_Value, x1Bits_Mask), (x2Umin, x2Umax, x2Smin, x2Smax, x2Bits_Value, x2Bits_Mask), x4) fun y =>
                                  br (W.not y.2) (k ((0, 0, 0, 0, 0, 0), (0, 0, 0, 0, 0, 0), false))
                                    (F_clevisref08Tidy R (y.1.1, y.1.2.1, y.1.2.2.1, y.1.2.2.2.1, y.1.2.2.2.2.1, y.1.2.2.2.2.2) fun y =>
                                      F_clevisref08Tidy R (x2Umin, x2Umax, x2Smin, x2Smax, x2Bits_Value, x2Bits_Mask) fun y_2 =>
                                        br (W.pick (W.not y.2) true (W.not y_2.2)) (k ((0, 0, 0, 0, 0, 0), (0, 0, 0, 0, 0, 0), false))
                                          (k
                                            ((y.1.1, y.1.2.1, y.1.2.2.1, y.1.2.2.2.1, y.1.2.2.2.2.1, y.1.2.2.2.2.2), (y_2.1.1, y_2.1.2.1, y_2.1.2.2.1, y_2.1.2.2.2.1, y_2.1.2.2.2.2.1, y_2.1.2.2.2.2.2),
                                              true))))
                                (br (W.not x4)
                                  (F_clevisref10Opposite R x0 fun y =>
                                    F_clevisref10truth R (y, (x1Umin, x1Umax, x1Smin, x1Smax, x1Bits_Value, x1Bits_Mask), x2Umin, x2Umax, x2Smin, x2Smax, x2Bits_Value, x2Bits_Mask) fun y =>
                                      br (W.not y.2.2) (k ((0, 0, 0, 0, 0, 0), (0, 0, 0, 0, 0, 0), false))
                                        (F_clevisref08Tidy R (y.1.1, y.1.2.1, y.1.2.2.1, y.1.2.2.2.1, y.1.2.2.2.2.1, y.1.2.2.2.2.2) fun y_2 =>
                                          F_clevisref08Tidy R (y.2.1.1, y.2.1.2.1, y.2.1.2.2.1, y.2.1.2.2.2.1, y.2.1.2.2.2.2.1, y.2.1.2.2.2.2.2) fun y =>
                                            br (W.pick (W.not y_2.2) true (W.not y.2)) (k ((0, 0, 0, 0, 0, 0), (0, 0, 0, 0, 0, 0), false))
                                              (k
                                                ((y_2.1.1, y_2.1.2.1, y_2.1.2.2.1, y_2.1.2.2.2.1, y_2.1.2.2.2.2.1, y_2.1.2.2.2.2.2), (y.1.1, y.1.2.1, y.1.2.2.1, y.1.2.2.2.1, y.1.2.2.2.2.1, y.1.2.2.2.2.2),
                                                  true))))
                                  (F_clevisref10truth R (x0, (x1Umin, x1Umax, x1Smin, x1Smax, x1Bits_Value, x1Bits_Mask), x2Umin, x2Umax, x2Smin, x2Smax, x2Bits_Value, x2Bits_Mask) fun y =>
                                    br (W.not y.2.2) (k ((0, 0, 0, 0, 0, 0), (0, 0, 0, 0, 0, 0), false))
                                      (F_clevisref08Tidy R (y.1.1, y.1.2.1, y.1.2.2.1, y.1.2.2.2.1, y.1.2.2.2.2.1, y.1.2.2.2.2.2) fun y_2 =>
                                        F_clevisref08Tidy R (y.2.1.1, y.2.1.2.1, y.2.1.2.2.1, y.2.1.2.2.2.1, y.2.1.2.2.2.2.1, y.2.1.2.2.2.2.2) fun y =>
                                          br (W.pick (W.not y_2.2) true (W.not y.2)) (k ((0, 0, 0, 0, 0, 0), (0, 0, 0, 0, 0, 0), false))
                                            (k
                                              ((y_2.1.1, y_2.1.2.1, y_2.1.2.2.1, y_2.1.2.2.2.1, y_2.1.2.2.2.2.1, y_2.1.2.2.2.2.2), (y.1.1, y.1.2.1, y.1.2.2.1, y.1.2.2.2.1, y.1.2.2.2.2.1, y.1.2.2.2.2.2),
                                                true))))))))))
              (k ((x1Umin, x1Umax, x1Smin, x1Smax, x1Bits_Value, x1Bits_Mask), (x2Umin, x2Umax, x2Smin, x2Smax, x2Bits_Value, x2Bits_Mask), true)))
          (k ((x1Umin, x1Umax, x1Smin, x1Smax, x1Bits_Value, x1Bits_Mask), (x2Umin, x2Umax, x2Smin, x2Smax, x2Bits_Value, x2Bits_Mask), true))
theorem S_clevisref10Refine {F_clevisref01Cond : FT ps_clevisref01Cond qs_clevisref01Cond} {F_clevisref10Opposite : FT ps_clevisref10Opposite qs_clevisref10Opposite} {F_clevisref08Check : FT ps_clevisref08Check qs_clevisref08Check} {F_clevisref08Value : FT ps_clevisref08Value qs_clevisref08Value} {F_clevisref10signed : FT ps_clevisref10signed qs_clevisref10signed} {F_clevisref10set : FT ps_clevisref10set qs_clevisref10set} {F_clevisref08Tidy : FT ps_clevisref08Tidy qs_clevisref08Tidy} {F_clevisref10truth : FT ps_clevisref10truth qs_clevisref10truth} (h_clevisref01Cond : SpecOk Try.prog 9 (mkS ps_clevisref01Cond qs_clevisref01Cond F_clevisref01Cond)) (h_clevisref10Opposite : SpecOk Try.prog 15 (mkS ps_clevisref10Opposite qs_clevisref10Opposite F_clevisref10Opposite)) (h_clevisref08Check : SpecOk Try.prog 16 (mkS ps_clevisref08Check qs_clevisref08Check F_clevisref08Check)) (h_clevisref08Value : SpecOk Try.prog 28 (mkS ps_clevisref08Value qs_clevisref08Value F_clevisref08Value)) (h_clevisref10signed : SpecOk Try.prog 29 (mkS ps_clevisref10signed qs_clevisref10signed F_clevisref10signed)) (h_clevisref10set : SpecOk Try.prog 30 (mkS ps_clevisref10set qs_clevisref10set F_clevisref10set)) (h_clevisref08Tidy : SpecOk Try.prog 32 (mkS ps_clevisref08Tidy qs_clevisref08Tidy F_clevisref08Tidy)) (h_clevisref10truth : SpecOk Try.prog 31 (mkS ps_clevisref10truth qs_clevisref10truth F_clevisref10truth)) : SpecOk Try.prog 13 (mkS ps_clevisref10Refine qs_clevisref10Refine (N_clevisref10Refine F_clevisref01Cond F_clevisref10Opposite F_clevisref08Check F_clevisref08Value F_clevisref10signed F_clevisref10set F_clevisref08Tidy F_clevisref10truth)) :=
  specOk_mk (fl := 10) (d := 12) (cfgOk_cons (cfgOk_cons (cfgOk_cons (cfgOk_cons (cfgOk_cons (cfgOk_cons (cfgOk_cons (cfgOk_cons base h_clevisref10truth) h_clevisref08Tidy) h_clevisref10set) h_clevisref10signed) h_clevisref08Value) h_clevisref08Check) h_clevisref10Opposite) h_clevisref01Cond) (by rintro R ⟨x0, ⟨x1Umin, x1Umax, x1Smin, x1Smax, ⟨x1Bits_Value, x1Bits_Mask⟩⟩, ⟨x2Umin, x2Umax, x2Smin, x2Smax, ⟨x2Bits_Value, x2Bits_Mask⟩⟩, x3, x4⟩ k; kernel_rfl)
noncomputable def F_clevisref10Refine : FT ps_clevisref10Refine qs_clevisref10Refine := N_clevisref10Refine F_clevisref01Cond F_clevisref10Opposite F_clevisref08Check F_clevisref08Value F_clevisref10signed F_clevisref10set F_clevisref08Tidy F_clevisref10truth 
theorem ok_clevisref10Refine : SpecOk Try.prog 13 (mkS ps_clevisref10Refine qs_clevisref10Refine F_clevisref10Refine) := S_clevisref10Refine ok_clevisref01Cond ok_clevisref10Opposite ok_clevisref08Check ok_clevisref08Value ok_clevisref10signed ok_clevisref10set ok_clevisref08Tidy ok_clevisref10truth
abbrev ps_clevislaw10BranchRefines : List PT := [.one (.int .i64), .agg ((.prod (.int .u64) (.prod (.int .u64) (.prod (.int .i64) (.prod (.int .i64) ((.prod (.int .u64) (.int .u64)))))))), .agg ((.prod (.int .u64) (.prod (.int .u64) (.prod (.int .i64) (.prod (.int .i64) ((.prod (.int .u64) (.int .u64)))))))), .one (.bool), .one (.bool)]
noncomputable def L_clevislaw10BranchRefines (F_branch_Opposite : FT ps_branch_Opposite qs_branch_Opposite) (F_branch_Refine : FT ps_branch_Refine qs_branch_Refine) (F_clevislaw10heads : FT ps_clevislaw10heads qs_clevislaw10heads) (F_clevisref10Opposite : FT ps_clevisref10Opposite qs_clevisref10Opposite) (F_clevisref10Refine : FT ps_clevisref10Refine qs_clevisref10Refine)  (x : PTs.D ps_clevislaw10BranchRefines) : Option Unit := match x with
  | (x0, (x1Umin, x1Umax, x1Smin, x1Smax, (x1Bits_Value, x1Bits_Mask)), (x2Umin, x2Umax, x2Smin, x2Smax, (x2Bits_Value, x2Bits_Mask)), x3, x4) => 
      F_branch_Refine Unit (x0, (x1Umin, x1Umax, x1Smin, x1Smax, x1Bits_Value, x1Bits_Mask), (x2Umin, x2Umax, x2Smin, x2Smax, x2Bits_Value, x2Bits_Mask), x3, x4) fun y =>
        F_clevisref10Refine Unit (x0, (x1Umin, x1Umax, x1Smin, x1Smax, x1Bits_Value, x1Bits_Mask), (x2Umin, x2Umax, x2Smin, x2Smax, x2Bits_Value, x2Bits_Mask), x3, x4) fun y_1 =>
          br
            (W.pick
              (W.pick
                (W.and2 (W.eq y.1.1 y_1.1.1)
                  (W.and2 (W.eq y.1.2.1 y_1.1.2.1)
                    (W.and2 (W.eq y.1.2.2.1 y_1.1.2.2.1) (W.and2 (W.eq y.1.2.2.2.1 y_1.1.2.2.2.1) (W.and2 (W.eq y.1.2.2.2.2.1 y_1.1.2.2.2.2.1) (W.and2 (W.eq y.1.2.2.2.2.2 y_1.1.2.2.2.2.2) true))))))
                (W.and2 (W.eq y.2.1.1 y_1.2.1.1)
                  (W.and2 (W.eq y.2.1.2.1 y_1.2.1.2.1)
                    (W.and2 (W.eq y.2.1.2.2.1 y_1.2.1.2.2.1)
                      (W.and2 (W.eq y.2.1.2.2.2.1 y_1.2.1.2.2.2.1) (W.and2 (W.eq y.2.1.2.2.2.2.1 y_1.2.1.2.2.2.2.1) (W.and2 (W.eq y.2.1.2.2.2.2.2 y_1.2.1.2.2.2.2.2) true))))))
                false)
              (W.eqB y.2.2 y_1.2.2) false)
            (F_branch_Opposite Unit x0 fun y =>
              F_clevisref10Opposite Unit x0 fun y_2 => br (W.pick true (W.eq y y_2) false) (F_clevislaw10heads Unit () fun y => br (W.pick true y false) (some ()) none) none)
            none
theorem E_clevislaw10BranchRefines {F_branch_Opposite : FT ps_branch_Opposite qs_branch_Opposite} {F_branch_Refine : FT ps_branch_Refine qs_branch_Refine} {F_clevislaw10heads : FT ps_clevislaw10heads qs_clevislaw10heads} {F_clevisref10Opposite : FT ps_clevisref10Opposite qs_clevisref10Opposite} {F_clevisref10Refine : FT ps_clevisref10Refine qs_clevisref10Refine} (h_branch_Opposite : SpecOk Try.prog 14 (mkS ps_branch_Opposite qs_branch_Opposite F_branch_Opposite)) (h_branch_Refine : SpecOk Try.prog 10 (mkS ps_branch_Refine qs_branch_Refine F_branch_Refine)) (h_clevislaw10heads : SpecOk Try.prog 12 (mkS ps_clevislaw10heads qs_clevislaw10heads F_clevislaw10heads)) (h_clevisref10Opposite : SpecOk Try.prog 15 (mkS ps_clevisref10Opposite qs_clevisref10Opposite F_clevisref10Opposite)) (h_clevisref10Refine : SpecOk Try.prog 13 (mkS ps_clevisref10Refine qs_clevisref10Refine F_clevisref10Refine)) (x : PTs.D ps_clevislaw10BranchRefines) (hL : L_clevislaw10BranchRefines F_branch_Opposite F_branch_Refine F_clevislaw10heads F_clevisref10Opposite F_clevisref10Refine x = some ()) :
    ∃ (C : Cfg) (fl d : Nat), CfgOk C ∧ C.P = Try.prog ∧ call C fl d 4 (encL false ps_clevislaw10BranchRefines x) [] getL = some () :=
  ⟨_, 10, 12, (cfgOk_cons (cfgOk_cons (cfgOk_cons (cfgOk_cons (cfgOk_cons base h_clevisref10Refine) h_clevisref10Opposite) h_clevislaw10heads) h_branch_Refine) h_branch_Opposite), rfl, (show _ = L_clevislaw10BranchRefines F_branch_Opposite F_branch_Refine F_clevislaw10heads F_clevisref10Opposite F_clevisref10Refine x by obtain ⟨x0, ⟨x1Umin, x1Umax, x1Smin, x1Smax, ⟨x1Bits_Value, x1Bits_Mask⟩⟩, ⟨x2Umin, x2Umax, x2Smin, x2Smax, ⟨x2Bits_Value, x2Bits_Mask⟩⟩, x3, x4⟩ := x; kernel_rfl).trans hL⟩
abbrev ps_clevisref07In : List PT := [.agg ((.prod (.int .u64) (.int .u64))), .one (.int .u64)]
abbrev qs_clevisref07In : List PT := [.one (.bool)]
noncomputable def N_clevisref07In   : FT ps_clevisref07In qs_clevisref07In := fun R x k => match x with
  | ((x0Value, x0Mask), x1) => 
      k (W.eq (W.wrap IntKind.u64 (W.andNot IntKind.u64 x1 x0Mask)) x0Value)
theorem S_clevisref07In   : SpecOk Try.prog 34 (mkS ps_clevisref07In qs_clevisref07In (N_clevisref07In )) :=
  specOk_mk (fl := 10) (d := 12) base (by rintro R ⟨⟨x0Value, x0Mask⟩, x1⟩ k; kernel_rfl)
noncomputable def F_clevisref07In : FT ps_clevisref07In qs_clevisref07In := N_clevisref07In  
theorem ok_clevisref07In : SpecOk Try.prog 34 (mkS ps_clevisref07In qs_clevisref07In F_clevisref07In) := S_clevisref07In 
abbrev ps_clevisref08In : List PT := [.agg ((.prod (.int .u64) (.prod (.int .u64) (.prod (.int .i64) (.prod (.int .i64) ((.prod (.int .u64) (.int .u64)))))))), .one (.int .u64)]
abbrev qs_clevisref08In : List PT := [.one (.bool)]
noncomputable def N_clevisref08In (F_clevisref07In : FT ps_clevisref07In qs_clevisref07In)  : FT ps_clevisref08In qs_clevisref08In := fun R x k => match x with
  | ((x0Umin, x0Umax, x0Smin, x0Smax, (x0Bits_Value, x0Bits_Mask)), x1) => 
      br (W.pick (W.pick (W.pick (W.ge x1 x0Umin) (W.le x1 x0Umax) false) (W.ge (W.wrap IntKind.i64 x1) x0Smin) false) (W.le (W.wrap IntKind.i64 x1) x0Smax) false)
        (F_clevisref07In R ((x0Bits_Value, x0Bits_Mask), x1) fun y => k (W.pick true y false)) (k false)
theorem S_clevisref08In {F_clevisref07In : FT ps_clevisref07In qs_clevisref07In} (h_clevisref07In : SpecOk Try.prog 34 (mkS ps_clevisref07In qs_clevisref07In F_clevisref07In)) : SpecOk Try.prog 17 (mkS ps_clevisref08In qs_clevisref08In (N_clevisref08In F_clevisref07In)) :=
  specOk_mk (fl := 10) (d := 12) (cfgOk_cons base h_clevisref07In) (by rintro R ⟨⟨x0Umin, x0Umax, x0Smin, x0Smax, ⟨x0Bits_Value, x0Bits_Mask⟩⟩, x1⟩ k; kernel_rfl)
noncomputable def F_clevisref08In : FT ps_clevisref08In qs_clevisref08In := N_clevisref08In F_clevisref07In 
theorem ok_clevisref08In : SpecOk Try.prog 17 (mkS ps_clevisref08In qs_clevisref08In F_clevisref08In) := S_clevisref08In ok_clevisref07In
abbrev ps_clevislaw10BranchSound : List PT := [.one (.int .i64), .agg ((.prod (.int .u64) (.prod (.int .u64) (.prod (.int .i64) (.prod (.int .i64) ((.prod (.int .u64) (.int .u64)))))))), .agg ((.prod (.int .u64) (.prod (.int .u64) (.prod (.int .i64) (.prod (.int .i64) ((.prod (.int .u64) (.int .u64)))))))), .one (.int .u64), .one (.int .u64), .one (.bool)]
noncomputable def L_clevislaw10BranchSound (F_clevisref01Cond : FT ps_clevisref01Cond qs_clevisref01Cond) (F_branch_Refine : FT ps_branch_Refine qs_branch_Refine) (F_clevislaw10heads : FT ps_clevislaw10heads qs_clevislaw10heads) (F_clevisref08Check : FT ps_clevisref08Check qs_clevisref08Check) (F_clevisref08In : FT ps_clevisref08In qs_clevisref08In)  (x : PTs.D ps_clevislaw10BranchSound) : Option Unit := match x with
  | (x0, (x1Umin, x1Umax, x1Smin, x1Smax, (x1Bits_Value, x1Bits_Mask)), (x2Umin, x2Umax, x2Smin, x2Smax, (x2Bits_Value, x2Bits_Mask)), x3, x4, x5) => 
      F_clevisref01Cond Unit (x0, x3, x4, x5) fun y =>
        br (W.not (W.not y.2))
          (F_clevisref08Check Unit (x1Umin, x1Umax, x1Smin, x1Smax, x1Bits_Value, x1Bits_Mask) fun y_1 =>
            br (W.not (W.pick false true (W.not y_1)))
              (F_clevisref08Check Unit (x2Umin, x2Umax, x2Smin, x2Smax, x2Bits_Value, x2Bits_Mask) fun y_2 =>
                br (W.not (W.pick false true (W.not y_2)))
                  (F_clevisref08In Unit ((x1Umin, x1Umax, x1Smin, x1Smax, x1Bits_Value, x1Bits_Mask), x3) fun y_3 =>
                    br (W.not (W.pick false true (W.not y_3)))
                      (F_clevisref08In Unit ((x2Umin, x2Umax, x2Smin, x2Smax, x2Bits_Value, x2Bits_Mask), x4) fun y_4 =>
                        br (W.pick false true (W.not y_4)) (F_clevislaw10heads Unit () fun y => br y (some ()) none)
                          (F_branch_Refine Unit (x0, (x1Umin, x1Umax, x1Smin, x1Smax, x1Bits_Value, x1Bits_Mask), (x2Umin, x2Umax, x2Smin, x2Smax, x2Bits_Value, x2Bits_Mask), x5, y.1) fun y =>
                            br y.2.2
                              (F_clevisref08In Unit ((y.1.1, y.1.2.1, y.1.2.2.1, y.1.2.2.2.1, y.1.2.2.2.2.1, y.1.2.2.2.2.2), x3) fun y_5 =>
                                br (W.pick true y_5 false)
                                  (F_clevisref08In Unit ((y.2.1.1, y.2.1.2.1, y.2.1.2.2.1, y.2.1.2.2.2.1, y.2.1.2.2.2.2.1, y.2.1.2.2.2.2.2), x4) fun y_6 =>
                                    br (W.pick true y_6 false)
                                      (F_clevisref08Check Unit (y.1.1, y.1.2.1, y.1.2.2.1, y.1.2.2.2.1, y.1.2.2.2.2.1, y.1.2.2.2.2.2) fun y_7 =>
                                        br (W.pick true y_7 false)
                                          (F_clevisref08Check Unit (y.2.1.1, y.2.1.2.1, y.2.1.2.2.1, y.2.1.2.2.2.1, y.2.1.2.2.2.2.1, y.2.1.2.2.2.2.2) fun y =>
                                            br (W.pick true y false) (F_clevislaw10heads Unit () fun y => br (W.pick true y false) (some ()) none) none)
                                          none)
                                      none)
                                  none)
                              none))
                      (F_clevislaw10heads Unit () fun y => br y (some ()) none))
                  (F_clevislaw10heads Unit () fun y => br y (some ()) none))
              (F_clevislaw10heads Unit () fun y => br y (some ()) none))
          (F_clevislaw10heads Unit () fun y => br y (some ()) none)
theorem E_clevislaw10BranchSound {F_clevisref01Cond : FT ps_clevisref01Cond qs_clevisref01Cond} {F_branch_Refine : FT ps_branch_Refine qs_branch_Refine} {F_clevislaw10heads : FT ps_clevislaw10heads qs_clevislaw10heads} {F_clevisref08Check : FT ps_clevisref08Check qs_clevisref08Check} {F_clevisref08In : FT ps_clevisref08In qs_clevisref08In} (h_clevisref01Cond : SpecOk Try.prog 9 (mkS ps_clevisref01Cond qs_clevisref01Cond F_clevisref01Cond)) (h_branch_Refine : SpecOk Try.prog 10 (mkS ps_branch_Refine qs_branch_Refine F_branch_Refine)) (h_clevislaw10heads : SpecOk Try.prog 12 (mkS ps_clevislaw10heads qs_clevislaw10heads F_clevislaw10heads)) (h_clevisref08Check : SpecOk Try.prog 16 (mkS ps_clevisref08Check qs_clevisref08Check F_clevisref08Check)) (h_clevisref08In : SpecOk Try.prog 17 (mkS ps_clevisref08In qs_clevisref08In F_clevisref08In)) (x : PTs.D ps_clevislaw10BranchSound) (hL : L_clevislaw10BranchSound F_clevisref01Cond F_branch_Refine F_clevislaw10heads F_clevisref08Check F_clevisref08In x = some ()) :
    ∃ (C : Cfg) (fl d : Nat), CfgOk C ∧ C.P = Try.prog ∧ call C fl d 5 (encL false ps_clevislaw10BranchSound x) [] getL = some () :=
  ⟨_, 10, 12, (cfgOk_cons (cfgOk_cons (cfgOk_cons (cfgOk_cons (cfgOk_cons base h_clevisref08In) h_clevisref08Check) h_clevislaw10heads) h_branch_Refine) h_clevisref01Cond), rfl, (show _ = L_clevislaw10BranchSound F_clevisref01Cond F_branch_Refine F_clevislaw10heads F_clevisref08Check F_clevisref08In x by obtain ⟨x0, ⟨x1Umin, x1Umax, x1Smin, x1Smax, ⟨x1Bits_Value, x1Bits_Mask⟩⟩, ⟨x2Umin, x2Umax, x2Smin, x2Smax, ⟨x2Bits_Value, x2Bits_Mask⟩⟩, x3, x4, x5⟩ := x; kernel_rfl).trans hL⟩
abbrev ps_clevislaw10BranchNarrow : List PT := [.one (.int .i64), .agg ((.prod (.int .u64) (.prod (.int .u64) (.prod (.int .i64) (.prod (.int .i64) ((.prod (.int .u64) (.int .u64)))))))), .agg ((.prod (.int .u64) (.prod (.int .u64) (.prod (.int .i64) (.prod (.int .i64) ((.prod (.int .u64) (.int .u64)))))))), .one (.int .u64), .one (.bool), .one (.bool)]
noncomputable def L_clevislaw10BranchNarrow (F_branch_Refine : FT ps_branch_Refine qs_branch_Refine) (F_clevislaw10heads : FT ps_clevislaw10heads qs_clevislaw10heads) (F_clevisref08Check : FT ps_clevisref08Check qs_clevisref08Check) (F_clevisref08In : FT ps_clevisref08In qs_clevisref08In)  (x : PTs.D ps_clevislaw10BranchNarrow) : Option Unit := match x with
  | (x0, (x1Umin, x1Umax, x1Smin, x1Smax, (x1Bits_Value, x1Bits_Mask)), (x2Umin, x2Umax, x2Smin, x2Smax, (x2Bits_Value, x2Bits_Mask)), x3, x4, x5) => 
      F_clevisref08Check Unit (x1Umin, x1Umax, x1Smin, x1Smax, x1Bits_Value, x1Bits_Mask) fun y =>
        br (W.not (W.not y))
          (F_clevisref08Check Unit (x2Umin, x2Umax, x2Smin, x2Smax, x2Bits_Value, x2Bits_Mask) fun y =>
            br (W.pick false true (W.not y)) (F_clevislaw10heads Unit () fun y => br y (some ()) none)
              (F_branch_Refine Unit (x0, (x1Umin, x1Umax, x1Smin, x1Smax, x1Bits_Value, x1Bits_Mask), (x2Umin, x2Umax, x2Smin, x2Smax, x2Bits_Value, x2Bits_Mask), x4, x5) fun y =>
                br (W.not y.2.2)
                  (br
                    (W.pick (W.and2 (W.eq y.1.1 0) (W.and2 (W.eq y.1.2.1 0) (W.and2 (W.eq y.1.2.2.1 0) (W.and2 (W.eq y.1.2.2.2.1 0) (W.and2 (W.eq y.1.2.2.2.2.1 0) (W.and2 (W.eq y.1.2.2.2.2.2 0) true))))))
                      (W.and2 (W.eq y.2.1.1 0)
                        (W.and2 (W.eq y.2.1.2.1 0) (W.and2 (W.eq y.2.1.2.2.1 0) (W.and2 (W.eq y.2.1.2.2.2.1 0) (W.and2 (W.eq y.2.1.2.2.2.2.1 0) (W.and2 (W.eq y.2.1.2.2.2.2.2 0) true))))))
                      false)
                    (F_clevislaw10heads Unit () fun y => br (W.pick true y false) (some ()) none) none)
                  (F_clevisref08In Unit ((y.1.1, y.1.2.1, y.1.2.2.1, y.1.2.2.2.1, y.1.2.2.2.2.1, y.1.2.2.2.2.2), x3) fun y_1 =>
                    br (W.not (W.not y_1))
                      (F_clevisref08In Unit ((x1Umin, x1Umax, x1Smin, x1Smax, x1Bits_Value, x1Bits_Mask), x3) fun y_2 =>
                        br (W.pick false true y_2)
                          (F_clevisref08In Unit ((y.2.1.1, y.2.1.2.1, y.2.1.2.2.1, y.2.1.2.2.2.1, y.2.1.2.2.2.2.1, y.2.1.2.2.2.2.2), x3) fun y =>
                            br (W.and2 true (W.not (W.not y)))
                              (F_clevisref08In Unit ((x2Umin, x2Umax, x2Smin, x2Smax, x2Bits_Value, x2Bits_Mask), x3) fun y_3 =>
                                br (W.pick true (W.pick (W.not y) true y_3) false) (F_clevislaw10heads Unit () fun y => br (W.pick true y false) (some ()) none) none)
                              (br (W.not y) (F_clevislaw10heads Unit () fun y => br (W.pick true y false) (some ()) none) none))
                          none)
                      (F_clevisref08In Unit ((y.2.1.1, y.2.1.2.1, y.2.1.2.2.1, y.2.1.2.2.2.1, y.2.1.2.2.2.2.1, y.2.1.2.2.2.2.2), x3) fun y =>
                        br (W.and2 true (W.not (W.not y)))
                          (F_clevisref08In Unit ((x2Umin, x2Umax, x2Smin, x2Smax, x2Bits_Value, x2Bits_Mask), x3) fun y_2 =>
                            br (W.pick true (W.pick (W.not y) true y_2) false) (F_clevislaw10heads Unit () fun y => br (W.pick true y false) (some ()) none) none)
                          (br (W.not y) (F_clevislaw10heads Unit () fun y => br (W.pick true y false) (some ()) none) none)))))
          (F_clevislaw10heads Unit () fun y => br y (some ()) none)
theorem E_clevislaw10BranchNarrow {F_branch_Refine : FT ps_branch_Refine qs_branch_Refine} {F_clevislaw10heads : FT ps_clevislaw10heads qs_clevislaw10heads} {F_clevisref08Check : FT ps_clevisref08Check qs_clevisref08Check} {F_clevisref08In : FT ps_clevisref08In qs_clevisref08In} (h_branch_Refine : SpecOk Try.prog 10 (mkS ps_branch_Refine qs_branch_Refine F_branch_Refine)) (h_clevislaw10heads : SpecOk Try.prog 12 (mkS ps_clevislaw10heads qs_clevislaw10heads F_clevislaw10heads)) (h_clevisref08Check : SpecOk Try.prog 16 (mkS ps_clevisref08Check qs_clevisref08Check F_clevisref08Check)) (h_clevisref08In : SpecOk Try.prog 17 (mkS ps_clevisref08In qs_clevisref08In F_clevisref08In)) (x : PTs.D ps_clevislaw10BranchNarrow) (hL : L_clevislaw10BranchNarrow F_branch_Refine F_clevislaw10heads F_clevisref08Check F_clevisref08In x = some ()) :
    ∃ (C : Cfg) (fl d : Nat), CfgOk C ∧ C.P = Try.prog ∧ call C fl d 6 (encL false ps_clevislaw10BranchNarrow x) [] getL = some () :=
  ⟨_, 10, 12, (cfgOk_cons (cfgOk_cons (cfgOk_cons (cfgOk_cons base h_clevisref08In) h_clevisref08Check) h_clevislaw10heads) h_branch_Refine), rfl, (show _ = L_clevislaw10BranchNarrow F_branch_Refine F_clevislaw10heads F_clevisref08Check F_clevisref08In x by obtain ⟨x0, ⟨x1Umin, x1Umax, x1Smin, x1Smax, ⟨x1Bits_Value, x1Bits_Mask⟩⟩, ⟨x2Umin, x2Umax, x2Smin, x2Smax, ⟨x2Bits_Value, x2Bits_Mask⟩⟩, x3, x4, x5⟩ := x; kernel_rfl).trans hL⟩
abbrev ps_clevislaw10BranchOpposite : List PT := [.one (.int .i64), .agg ((.prod (.int .u64) (.prod (.int .u64) (.prod (.int .i64) (.prod (.int .i64) ((.prod (.int .u64) (.int .u64)))))))), .agg ((.prod (.int .u64) (.prod (.int .u64) (.prod (.int .i64) (.prod (.int .i64) ((.prod (.int .u64) (.int .u64)))))))), .one (.bool)]
noncomputable def L_clevislaw10BranchOpposite (F_clevisref01Cond : FT ps_clevisref01Cond qs_clevisref01Cond) (F_branch_Opposite : FT ps_branch_Opposite qs_branch_Opposite) (F_branch_Refine : FT ps_branch_Refine qs_branch_Refine) (F_clevislaw10heads : FT ps_clevislaw10heads qs_clevislaw10heads)  (x : PTs.D ps_clevislaw10BranchOpposite) : Option Unit := match x with
  | (x0, (x1Umin, x1Umax, x1Smin, x1Smax, (x1Bits_Value, x1Bits_Mask)), (x2Umin, x2Umax, x2Smin, x2Smax, (x2Bits_Value, x2Bits_Mask)), x3) => 
      F_branch_Opposite Unit x0 fun y =>
        br (W.lt y 0) (F_clevislaw10heads Unit () fun y => br y (some ()) none)
          (F_branch_Refine Unit (x0, (x1Umin, x1Umax, x1Smin, x1Smax, x1Bits_Value, x1Bits_Mask), (x2Umin, x2Umax, x2Smin, x2Smax, x2Bits_Value, x2Bits_Mask), x3, false) fun y_1 =>
            F_branch_Refine Unit (y, (x1Umin, x1Umax, x1Smin, x1Smax, x1Bits_Value, x1Bits_Mask), (x2Umin, x2Umax, x2Smin, x2Smax, x2Bits_Value, x2Bits_Mask), x3, true) fun y_2 =>
              F_clevisref01Cond Unit (x0, x1Umin, x2Umin, x3) fun y_3 =>
                F_clevisref01Cond Unit (y, x1Umin, x2Umin, x3) fun y_4 =>
                  br
                    (W.pick
                      (W.pick
                        (W.pick
                          (W.and2 (W.eq y_1.1.1 y_2.1.1)
                            (W.and2 (W.eq y_1.1.2.1 y_2.1.2.1)
                              (W.and2 (W.eq y_1.1.2.2.1 y_2.1.2.2.1)
                                (W.and2 (W.eq y_1.1.2.2.2.1 y_2.1.2.2.2.1) (W.and2 (W.eq y_1.1.2.2.2.2.1 y_2.1.2.2.2.2.1) (W.and2 (W.eq y_1.1.2.2.2.2.2 y_2.1.2.2.2.2.2) true))))))
                          (W.and2 (W.eq y_1.2.1.1 y_2.2.1.1)
                            (W.and2 (W.eq y_1.2.1.2.1 y_2.2.1.2.1)
                              (W.and2 (W.eq y_1.2.1.2.2.1 y_2.2.1.2.2.1)
                                (W.and2 (W.eq y_1.2.1.2.2.2.1 y_2.2.1.2.2.2.1) (W.and2 (W.eq y_1.2.1.2.2.2.2.1 y_2.2.1.2.2.2.2.1) (W.and2 (W.eq y_1.2.1.2.2.2.2.2 y_2.2.1.2.2.2.2.2) true))))))
                          false)
                        (W.eqB y_1.2.2 y_2.2.2) false)
                      (W.not (W.eqB y_3.1 y_4.1)) false)
                    (F_branch_Opposite Unit y fun y => br (W.pick true (W.eq y x0) false) (F_clevislaw10heads Unit () fun y => br (W.pick true y false) (some ()) none) none) none)
theorem E_clevislaw10BranchOpposite {F_clevisref01Cond : FT ps_clevisref01Cond qs_clevisref01Cond} {F_branch_Opposite : FT ps_branch_Opposite qs_branch_Opposite} {F_branch_Refine : FT ps_branch_Refine qs_branch_Refine} {F_clevislaw10heads : FT ps_clevislaw10heads qs_clevislaw10heads} (h_clevisref01Cond : SpecOk Try.prog 9 (mkS ps_clevisref01Cond qs_clevisref01Cond F_clevisref01Cond)) (h_branch_Opposite : SpecOk Try.prog 14 (mkS ps_branch_Opposite qs_branch_Opposite F_branch_Opposite)) (h_branch_Refine : SpecOk Try.prog 10 (mkS ps_branch_Refine qs_branch_Refine F_branch_Refine)) (h_clevislaw10heads : SpecOk Try.prog 12 (mkS ps_clevislaw10heads qs_clevislaw10heads F_clevislaw10heads)) (x : PTs.D ps_clevislaw10BranchOpposite) (hL : L_clevislaw10BranchOpposite F_clevisref01Cond F_branch_Opposite F_branch_Refine F_clevislaw10heads x = some ()) :
    ∃ (C : Cfg) (fl d : Nat), CfgOk C ∧ C.P = Try.prog ∧ call C fl d 7 (encL false ps_clevislaw10BranchOpposite x) [] getL = some () :=
  ⟨_, 10, 12, (cfgOk_cons (cfgOk_cons (cfgOk_cons (cfgOk_cons base h_clevislaw10heads) h_branch_Refine) h_branch_Opposite) h_clevisref01Cond), rfl, (show _ = L_clevislaw10BranchOpposite F_clevisref01Cond F_branch_Opposite F_branch_Refine F_clevislaw10heads x by obtain ⟨x0, ⟨x1Umin, x1Umax, x1Smin, x1Smax, ⟨x1Bits_Value, x1Bits_Mask⟩⟩, ⟨x2Umin, x2Umax, x2Smin, x2Smax, ⟨x2Bits_Value, x2Bits_Mask⟩⟩, x3⟩ := x; kernel_rfl).trans hL⟩
abbrev ps_clevislaw10BranchTurns : List PT := [.agg ((.prod (.int .u64) (.prod (.int .u64) (.prod (.int .i64) (.prod (.int .i64) ((.prod (.int .u64) (.int .u64)))))))), .agg ((.prod (.int .u64) (.prod (.int .u64) (.prod (.int .i64) (.prod (.int .i64) ((.prod (.int .u64) (.int .u64)))))))), .one (.bool), .one (.bool)]
noncomputable def L_clevislaw10BranchTurns (F_branch_Refine : FT ps_branch_Refine qs_branch_Refine) (F_clevislaw10heads : FT ps_clevislaw10heads qs_clevislaw10heads)  (x : PTs.D ps_clevislaw10BranchTurns) : Option Unit := match x with
  | ((x0Umin, x0Umax, x0Smin, x0Smax, (x0Bits_Value, x0Bits_Mask)), (x1Umin, x1Umax, x1Smin, x1Smax, (x1Bits_Value, x1Bits_Mask)), x2, x3) => 
      F_branch_Refine Unit (32, (x0Umin, x0Umax, x0Smin, x0Smax, x0Bits_Value, x0Bits_Mask), (x1Umin, x1Umax, x1Smin, x1Smax, x1Bits_Value, x1Bits_Mask), x2, x3) fun y =>
        F_branch_Refine Unit (160, (x1Umin, x1Umax, x1Smin, x1Smax, x1Bits_Value, x1Bits_Mask), (x0Umin, x0Umax, x0Smin, x0Smax, x0Bits_Value, x0Bits_Mask), x2, x3) fun y_1 =>
          F_branch_Refine Unit (112, (x0Umin, x0Umax, x0Smin, x0Smax, x0Bits_Value, x0Bits_Mask), (x1Umin, x1Umax, x1Smin, x1Smax, x1Bits_Value, x1Bits_Mask), x2, x3) fun y_2 =>
            F_branch_Refine Unit (208, (x1Umin, x1Umax, x1Smin, x1Smax, x1Bits_Value, x1Bits_Mask), (x0Umin, x0Umax, x0Smin, x0Smax, x0Bits_Value, x0Bits_Mask), x2, x3) fun y_3 =>
              br
                (W.pick
                  (W.pick
                    (W.pick
                      (W.pick
                        (W.pick
                          (W.and2 (W.eq y.1.1 y_1.2.1.1)
                            (W.and2 (W.eq y.1.2.1 y_1.2.1.2.1)
                              (W.and2 (W.eq y.1.2.2.1 y_1.2.1.2.2.1)
                                (W.and2 (W.eq y.1.2.2.2.1 y_1.2.1.2.2.2.1) (W.and2 (W.eq y.1.2.2.2.2.1 y_1.2.1.2.2.2.2.1) (W.and2 (W.eq y.1.2.2.2.2.2 y_1.2.1.2.2.2.2.2) true))))))
                          (W.and2 (W.eq y.2.1.1 y_1.1.1)
                            (W.and2 (W.eq y.2.1.2.1 y_1.1.2.1)
                              (W.and2 (W.eq y.2.1.2.2.1 y_1.1.2.2.1)
                                (W.and2 (W.eq y.2.1.2.2.2.1 y_1.1.2.2.2.1) (W.and2 (W.eq y.2.1.2.2.2.2.1 y_1.1.2.2.2.2.1) (W.and2 (W.eq y.2.1.2.2.2.2.2 y_1.1.2.2.2.2.2) true))))))
                          false)
                        (W.eqB y.2.2 y_1.2.2) false)
                      (W.and2 (W.eq y_2.1.1 y_3.2.1.1)
                        (W.and2 (W.eq y_2.1.2.1 y_3.2.1.2.1)
                          (W.and2 (W.eq y_2.1.2.2.1 y_3.2.1.2.2.1)
                            (W.and2 (W.eq y_2.1.2.2.2.1 y_3.2.1.2.2.2.1) (W.and2 (W.eq y_2.1.2.2.2.2.1 y_3.2.1.2.2.2.2.1) (W.and2 (W.eq y_2.1.2.2.2.2.2 y_3.2.1.2.2.2.2.2) true))))))
                      false)
                    (W.and2 (W.eq y_2.2.1.1 y_3.1.1)
                      (W.and2 (W.eq y_2.2.1.2.1 y_3.1.2.1)
                        (W.and2 (W.eq y_2.2.1.2.2.1 y_3.1.2.2.1)
                          (W.and2 (W.eq y_2.2.1.2.2.2.1 y_3.1.2.2.2.1) (W.and2 (W.eq y_2.2.1.2.2.2.2.1 y_3.1.2.2.2.2.1) (W.and2 (W.eq y_2.2.1.2.2.2.2.2 y_3.1.2.2.2.2.2) true))))))
                    false)
                  (W.eqB y_2.2.2 y_3.2.2) false)
                (F_clevislaw10heads Unit () fun y => br (W.pick true y false) (some ()) none) none
theorem E_clevislaw10BranchTurns {F_branch_Refine : FT ps_branch_Refine qs_branch_Refine} {F_clevislaw10heads : FT ps_clevislaw10heads qs_clevislaw10heads} (h_branch_Refine : SpecOk Try.prog 10 (mkS ps_branch_Refine qs_branch_Refine F_branch_Refine)) (h_clevislaw10heads : SpecOk Try.prog 12 (mkS ps_clevislaw10heads qs_clevislaw10heads F_clevislaw10heads)) (x : PTs.D ps_clevislaw10BranchTurns) (hL : L_clevislaw10BranchTurns F_branch_Refine F_clevislaw10heads x = some ()) :
    ∃ (C : Cfg) (fl d : Nat), CfgOk C ∧ C.P = Try.prog ∧ call C fl d 8 (encL false ps_clevislaw10BranchTurns x) [] getL = some () :=
  ⟨_, 10, 12, (cfgOk_cons (cfgOk_cons base h_clevislaw10heads) h_branch_Refine), rfl, (show _ = L_clevislaw10BranchTurns F_branch_Refine F_clevislaw10heads x by obtain ⟨⟨x0Umin, x0Umax, x0Smin, x0Smax, ⟨x0Bits_Value, x0Bits_Mask⟩⟩, ⟨x1Umin, x1Umax, x1Smin, x1Smax, ⟨x1Bits_Value, x1Bits_Mask⟩⟩, x2, x3⟩ := x; kernel_rfl).trans hL⟩
end Go.Proofs.Ytjmddbakkghacaa
