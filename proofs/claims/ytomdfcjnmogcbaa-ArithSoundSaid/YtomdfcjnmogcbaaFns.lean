import Derived.Test.YtomdfcjnmogcbaaFnsA
set_option maxHeartbeats 0
set_option maxRecDepth 1000000
set_option linter.unusedVariables false
namespace Go.Proofs.Ytomdfcjnmogcbaa
open Go Go.Eng
abbrev ps_arith_Alu : List PT := [.one (.int .i64), .agg ((.prod (.int .u64) (.prod (.int .u64) (.prod (.int .i64) (.prod (.int .i64) ((.prod (.int .u64) (.int .u64)))))))), .agg ((.prod (.int .u64) (.prod (.int .u64) (.prod (.int .i64) (.prod (.int .i64) ((.prod (.int .u64) (.int .u64)))))))), .one (.bool)]
abbrev qs_arith_Alu : List PT := [.agg ((.prod (.int .u64) (.prod (.int .u64) (.prod (.int .i64) (.prod (.int .i64) ((.prod (.int .u64) (.int .u64)))))))), .one (.bool)]
noncomputable def N_arith_Alu (F_bound_Check : FT ps_bound_Check qs_bound_Check) (F_bound_Any : FT ps_bound_Any qs_bound_Any) (F_arith_tidy : FT ps_arith_tidy qs_arith_tidy) (F_bound_Size : FT ps_bound_Size qs_bound_Size) (F_bound_Low : FT ps_bound_Low qs_bound_Low) (F_bound_Value : FT ps_bound_Value qs_bound_Value) (F_bound_Const : FT ps_bound_Const qs_bound_Const) (F_arith_pair_add : FT ps_arith_pair_add qs_arith_pair_add) (F_arith_pair_sub : FT ps_arith_pair_sub qs_arith_pair_sub) (F_arith_pair_neg : FT ps_arith_pair_neg qs_arith_pair_neg) (F_arith_pair_mov : FT ps_arith_pair_mov qs_arith_pair_mov) (F_arith_pair_mul : FT ps_arith_pair_mul qs_arith_pair_mul) (F_arith_pair_div : FT ps_arith_pair_div qs_arith_pair_div) (F_arith_pair_mod : FT ps_arith_pair_mod qs_arith_pair_mod) (F_arith_pair_and : FT ps_arith_pair_and qs_arith_pair_and) (F_arith_pair_or : FT ps_arith_pair_or qs_arith_pair_or) (F_arith_pair_xor : FT ps_arith_pair_xor qs_arith_pair_xor) (F_arith_pair_lsh : FT ps_arith_pair_lsh qs_arith_pair_lsh) (F_arith_pair_rsh : FT ps_arith_pair_rsh qs_arith_pair_rsh) (F_arith_pair_arsh : FT ps_arith_pair_arsh qs_arith_pair_arsh) (E_arith_pair_narrow_1 : TE_arith_pair_narrow_1) (E_arith_pair_narrow_2 : TE_arith_pair_narrow_2) (E_arith_pair_narrow_3 : TE_arith_pair_narrow_3) (E_arith_pair_narrow_4 : TE_arith_pair_narrow_4) (E_arith_pair_narrow_5 : TE_arith_pair_narrow_5) (E_arith_pair_narrow_6 : TE_arith_pair_narrow_6) (E_arith_pair_narrow_7 : TE_arith_pair_narrow_7) (E_arith_pair_narrow_8 : TE_arith_pair_narrow_8) (E_arith_pair_narrow_9 : TE_arith_pair_narrow_9) (E_arith_pair_narrow_10 : TE_arith_pair_narrow_10) (E_arith_pair_narrow_11 : TE_arith_pair_narrow_11) (E_arith_pair_narrow_12 : TE_arith_pair_narrow_12) (E_arith_pair_narrow_13 : TE_arith_pair_narrow_13)  : FT ps_arith_Alu qs_arith_Alu := fun R x k => match x with
  | (x0, (x1Umin, x1Umax, x1Smin, x1Smax, (x1Bits_Value, x1Bits_Mask)), (x2Umin, x2Umax, x2Smin, x2Smax, (x2Bits_Value, x2Bits_Mask)), x3) => 
      br (W.eq x0 0)
        (F_bound_Check R (x1Umin, x1Umax, x1Smin, x1Smax, x1Bits_Value, x1Bits_Mask) fun y =>
          br (W.not (W.pick false true (W.not y)))
            (F_bound_Check R (x2Umin, x2Umax, x2Smin, x2Smax, x2Bits_Value, x2Bits_Mask) fun y =>
              br (W.pick false true (W.not y)) (F_bound_Any R () fun y => k ((y.1, y.2.1, y.2.2.1, y.2.2.2.1, y.2.2.2.2.1, y.2.2.2.2.2), true))
                (br x3
                  (F_arith_pair_add R ((x1Umin, x1Umax, x1Smin, x1Smax, x1Bits_Value, x1Bits_Mask), x2Umin, x2Umax, x2Smin, x2Smax, x2Bits_Value, x2Bits_Mask) fun y =>
                    F_arith_tidy R (y.1, y.2.1, y.2.2.1, y.2.2.2.1, y.2.2.2.2.1, y.2.2.2.2.2) fun y => k ((y.1, y.2.1, y.2.2.1, y.2.2.2.1, y.2.2.2.2.1, y.2.2.2.2.2), true))
                  (E_arith_pair_narrow_1 R
                    (x1Umin, x1Umax, x1Smin, x1Smax, x1Bits_Value, x1Bits_Mask, x2Umin, x2Umax, x2Smin, x2Smax, x2Bits_Value, x2Bits_Mask, x0, x1Umin, x1Umax, x1Smin, x1Smax, x1Bits_Value,
                      x1Bits_Mask, x2Umin, x2Umax, x2Smin, x2Smax, x2Bits_Value, x2Bits_Mask, 0, 0, 0, 0, 0, 0, x1Umin, x1Umax, x1Smin, x1Smax, x1Bits_Value, x1Bits_Mask, x2Umin, x2Umax,
                      x2Smin, x2Smax, x2Bits_Value, x2Bits_Mask, ())
                    fun z => F_arith_tidy R (z.1, z.2.1, z.2.2.1, z.2.2.2.1, z.2.2.2.2.1, z.2.2.2.2.2.1) fun y => k ((y.1, y.2.1, y.2.2.1, y.2.2.2.1, y.2.2.2.2.1, y.2.2.2.2.2), true))))
            (F_bound_Any R () fun y => k ((y.1, y.2.1, y.2.2.1, y.2.2.2.1, y.2.2.2.2.1, y.2.2.2.2.2), true)))
        (br (W.eq x0 16)
          (F_bound_Check R (x1Umin, x1Umax, x1Smin, x1Smax, x1Bits_Value, x1Bits_Mask) fun y =>
            br (W.not (W.pick false true (W.not y)))
              (F_bound_Check R (x2Umin, x2Umax, x2Smin, x2Smax, x2Bits_Value, x2Bits_Mask) fun y =>
                br (W.pick false true (W.not y)) (F_bound_Any R () fun y => k ((y.1, y.2.1, y.2.2.1, y.2.2.2.1, y.2.2.2.2.1, y.2.2.2.2.2), true))
                  (br x3
                    (F_arith_pair_sub R ((x1Umin, x1Umax, x1Smin, x1Smax, x1Bits_Value, x1Bits_Mask), x2Umin, x2Umax, x2Smin, x2Smax, x2Bits_Value, x2Bits_Mask) fun y =>
                      F_arith_tidy R (y.1, y.2.1, y.2.2.1, y.2.2.2.1, y.2.2.2.2.1, y.2.2.2.2.2) fun y => k ((y.1, y.2.1, y.2.2.1, y.2.2.2.1, y.2.2.2.2.1, y.2.2.2.2.2), true))
                    (E_arith_pair_narrow_2 R
                      (x1Umin, x1Umax, x1Smin, x1Smax, x1Bits_Value, x1Bits_Mask, x2Umin, x2Umax, x2Smin, x2Smax, x2Bits_Value, x2Bits_Mask, x0, x1Umin, x1Umax, x1Smin, x1Smax,
                        x1Bits_Value, x1Bits_Mask, x2Umin, x2Umax, x2Smin, x2Smax, x2Bits_Value, x2Bits_Mask, 0, 0, 0, 0, 0, 0, x1Umin, x1Umax, x1Smin, x1Smax, x1Bits_Value, x1Bits_Mask,
                        x2Umin, x2Umax, x2Smin, x2Smax, x2Bits_Value, x2Bits_Mask, ())
                      fun z => F_arith_tidy R (z.1, z.2.1, z.2.2.1, z.2.2.2.1, z.2.2.2.2.1, z.2.2.2.2.2.1) fun y => k ((y.1, y.2.1, y.2.2.1, y.2.2.2.1, y.2.2.2.2.1, y.2.2.2.2.2), true))))
              (F_bound_Any R () fun y => k ((y.1, y.2.1, y.2.2.1, y.2.2.2.1, y.2.2.2.2.1, y.2.2.2.2.2), true)))
          (br (W.eq x0 128)
            (F_bound_Check R (x1Umin, x1Umax, x1Smin, x1Smax, x1Bits_Value, x1Bits_Mask) fun y =>
              br (W.not (W.pick false true (W.not y)))
                (F_bound_Check R (x2Umin, x2Umax, x2Smin, x2Smax, x2Bits_Value, x2Bits_Mask) fun y =>
                  br (W.pick false true (W.not y)) (F_bound_Any R () fun y => k ((y.1, y.2.1, y.2.2.1, y.2.2.2.1, y.2.2.2.2.1, y.2.2.2.2.2), true))
                    (br x3
                      (F_arith_pair_neg R ((x1Umin, x1Umax, x1Smin, x1Smax, x1Bits_Value, x1Bits_Mask), x2Umin, x2Umax, x2Smin, x2Smax, x2Bits_Value, x2Bits_Mask) fun y =>
                        F_arith_tidy R (y.1, y.2.1, y.2.2.1, y.2.2.2.1, y.2.2.2.2.1, y.2.2.2.2.2) fun y => k ((y.1, y.2.1, y.2.2.1, y.2.2.2.1, y.2.2.2.2.1, y.2.2.2.2.2), true))
                      (E_arith_pair_narrow_3 R
                        (x1Umin, x1Umax, x1Smin, x1Smax, x1Bits_Value, x1Bits_Mask, x2Umin, x2Umax, x2Smin, x2Smax, x2Bits_Value, x2Bits_Mask, x0, x1Umin, x1Umax, x1Smin, x1Smax,
                          x1Bits_Value, x1Bits_Mask, x2Umin, x2Umax, x2Smin, x2Smax, x2Bits_Value, x2Bits_Mask, 0, 0, 0, 0, 0, 0, x1Umin, x1Umax, x1Smin, x1Smax, x1Bits_Value, x1Bits_Mask,
                          x2Umin, x2Umax, x2Smin, x2Smax, x2Bits_Value, x2Bits_Mask, ())
                        fun z => F_arith_tidy R (z.1, z.2.1, z.2.2.1, z.2.2.2.1, z.2.2.2.2.1, z.2.2.2.2.2.1) fun y => k ((y.1, y.2.1, y.2.2.1, y.2.2.2.1, y.2.2.2.2.1, y.2.2.2.2.2), true))))
                (F_bound_Any R () fun y => k ((y.1, y.2.1, y.2.2.1, y.2.2.2.1, y.2.2.2.2.1, y.2.2.2.2.2), true)))
            (br (W.eq x0 176)
              (F_bound_Check R (x1Umin, x1Umax, x1Smin, x1Smax, x1Bits_Value, x1Bits_Mask) fun y =>
                br (W.not (W.pick false true (W.not y)))
                  (F_bound_Check R (x2Umin, x2Umax, x2Smin, x2Smax, x2Bits_Value, x2Bits_Mask) fun y =>
                    br (W.pick false true (W.not y)) (F_bound_Any R () fun y => k ((y.1, y.2.1, y.2.2.1, y.2.2.2.1, y.2.2.2.2.1, y.2.2.2.2.2), true))
                      (br x3
                        (F_arith_pair_mov R ((x1Umin, x1Umax, x1Smin, x1Smax, x1Bits_Value, x1Bits_Mask), x2Umin, x2Umax, x2Smin, x2Smax, x2Bits_Value, x2Bits_Mask) fun y =>
                          F_arith_tidy R (y.1, y.2.1, y.2.2.1, y.2.2.2.1, y.2.2.2.2.1, y.2.2.2.2.2) fun y => k ((y.1, y.2.1, y.2.2.1, y.2.2.2.1, y.2.2.2.2.1, y.2.2.2.2.2), true))
                        (E_arith_pair_narrow_4 R
                          (x1Umin, x1Umax, x1Smin, x1Smax, x1Bits_Value, x1Bits_Mask, x2Umin, x2Umax, x2Smin, x2Smax, x2Bits_Value, x2Bits_Mask, x0, x1Umin, x1Umax, x1Smin, x1Smax,
                            x1Bits_Value, x1Bits_Mask, x2Umin, x2Umax, x2Smin, x2Smax, x2Bits_Value, x2Bits_Mask, 0, 0, 0, 0, 0, 0, x1Umin, x1Umax, x1Smin, x1Smax, x1Bits_Value, x1Bits_Mask,
                            x2Umin, x2Umax, x2Smin, x2Smax, x2Bits_Value, x2Bits_Mask, ())
                          fun z => F_arith_tidy R (z.1, z.2.1, z.2.2.1, z.2.2.2.1, z.2.2.2.2.1, z.2.2.2.2.2.1) fun y => k ((y.1, y.2.1, y.2.2.1, y.2.2.2.1, y.2.2.2.2.1, y.2.2.2.2.2), true))))
                  (F_bound_Any R () fun y => k ((y.1, y.2.1, y.2.2.1, y.2.2.2.1, y.2.2.2.2.1, y.2.2.2.2.2), true)))
              (br (W.eq x0 32)
                (F_bound_Check R (x1Umin, x1Umax, x1Smin, x1Smax, x1Bits_Value, x1Bits_Mask) fun y =>
                  br (W.not (W.pick false true (W.not y)))
                    (F_bound_Check R (x2Umin, x2Umax, x2Smin, x2Smax, x2Bits_Value, x2Bits_Mask) fun y =>
                      br (W.pick false true (W.not y)) (F_bound_Any R () fun y => k ((y.1, y.2.1, y.2.2.1, y.2.2.2.1, y.2.2.2.2.1, y.2.2.2.2.2), true))
                        (br x3
                          (F_arith_pair_mul R ((x1Umin, x1Umax, x1Smin, x1Smax, x1Bits_Value, x1Bits_Mask), x2Umin, x2Umax, x2Smin, x2Smax, x2Bits_Value, x2Bits_Mask) fun y =>
                            F_arith_tidy R (y.1, y.2.1, y.2.2.1, y.2.2.2.1, y.2.2.2.2.1, y.2.2.2.2.2) fun y => k ((y.1, y.2.1, y.2.2.1, y.2.2.2.1, y.2.2.2.2.1, y.2.2.2.2.2), true))
                          (E_arith_pair_narrow_5 R
                            (x1Umin, x1Umax, x1Smin, x1Smax, x1Bits_Value, x1Bits_Mask, x2Umin, x2Umax, x2Smin, x2Smax, x2Bits_Value, x2Bits_Mask, x0, x1Umin, x1Umax, x1Smin, x1Smax,
                              x1Bits_Value, x1Bits_Mask, x2Umin, x2Umax, x2Smin, x2Smax, x2Bits_Value, x2Bits_Mask, 0, 0, 0, 0, 0, 0, x1Umin, x1Umax, x1Smin, x1Smax, x1Bits_Value, x1Bits_Mask,
                              x2Umin, x2Umax, x2Smin, x2Smax, x2Bits_Value, x2Bits_Mask, ())
                            fun z => F_arith_tidy R (z.1, z.2.1, z.2.2.1, z.2.2.2.1, z.2.2.2.2.1, z.2.2.2.2.2.1) fun y => k ((y.1, y.2.1, y.2.2.1, y.2.2.2.1, y.2.2.2.2.1, y.2.2.2.2.2), true))))
                    (F_bound_Any R () fun y => k ((y.1, y.2.1, y.2.2.1, y.2.2.2.1, y.2.2.2.2.1, y.2.2.2.2.2), true)))
                (br (W.eq x0 48)
                  (F_bound_Check R (x1Umin, x1Umax, x1Smin, x1Smax, x1Bits_Value, x1Bits_Mask) fun y =>
                    br (W.not (W.pick false true (W.not y)))
                      (F_bound_Check R (x2Umin, x2Umax, x2Smin, x2Smax, x2Bits_Value, x2Bits_Mask) fun y =>
                        br (W.pick false true (W.not y)) (F_bound_Any R () fun y => k ((y.1, y.2.1, y.2.2.1, y.2.2.2.1, y.2.2.2.2.1, y.2.2.2.2.2), true))
                          (br x3
                            (F_arith_pair_div R ((x1Umin, x1Umax, x1Smin, x1Smax, x1Bits_Value, x1Bits_Mask), x2Umin, x2Umax, x2Smin, x2Smax, x2Bits_Value, x2Bits_Mask) fun y =>
                              F_arith_tidy R (y.1, y.2.1, y.2.2.1, y.2.2.2.1, y.2.2.2.2.1, y.2.2.2.2.2) fun y => k ((y.1, y.2.1, y.2.2.1, y.2.2.2.1, y.2.2.2.2.1, y.2.2.2.2.2), true))
                            (E_arith_pair_narrow_6 R
                              (x1Umin, x1Umax, x1Smin, x1Smax, x1Bits_Value, x1Bits_Mask, x2Umin, x2Umax, x2Smin, x2Smax, x2Bits_Value, x2Bits_Mask, x0, x1Umin, x1Umax, x1Smin, x1Smax,
                                x1Bits_Value, x1Bits_Mask, x2Umin, x2Umax, x2Smin, x2Smax, x2Bits_Value, x2Bits_Mask, 0, 0, 0, 0, 0, 0, x1Umin, x1Umax, x1Smin, x1Smax, x1Bits_Value,
                                x1Bits_Mask, x2Umin, x2Umax, x2Smin, x2Smax, x2Bits_Value, x2Bits_Mask, ())
                              fun z => F_arith_tidy R (z.1, z.2.1, z.2.2.1, z.2.2.2.1, z.2.2.2.2.1, z.2.2.2.2.2.1) fun y => k ((y.1, y.2.1, y.2.2.1, y.2.2.2.1, y.2.2.2.2.1, y.2.2.2.2.2), true))))
                      (F_bound_Any R () fun y => k ((y.1, y.2.1, y.2.2.1, y.2.2.2.1, y.2.2.2.2.1, y.2.2.2.2.2), true)))
                  (br (W.eq x0 144)
                    (F_bound_Check R (x1Umin, x1Umax, x1Smin, x1Smax, x1Bits_Value, x1Bits_Mask) fun y =>
                      br (W.not (W.pick false true (W.not y)))
                        (F_bound_Check R (x2Umin, x2Umax, x2Smin, x2Smax, x2Bits_Value, x2Bits_Mask) fun y =>
                          br (W.pick false true (W.not y)) (F_bound_Any R () fun y => k ((y.1, y.2.1, y.2.2.1, y.2.2.2.1, y.2.2.2.2.1, y.2.2.2.2.2), true))
                            (br x3
                              (F_arith_pair_mod R ((x1Umin, x1Umax, x1Smin, x1Smax, x1Bits_Value, x1Bits_Mask), x2Umin, x2Umax, x2Smin, x2Smax, x2Bits_Value, x2Bits_Mask) fun y =>
                                F_arith_tidy R (y.1, y.2.1, y.2.2.1, y.2.2.2.1, y.2.2.2.2.1, y.2.2.2.2.2) fun y => k ((y.1, y.2.1, y.2.2.1, y.2.2.2.1, y.2.2.2.2.1, y.2.2.2.2.2), true))
                              (E_arith_pair_narrow_7 R
                                (x1Umin, x1Umax, x1Smin, x1Smax, x1Bits_Value, x1Bits_Mask, x2Umin, x2Umax, x2Smin, x2Smax, x2Bits_Value, x2Bits_Mask, x0, x1Umin, x1Umax, x1Smin, x1Smax,
                                  x1Bits_Value, x1Bits_Mask, x2Umin, x2Umax, x2Smin, x2Smax, x2Bits_Value, x2Bits_Mask, 0, 0, 0, 0, 0, 0, x1Umin, x1Umax, x1Smin, x1Smax, x1Bits_Value,
                                  x1Bits_Mask, x2Umin, x2Umax, x2Smin, x2Smax, x2Bits_Value, x2Bits_Mask, ())
                                fun z => F_arith_tidy R (z.1, z.2.1, z.2.2.1, z.2.2.2.1, z.2.2.2.2.1, z.2.2.2.2.2.1) fun y => k ((y.1, y.2.1, y.2.2.1, y.2.2.2.1, y.2.2.2.2.1, y.2.2.2.2.2), true))))
                        (F_bound_Any R () fun y => k ((y.1, y.2.1, y.2.2.1, y.2.2.2.1, y.2.2.2.2.1, y.2.2.2.2.2), true)))
                    (br (W.eq x0 80)
                      (F_bound_Check R (x1Umin, x1Umax, x1Smin, x1Smax, x1Bits_Value, x1Bits_Mask) fun y =>
                        br (W.not (W.pick false true (W.not y)))
                          (F_bound_Check R (x2Umin, x2Umax, x2Smin, x2Smax, x2Bits_Value, x2Bits_Mask) fun y =>
                            br (W.pick false true (W.not y)) (F_bound_Any R () fun y => k ((y.1, y.2.1, y.2.2.1, y.2.2.2.1, y.2.2.2.2.1, y.2.2.2.2.2), true))
                              (br x3
                                (F_arith_pair_and R ((x1Umin, x1Umax, x1Smin, x1Smax, x1Bits_Value, x1Bits_Mask), x2Umin, x2Umax, x2Smin, x2Smax, x2Bits_Value, x2Bits_Mask) fun y =>
                                  F_arith_tidy R (y.1, y.2.1, y.2.2.1, y.2.2.2.1, y.2.2.2.2.1, y.2.2.2.2.2) fun y => k ((y.1, y.2.1, y.2.2.1, y.2.2.2.1, y.2.2.2.2.1, y.2.2.2.2.2), true))
                                (E_arith_pair_narrow_8 R
                                  (x1Umin, x1Umax, x1Smin, x1Smax, x1Bits_Value, x1Bits_Mask, x2Umin, x2Umax, x2Smin, x2Smax, x2Bits_Value, x2Bits_Mask, x0, x1Umin, x1Umax, x1Smin, x1Smax,
                                    x1Bits_Value, x1Bits_Mask, x2Umin, x2Umax, x2Smin, x2Smax, x2Bits_Value, x2Bits_Mask, 0, 0, 0, 0, 0, 0, x1Umin, x1Umax, x1Smin, x1Smax, x1Bits_Value,
                                    x1Bits_Mask, x2Umin, x2Umax, x2Smin, x2Smax, x2Bits_Value, x2Bits_Mask, ())
                                  fun z => F_arith_tidy R (z.1, z.2.1, z.2.2.1, z.2.2.2.1, z.2.2.2.2.1, z.2.2.2.2.2.1) fun y => k ((y.1, y.2.1, y.2.2.1, y.2.2.2.1, y.2.2.2.2.1, y.2.2.2.2.2), true))))
                          (F_bound_Any R () fun y => k ((y.1, y.2.1, y.2.2.1, y.2.2.2.1, y.2.2.2.2.1, y.2.2.2.2.2), true)))
                      (br (W.eq x0 64)
                        (F_bound_Check R (x1Umin, x1Umax, x1Smin, x1Smax, x1Bits_Value, x1Bits_Mask) fun y =>
                          br (W.not (W.pick false true (W.not y)))
                            (F_bound_Check R (x2Umin, x2Umax, x2Smin, x2Smax, x2Bits_Value, x2Bits_Mask) fun y =>
                              br (W.pick false true (W.not y)) (F_bound_Any R () fun y => k ((y.1, y.2.1, y.2.2.1, y.2.2.2.1, y.2.2.2.2.1, y.2.2.2.2.2), true))
                                (br x3
                                  (F_arith_pair_or R ((x1Umin, x1Umax, x1Smin, x1Smax, x1Bits_Value, x1Bits_Mask), x2Umin, x2Umax, x2Smin, x2Smax, x2Bits_Value, x2Bits_Mask) fun y =>
                                    F_arith_tidy R (y.1, y.2.1, y.2.2.1, y.2.2.2.1, y.2.2.2.2.1, y.2.2.2.2.2) fun y => k ((y.1, y.2.1, y.2.2.1, y.2.2.2.1, y.2.2.2.2.1, y.2.2.2.2.2), true))
                                  (E_arith_pair_narrow_9 R
                                    (x1Umin, x1Umax, x1Smin, x1Smax, x1Bits_Value, x1Bits_Mask, x2Umin, x2Umax, x2Smin, x2Smax, x2Bits_Value, x2Bits_Mask, x0, x1Umin, x1Umax, x1Smin, x1Smax,
                                      x1Bits_Value, x1Bits_Mask, x2Umin, x2Umax, x2Smin, x2Smax, x2Bits_Value, x2Bits_Mask, 0, 0, 0, 0, 0, 0, x1Umin, x1Umax, x1Smin, x1Smax, x1Bits_Value,
                                      x1Bits_Mask, x2Umin, x2Umax, x2Smin, x2Smax, x2Bits_Value, x2Bits_Mask, ())
                                    fun z => F_arith_tidy R (z.1, z.2.1, z.2.2.1, z.2.2.2.1, z.2.2.2.2.1, z.2.2.2.2.2.1) fun y => k ((y.1, y.2.1, y.2.2.1, y.2.2.2.1, y.2.2.2.2.1, y.2.2.2.2.2), true))))
                            (F_bound_Any R () fun y => k ((y.1, y.2.1, y.2.2.1, y.2.2.2.1, y.2.2.2.2.1, y.2.2.2.2.2), true)))
                        (br (W.eq x0 160)
                          (F_bound_Check R (x1Umin, x1Umax, x1Smin, x1Smax, x1Bits_Value, x1Bits_Mask) fun y =>
                            br (W.not (W.pick false true (W.not y)))
                              (F_bound_Check R (x2Umin, x2Umax, x2Smin, x2Smax, x2Bits_Value, x2Bits_Mask) fun y =>
                                br (W.pick false true (W.not y)) (F_bound_Any R () fun y => k ((y.1, y.2.1, y.2.2.1, y.2.2.2.1, y.2.2.2.2.1, y.2.2.2.2.2), true))
                                  (br x3
                                    (F_arith_pair_xor R ((x1Umin, x1Umax, x1Smin, x1Smax, x1Bits_Value, x1Bits_Mask), x2Umin, x2Umax, x2Smin, x2Smax, x2Bits_Value, x2Bits_Mask) fun y =>
                                      F_arith_tidy R (y.1, y.2.1, y.2.2.1, y.2.2.2.1, y.2.2.2.2.1, y.2.2.2.2.2) fun y => k ((y.1, y.2.1, y.2.2.1, y.2.2.2.1, y.2.2.2.2.1, y.2.2.2.2.2), true))
                                    (E_arith_pair_narrow_10 R
                                      (x1Umin, x1Umax, x1Smin, x1Smax, x1Bits_Value, x1Bits_Mask, x2Umin, x2Umax, x2Smin, x2Smax, x2Bits_Value, x2Bits_Mask, x0, x1Umin, x1Umax, x1Smin,
                                        x1Smax, x1Bits_Value, x1Bits_Mask, x2Umin, x2Umax, x2Smin, x2Smax, x2Bits_Value, x2Bits_Mask, 0, 0, 0, 0, 0, 0, x1Umin, x1Umax, x1Smin, x1Smax,
                                        x1Bits_Value, x1Bits_Mask, x2Umin, x2Umax, x2Smin, x2Smax, x2Bits_Value, x2Bits_Mask, ())
                                      fun z => F_arith_tidy R (z.1, z.2.1, z.2.2.1, z.2.2.2.1, z.2.2.2.2.1, z.2.2.2.2.2.1) fun y => k ((y.1, y.2.1, y.2.2.1, y.2.2.2.1, y.2.2.2.2.1, y.2.2.2.2.2), true))))
                              (F_bound_Any R () fun y => k ((y.1, y.2.1, y.2.2.1, y.2.2.2.1, y.2.2.2.2.1, y.2.2.2.2.2), true)))
                          (br (W.eq x0 96)
                            (F_bound_Check R (x1Umin, x1Umax, x1Smin, x1Smax, x1Bits_Value, x1Bits_Mask) fun y =>
                              br (W.not (W.pick false true (W.not y)))
                                (F_bound_Check R (x2Umin, x2Umax, x2Smin, x2Smax, x2Bits_Value, x2Bits_Mask) fun y =>
                                  br (W.pick false true (W.not y)) (F_bound_Any R () fun y => k ((y.1, y.2.1, y.2.2.1, y.2.2.2.1, y.2.2.2.2.1, y.2.2.2.2.2), true))
                                    (br x3
                                      (F_arith_pair_lsh R ((x1Umin, x1Umax, x1Smin, x1Smax, x1Bits_Value, x1Bits_Mask), x2Umin, x2Umax, x2Smin, x2Smax, x2Bits_Value, x2Bits_Mask) fun y =>
                                        F_arith_tidy R (y.1, y.2.1, y.2.2.1, y.2.2.2.1, y.2.2.2.2.1, y.2.2.2.2.2) fun y => k ((y.1, y.2.1, y.2.2.1, y.2.2.2.1, y.2.2.2.2.1, y.2.2.2.2.2), true))
                                      (E_arith_pair_narrow_11 R
                                        (x1Umin, x1Umax, x1Smin, x1Smax, x1Bits_Value, x1Bits_Mask, x2Umin, x2Umax, x2Smin, x2Smax, x2Bits_Value, x2Bits_Mask, x0, x1Umin, x1Umax, x1Smin,
                                          x1Smax, x1Bits_Value, x1Bits_Mask, x2Umin, x2Umax, x2Smin, x2Smax, x2Bits_Value, x2Bits_Mask, 0, 0, 0, 0, 0, 0, x1Umin, x1Umax, x1Smin, x1Smax,
                                          x1Bits_Value, x1Bits_Mask, x2Umin, x2Umax, x2Smin, x2Smax, x2Bits_Value, x2Bits_Mask, ())
                                        fun z => F_arith_tidy R (z.1, z.2.1, z.2.2.1, z.2.2.2.1, z.2.2.2.2.1, z.2.2.2.2.2.1) fun y => k ((y.1, y.2.1, y.2.2.1, y.2.2.2.1, y.2.2.2.2.1, y.2.2.2.2.2), true))))
                                (F_bound_Any R () fun y => k ((y.1, y.2.1, y.2.2.1, y.2.2.2.1, y.2.2.2.2.1, y.2.2.2.2.2), true)))
                            (br (W.eq x0 112)
                              (F_bound_Check R (x1Umin, x1Umax, x1Smin, x1Smax, x1Bits_Value, x1Bits_Mask) fun y =>
                                br (W.not (W.pick false true (W.not y)))
                                  (F_bound_Check R (x2Umin, x2Umax, x2Smin, x2Smax, x2Bits_Value, x2Bits_Mask) fun y =>
                                    br (W.pick false true (W.not y)) (F_bound_Any R () fun y => k ((y.1, y.2.1, y.2.2.1, y.2.2.2.1, y.2.2.2.2.1, y.2.2.2.2.2), true))
                                      (br x3
                                        (F_arith_pair_rsh R ((x1Umin, x1Umax, x1Smin, x1Smax, x1Bits_Value, x1Bits_Mask), x2Umin, x2Umax, x2Smin, x2Smax, x2Bits_Value, x2Bits_Mask) fun y =>
                                          F_arith_tidy R (y.1, y.2.1, y.2.2.1, y.2.2.2.1, y.2.2.2.2.1, y.2.2.2.2.2) fun y => k ((y.1, y.2.1, y.2.2.1, y.2.2.2.1, y.2.2.2.2.1, y.2.2.2.2.2), true))
                                        (E_arith_pair_narrow_12 R
                                          (x1Umin, x1Umax, x1Smin, x1Smax, x1Bits_Value, x1Bits_Mask, x2Umin, x2Umax, x2Smin, x2Smax, x2Bits_Value, x2Bits_Mask, x0, x1Umin, x1Umax, x1Smin,
                                            x1Smax, x1Bits_Value, x1Bits_Mask, x2Umin, x2Umax, x2Smin, x2Smax, x2Bits_Value, x2Bits_Mask, 0, 0, 0, 0, 0, 0, x1Umin, x1Umax, x1Smin, x1Smax,
                                            x1Bits_Value, x1Bits_Mask, x2Umin, x2Umax, x2Smin, x2Smax, x2Bits_Value, x2Bits_Mask, ())
                                          fun z =>
                                          F_arith_tidy R (z.1, z.2.1, z.2.2.1, z.2.2.2.1, z.2.2.2.2.1, z.2.2.2.2.2.1) fun y => k ((y.1, y.2.1, y.2.2.1, y.2.2.2.1, y.2.2.2.2.1, y.2.2.2.2.2), true))))
                                  (F_bound_Any R () fun y => k ((y.1, y.2.1, y.2.2.1, y.2.2.2.1, y.2.2.2.2.1, y.2.2.2.2.2), true)))
                              (br (W.eq x0 192)
                                (F_bound_Check R (x1Umin, x1Umax, x1Smin, x1Smax, x1Bits_Value, x1Bits_Mask) fun y =>
                                  br (W.not (W.pick false true (W.not y)))
                                    (F_bound_Check R (x2Umin, x2Umax, x2Smin, x2Smax, x2Bits_Value, x2Bits_Mask) fun y =>
                                      br (W.pick false true (W.not y)) (F_bound_Any R () fun y => k ((y.1, y.2.1, y.2.2.1, y.2.2.2.1, y.2.2.2.2.1, y.2.2.2.2.2), true))
                                        (br x3
                                          (F_arith_pair_arsh R ((x1Umin, x1Umax, x1Smin, x1Smax, x1Bits_Value, x1Bits_Mask), x2Umin, x2Umax, x2Smin, x2Smax, x2Bits_Value, x2Bits_Mask) fun y =>
                                            F_arith_tidy R (y.1, y.2.1, y.2.2.1, y.2.2.2.1, y.2.2.2.2.1, y.2.2.2.2.2) fun y => k ((y.1, y.2.1, y.2.2.1, y.2.2.2.1, y.2.2.2.2.1, y.2.2.2.2.2), true))
                                          (E_arith_pair_narrow_13 R
                                            (x1Umin, x1Umax, x1Smin, x1Smax, x1Bits_Value, x1Bits_Mask, x2Umin, x2Umax, x2Smin, x2Smax, x2Bits_Value, x2Bits_Mask, x0, x1Umin, x1Umax, x1Smin,
                                              x1Smax, x1Bits_Value, x1Bits_Mask, x2Umin, x2Umax, x2Smin, x2Smax, x2Bits_Value, x2Bits_Mask, 0, 0, 0, 0, 0, 0, x1Umin, x1Umax, x1Smin, x1Smax,
                                              x1Bits_Value, x1Bits_Mask, x2Umin, x2Umax, x2Smin, x2Smax, x2Bits_Value, x2Bits_Mask, ())
                                            fun z =>
                                            F_arith_tidy R (z.1, z.2.1, z.2.2.1, z.2.2.2.1, z.2.2.2.2.1, z.2.2.2.2.2.1) fun y => k ((y.1, y.2.1, y.2.2.1, y.2.2.2.1, y.2.2.2.2.1, y.2.2.2.2.2), true))))
                                    (F_bound_Any R () fun y => k ((y.1, y.2.1, y.2.2.1, y.2.2.2.1, y.2.2.2.2.1, y.2.2.2.2.2), true)))
                                (F_bound_Any R () fun y => k ((y.1, y.2.1, y.2.2.1, y.2.2.2.1, y.2.2.2.2.1, y.2.2.2.2.2), false))))))))))))))
theorem S_arith_Alu {F_bound_Check : FT ps_bound_Check qs_bound_Check} {F_bound_Any : FT ps_bound_Any qs_bound_Any} {F_arith_tidy : FT ps_arith_tidy qs_arith_tidy} {F_bound_Size : FT ps_bound_Size qs_bound_Size} {F_bound_Low : FT ps_bound_Low qs_bound_Low} {F_bound_Value : FT ps_bound_Value qs_bound_Value} {F_bound_Const : FT ps_bound_Const qs_bound_Const} {F_arith_pair_add : FT ps_arith_pair_add qs_arith_pair_add} {F_arith_pair_sub : FT ps_arith_pair_sub qs_arith_pair_sub} {F_arith_pair_neg : FT ps_arith_pair_neg qs_arith_pair_neg} {F_arith_pair_mov : FT ps_arith_pair_mov qs_arith_pair_mov} {F_arith_pair_mul : FT ps_arith_pair_mul qs_arith_pair_mul} {F_arith_pair_div : FT ps_arith_pair_div qs_arith_pair_div} {F_arith_pair_mod : FT ps_arith_pair_mod qs_arith_pair_mod} {F_arith_pair_and : FT ps_arith_pair_and qs_arith_pair_and} {F_arith_pair_or : FT ps_arith_pair_or qs_arith_pair_or} {F_arith_pair_xor : FT ps_arith_pair_xor qs_arith_pair_xor} {F_arith_pair_lsh : FT ps_arith_pair_lsh qs_arith_pair_lsh} {F_arith_pair_rsh : FT ps_arith_pair_rsh qs_arith_pair_rsh} {F_arith_pair_arsh : FT ps_arith_pair_arsh qs_arith_pair_arsh} {E_arith_pair_narrow_1 : TE_arith_pair_narrow_1} {E_arith_pair_narrow_2 : TE_arith_pair_narrow_2} {E_arith_pair_narrow_3 : TE_arith_pair_narrow_3} {E_arith_pair_narrow_4 : TE_arith_pair_narrow_4} {E_arith_pair_narrow_5 : TE_arith_pair_narrow_5} {E_arith_pair_narrow_6 : TE_arith_pair_narrow_6} {E_arith_pair_narrow_7 : TE_arith_pair_narrow_7} {E_arith_pair_narrow_8 : TE_arith_pair_narrow_8} {E_arith_pair_narrow_9 : TE_arith_pair_narrow_9} {E_arith_pair_narrow_10 : TE_arith_pair_narrow_10} {E_arith_pair_narrow_11 : TE_arith_pair_narrow_11} {E_arith_pair_narrow_12 : TE_arith_pair_narrow_12} {E_arith_pair_narrow_13 : TE_arith_pair_narrow_13} (h_bound_Check : SpecOk Try.prog 17 (mkS ps_bound_Check qs_bound_Check F_bound_Check)) (h_bound_Any : SpecOk Try.prog 18 (mkS ps_bound_Any qs_bound_Any F_bound_Any)) (h_arith_tidy : SpecOk Try.prog 19 (mkS ps_arith_tidy qs_arith_tidy F_arith_tidy)) (h_bound_Size : SpecOk Try.prog 49 (mkS ps_bound_Size qs_bound_Size F_bound_Size)) (h_bound_Low : SpecOk Try.prog 46 (mkS ps_bound_Low qs_bound_Low F_bound_Low)) (h_bound_Value : SpecOk Try.prog 47 (mkS ps_bound_Value qs_bound_Value F_bound_Value)) (h_bound_Const : SpecOk Try.prog 48 (mkS ps_bound_Const qs_bound_Const F_bound_Const)) (h_arith_pair_add : SpecOk Try.prog 30 (mkS ps_arith_pair_add qs_arith_pair_add F_arith_pair_add)) (h_arith_pair_sub : SpecOk Try.prog 31 (mkS ps_arith_pair_sub qs_arith_pair_sub F_arith_pair_sub)) (h_arith_pair_neg : SpecOk Try.prog 32 (mkS ps_arith_pair_neg qs_arith_pair_neg F_arith_pair_neg)) (h_arith_pair_mov : SpecOk Try.prog 33 (mkS ps_arith_pair_mov qs_arith_pair_mov F_arith_pair_mov)) (h_arith_pair_mul : SpecOk Try.prog 34 (mkS ps_arith_pair_mul qs_arith_pair_mul F_arith_pair_mul)) (h_arith_pair_div : SpecOk Try.prog 35 (mkS ps_arith_pair_div qs_arith_pair_div F_arith_pair_div)) (h_arith_pair_mod : SpecOk Try.prog 36 (mkS ps_arith_pair_mod qs_arith_pair_mod F_arith_pair_mod)) (h_arith_pair_and : SpecOk Try.prog 37 (mkS ps_arith_pair_and qs_arith_pair_and F_arith_pair_and)) (h_arith_pair_or : SpecOk Try.prog 38 (mkS ps_arith_pair_or qs_arith_pair_or F_arith_pair_or)) (h_arith_pair_xor : SpecOk Try.prog 39 (mkS ps_arith_pair_xor qs_arith_pair_xor F_arith_pair_xor)) (h_arith_pair_lsh : SpecOk Try.prog 40 (mkS ps_arith_pair_lsh qs_arith_pair_lsh F_arith_pair_lsh)) (h_arith_pair_rsh : SpecOk Try.prog 41 (mkS ps_arith_pair_rsh qs_arith_pair_rsh F_arith_pair_rsh)) (h_arith_pair_arsh : SpecOk Try.prog 42 (mkS ps_arith_pair_arsh qs_arith_pair_arsh F_arith_pair_arsh)) (h_arith_pair_narrow_1 : ESpOk Try.prog 20 (mkE pa_arith_pair_narrow_1 ph_arith_pair_narrow_1 pr_arith_pair_narrow_1 pz_arith_pair_narrow_1 E_arith_pair_narrow_1)) (h_arith_pair_narrow_2 : ESpOk Try.prog 20 (mkE pa_arith_pair_narrow_2 ph_arith_pair_narrow_2 pr_arith_pair_narrow_2 pz_arith_pair_narrow_2 E_arith_pair_narrow_2)) (h_arith_pair_narrow_3 : ESpOk Try.prog 20 (mkE pa_arith_pair_narrow_3 ph_arith_pair_narrow_3 pr_arith_pair_narrow_3 pz_arith_pair_narrow_3 E_arith_pair_narrow_3)) (h_arith_pair_narrow_4 : ESpOk Try.prog 20 (mkE pa_arith_pair_narrow_4 ph_arith_pair_narrow_4 pr_arith_pair_narrow_4 pz_arith_pair_narrow_4 E_arith_pair_narrow_4)) (h_arith_pair_narrow_5 : ESpOk Try.prog 20 (mkE pa_arith_pair_narrow_5 ph_arith_pair_narrow_5 pr_arith_pair_narrow_5 pz_arith_pair_narrow_5 E_arith_pair_narrow_5)) (h_arith_pair_narrow_6 : ESpOk Try.prog 20 (mkE pa_arith_pair_narrow_6 ph_arith_pair_narrow_6 pr_arith_pair_narrow_6 pz_arith_pair_narrow_6 E_arith_pair_narrow_6)) (h_arith_pair_narrow_7 : ESpOk Try.prog 20 (mkE pa_arith_pair_narrow_7 ph_arith_pair_narrow_7 pr_arith_pair_narrow_7 pz_arith_pair_narrow_7 E_arith_pair_narrow_7)) (h_arith_pair_narrow_8 : ESpOk Try.prog 20 (mkE pa_arith_pair_narrow_8 ph_arith_pair_narrow_8 pr_arith_pair_narrow_8 pz_arith_pair_narrow_8 E_arith_pair_narrow_8)) (h_arith_pair_narrow_9 : ESpOk Try.prog 20 (mkE pa_arith_pair_narrow_9 ph_arith_pair_narrow_9 pr_arith_pair_narrow_9 pz_arith_pair_narrow_9 E_arith_pair_narrow_9)) (h_arith_pair_narrow_10 : ESpOk Try.prog 20 (mkE pa_arith_pair_narrow_10 ph_arith_pair_narrow_10 pr_arith_pair_narrow_10 pz_arith_pair_narrow_10 E_arith_pair_narrow_10)) (h_arith_pair_narrow_11 : ESpOk Try.prog 20 (mkE pa_arith_pair_narrow_11 ph_arith_pair_narrow_11 pr_arith_pair_narrow_11 pz_arith_pair_narrow_11 E_arith_pair_narrow_11)) (h_arith_pair_narrow_12 : ESpOk Try.prog 20 (mkE pa_arith_pair_narrow_12 ph_arith_pair_narrow_12 pr_arith_pair_narrow_12 pz_arith_pair_narrow_12 E_arith_pair_narrow_12)) (h_arith_pair_narrow_13 : ESpOk Try.prog 20 (mkE pa_arith_pair_narrow_13 ph_arith_pair_narrow_13 pr_arith_pair_narrow_13 pz_arith_pair_narrow_13 E_arith_pair_narrow_13)) : SpecOk Try.prog 8 (mkS ps_arith_Alu qs_arith_Alu (N_arith_Alu F_bound_Check F_bound_Any F_arith_tidy F_bound_Size F_bound_Low F_bound_Value F_bound_Const F_arith_pair_add F_arith_pair_sub F_arith_pair_neg F_arith_pair_mov F_arith_pair_mul F_arith_pair_div F_arith_pair_mod F_arith_pair_and F_arith_pair_or F_arith_pair_xor F_arith_pair_lsh F_arith_pair_rsh F_arith_pair_arsh E_arith_pair_narrow_1 E_arith_pair_narrow_2 E_arith_pair_narrow_3 E_arith_pair_narrow_4 E_arith_pair_narrow_5 E_arith_pair_narrow_6 E_arith_pair_narrow_7 E_arith_pair_narrow_8 E_arith_pair_narrow_9 E_arith_pair_narrow_10 E_arith_pair_narrow_11 E_arith_pair_narrow_12 E_arith_pair_narrow_13)) :=
  specOkE_mk (fl := 10) (d := 12) (cfgOk_cons (cfgOk_cons (cfgOk_cons (cfgOk_cons (cfgOk_cons (cfgOk_cons (cfgOk_cons (cfgOk_cons (cfgOk_cons (cfgOk_cons (cfgOk_cons (cfgOk_cons (cfgOk_cons (cfgOk_cons (cfgOk_cons (cfgOk_cons (cfgOk_cons (cfgOk_cons (cfgOk_cons (cfgOk_cons base h_arith_pair_arsh) h_arith_pair_rsh) h_arith_pair_lsh) h_arith_pair_xor) h_arith_pair_or) h_arith_pair_and) h_arith_pair_mod) h_arith_pair_div) h_arith_pair_mul) h_arith_pair_mov) h_arith_pair_neg) h_arith_pair_sub) h_arith_pair_add) h_bound_Const) h_bound_Value) h_bound_Low) h_bound_Size) h_arith_tidy) h_bound_Any) h_bound_Check) (esOk_cons (esOk_cons (esOk_cons (esOk_cons (esOk_cons (esOk_cons (esOk_cons (esOk_cons (esOk_cons (esOk_cons (esOk_cons (esOk_cons (esOk_cons esOk_nil h_arith_pair_narrow_13) h_arith_pair_narrow_12) h_arith_pair_narrow_11) h_arith_pair_narrow_10) h_arith_pair_narrow_9) h_arith_pair_narrow_8) h_arith_pair_narrow_7) h_arith_pair_narrow_6) h_arith_pair_narrow_5) h_arith_pair_narrow_4) h_arith_pair_narrow_3) h_arith_pair_narrow_2) h_arith_pair_narrow_1) (by rintro R ⟨x0, ⟨x1Umin, x1Umax, x1Smin, x1Smax, ⟨x1Bits_Value, x1Bits_Mask⟩⟩, ⟨x2Umin, x2Umax, x2Smin, x2Smax, ⟨x2Bits_Value, x2Bits_Mask⟩⟩, x3⟩ k; kernel_rfl)
noncomputable def F_arith_Alu : FT ps_arith_Alu qs_arith_Alu := N_arith_Alu F_bound_Check F_bound_Any F_arith_tidy F_bound_Size F_bound_Low F_bound_Value F_bound_Const F_arith_pair_add F_arith_pair_sub F_arith_pair_neg F_arith_pair_mov F_arith_pair_mul F_arith_pair_div F_arith_pair_mod F_arith_pair_and F_arith_pair_or F_arith_pair_xor F_arith_pair_lsh F_arith_pair_rsh F_arith_pair_arsh E_arith_pair_narrow_1 E_arith_pair_narrow_2 E_arith_pair_narrow_3 E_arith_pair_narrow_4 E_arith_pair_narrow_5 E_arith_pair_narrow_6 E_arith_pair_narrow_7 E_arith_pair_narrow_8 E_arith_pair_narrow_9 E_arith_pair_narrow_10 E_arith_pair_narrow_11 E_arith_pair_narrow_12 E_arith_pair_narrow_13 
theorem ok_arith_Alu : SpecOk Try.prog 8 (mkS ps_arith_Alu qs_arith_Alu F_arith_Alu) := S_arith_Alu ok_bound_Check ok_bound_Any ok_arith_tidy ok_bound_Size ok_bound_Low ok_bound_Value ok_bound_Const ok_arith_pair_add ok_arith_pair_sub ok_arith_pair_neg ok_arith_pair_mov ok_arith_pair_mul ok_arith_pair_div ok_arith_pair_mod ok_arith_pair_and ok_arith_pair_or ok_arith_pair_xor ok_arith_pair_lsh ok_arith_pair_rsh ok_arith_pair_arsh okE_arith_pair_narrow_1 okE_arith_pair_narrow_2 okE_arith_pair_narrow_3 okE_arith_pair_narrow_4 okE_arith_pair_narrow_5 okE_arith_pair_narrow_6 okE_arith_pair_narrow_7 okE_arith_pair_narrow_8 okE_arith_pair_narrow_9 okE_arith_pair_narrow_10 okE_arith_pair_narrow_11 okE_arith_pair_narrow_12 okE_arith_pair_narrow_13
abbrev ps_clevisref01neg : List PT := [.one (.int .u64), .one (.bool)]
abbrev qs_clevisref01neg : List PT := [.one (.bool)]
noncomputable def N_clevisref01neg   : FT ps_clevisref01neg qs_clevisref01neg := fun R x k => match x with
  | (x0, x1) => 
      br x1 (k (W.eq (W.shr IntKind.u64 x0 63) 1)) (k (W.eq (W.wrap IntKind.u64 (W.and IntKind.u64 (W.shr IntKind.u64 x0 31) 1)) 1))
theorem S_clevisref01neg   : SpecOk Try.prog 59 (mkS ps_clevisref01neg qs_clevisref01neg (N_clevisref01neg )) :=
  specOk_mk (fl := 10) (d := 12) base (by rintro R ⟨x0, x1⟩ k; kernel_rfl)
noncomputable def F_clevisref01neg : FT ps_clevisref01neg qs_clevisref01neg := N_clevisref01neg  
theorem ok_clevisref01neg : SpecOk Try.prog 59 (mkS ps_clevisref01neg qs_clevisref01neg F_clevisref01neg) := S_clevisref01neg 
abbrev ps_clevisref01shift : List PT := [.one (.int .i64), .one (.int .u64), .one (.int .i64), .one (.bool)]
abbrev qs_clevisref01shift : List PT := [.one (.int .u64)]
noncomputable def PL_clevisref01shift_7_0 (F_clevisref01neg : FT ps_clevisref01neg qs_clevisref01neg) (fl : Nat)  (R : Type) (k : PTs.D qs_clevisref01shift → Option R) : LoopI R :=
  locate (Cw Try.prog [(59, mkS ps_clevisref01neg qs_clevisref01neg F_clevisref01neg)] noH) fl (call (Cw Try.prog [(59, mkS ps_clevisref01neg qs_clevisref01neg F_clevisref01neg)] noH) fl 11) 0 25 7 [] (getR qs_clevisref01shift k)
noncomputable def P_clevisref01shift_7_0 (F_clevisref01neg : FT ps_clevisref01neg qs_clevisref01neg) (fl : Nat)  (n : Nat) (R : Type) (y0 : Int) (y1 : Int) (y2 : Int) (y3 : Int) (y4 : Int) (k : PTs.D qs_clevisref01shift → Option R) : Option R :=
  loopH (PL_clevisref01shift_7_0 F_clevisref01neg fl  R k).body (PL_clevisref01shift_7_0 F_clevisref01neg fl  R k).head n (some (
      S.mk
        [V.int IntKind.i64 y0, V.int IntKind.u64 y1, V.int IntKind.i64 y2, V.any, V.any, V.any, V.any, V.any, V.any, V.int IntKind.u64 y3, V.int IntKind.i64 y4, V.any, V.any, V.any, V.any, V.any, V.any,
          V.any, V.any, V.any, V.any, V.any, V.any, V.any, V.any, V.any, V.any, V.any, V.any, V.any, V.any, V.any, V.any]
        [] [])) (PL_clevisref01shift_7_0 F_clevisref01neg fl  R k).kont
theorem P_clevisref01shift_7_0_s {F_clevisref01neg : FT ps_clevisref01neg qs_clevisref01neg} (fl : Nat)  (n : Nat) (R : Type) (y0 : Int) (y1 : Int) (y2 : Int) (y3 : Int) (y4 : Int) (k : PTs.D qs_clevisref01shift → Option R) : P_clevisref01shift_7_0 F_clevisref01neg fl  (n + 1) R y0 y1 y2 y3 y4 k =
      br (W.lt y4 y2)
        (br (W.eq y0 96) (P_clevisref01shift_7_0 F_clevisref01neg fl n R y0 (W.wrap IntKind.u64 (W.mul y1 2)) y2 y3 (W.wrap IntKind.i64 (W.add y4 1)) k)
          (P_clevisref01shift_7_0 F_clevisref01neg fl n R y0 (W.wrap IntKind.u64 (W.or IntKind.u64 (W.wrap IntKind.u64 (W.quo y1 2)) y3)) y2 y3 (W.wrap IntKind.i64 (W.add y4 1)) k))
        (k y1) := by kernel_rfl
noncomputable def N_clevisref01shift (F_clevisref01neg : FT ps_clevisref01neg qs_clevisref01neg) (fl : Nat) : FT ps_clevisref01shift qs_clevisref01shift := fun R x k => match x with
  | (x0, x1, x2, x3) => 
      F_clevisref01neg R (x1, x3) fun y =>
        br (W.pick y (W.eq x0 192) false) (br x3 (P_clevisref01shift_7_0 F_clevisref01neg fl fl R x0 x1 x2 9223372036854775808 0 k) (P_clevisref01shift_7_0 F_clevisref01neg fl fl R x0 x1 x2 2147483648 0 k))
          (P_clevisref01shift_7_0 F_clevisref01neg fl fl R x0 x1 x2 0 0 k)
theorem Q_clevisref01shift {F_clevisref01neg : FT ps_clevisref01neg qs_clevisref01neg} (fl : Nat) (R : Type) (x : PTs.D ps_clevisref01shift) (k : PTs.D qs_clevisref01shift → Option R) : call (Cw Try.prog [(59, mkS ps_clevisref01neg qs_clevisref01neg F_clevisref01neg)] noH) fl 12 25 (encL true ps_clevisref01shift x) [] (getR qs_clevisref01shift k) = N_clevisref01shift F_clevisref01neg fl R x k := by
  obtain ⟨x0, x1, x2, x3⟩ := x; kernel_rfl
theorem S_clevisref01shift {F_clevisref01neg : FT ps_clevisref01neg qs_clevisref01neg} (h_clevisref01neg : SpecOk Try.prog 59 (mkS ps_clevisref01neg qs_clevisref01neg F_clevisref01neg)) : SpecOk Try.prog 25 (mkS ps_clevisref01shift qs_clevisref01shift (N_clevisref01shift F_clevisref01neg W.big)) :=
  specOk_mk (fl := W.big) (d := 12) (cfgOk_cons base h_clevisref01neg) (fun R x k => Q_clevisref01shift W.big R x k)
noncomputable def F_clevisref01shift : FT ps_clevisref01shift qs_clevisref01shift := N_clevisref01shift F_clevisref01neg W.big
theorem ok_clevisref01shift : SpecOk Try.prog 25 (mkS ps_clevisref01shift qs_clevisref01shift F_clevisref01shift) := S_clevisref01shift ok_clevisref01neg
abbrev ps_clevisref01Alu : List PT := [.one (.int .i64), .one (.int .u64), .one (.int .u64), .one (.bool)]
abbrev qs_clevisref01Alu : List PT := [.one (.int .u64), .one (.bool)]
noncomputable def N_clevisref01Alu (F_clevisref01shift : FT ps_clevisref01shift qs_clevisref01shift)  : FT ps_clevisref01Alu qs_clevisref01Alu := fun R x k => match x with
  | (x0, x1, x2, x3) => 
      br (W.not x3)
        (br (W.eq x0 0)
          (br (W.not x3)
            (k
              (W.wrap IntKind.u64 (W.and IntKind.u64 (W.wrap IntKind.u64 (W.add (W.wrap IntKind.u64 (W.and IntKind.u64 x1 4294967295)) (W.wrap IntKind.u64 (W.and IntKind.u64 x2 4294967295)))) 4294967295),
                true))
            (k (W.wrap IntKind.u64 (W.add (W.wrap IntKind.u64 (W.and IntKind.u64 x1 4294967295)) (W.wrap IntKind.u64 (W.and IntKind.u64 x2 4294967295))), true)))
          (br (W.eq x0 16)
            (br (W.not x3)
              (k
                (W.wrap IntKind.u64 (W.and IntKind.u64 (W.wrap IntKind.u64 (W.sub (W.wrap IntKind.u64 (W.and IntKind.u64 x1 4294967295)) (W.wrap IntKind.u64 (W.and IntKind.u64 x2 4294967295)))) 4294967295),
                  true))
              (k (W.wrap IntKind.u64 (W.sub (W.wrap IntKind.u64 (W.and IntKind.u64 x1 4294967295)) (W.wrap IntKind.u64 (W.and IntKind.u64 x2 4294967295))), true)))
            (br (W.eq x0 32)
              (br (W.not x3)
                (k
                  (W.wrap IntKind.u64
                      (W.and IntKind.u64 (W.wrap IntKind.u64 (W.mul (W.wrap IntKind.u64 (W.and IntKind.u64 x1 4294967295)) (W.wrap IntKind.u64 (W.and IntKind.u64 x2 4294967295)))) 4294967295),
                    true))
                (k (W.wrap IntKind.u64 (W.mul (W.wrap IntKind.u64 (W.and IntKind.u64 x1 4294967295)) (W.wrap IntKind.u64 (W.and IntKind.u64 x2 4294967295))), true)))
              (br (W.eq x0 48)
                (br (W.ne (W.wrap IntKind.u64 (W.and IntKind.u64 x2 4294967295)) 0)
                  (br (W.eq (W.wrap IntKind.u64 (W.and IntKind.u64 x2 4294967295)) 0) none
                    (br (W.not x3)
                      (k
                        (W.wrap IntKind.u64
                            (W.and IntKind.u64 (W.wrap IntKind.u64 (W.quo (W.wrap IntKind.u64 (W.and IntKind.u64 x1 4294967295)) (W.wrap IntKind.u64 (W.and IntKind.u64 x2 4294967295)))) 4294967295),
                          true))
                      (k (W.wrap IntKind.u64 (W.quo (W.wrap IntKind.u64 (W.and IntKind.u64 x1 4294967295)) (W.wrap IntKind.u64 (W.and IntKind.u64 x2 4294967295))), true))))
                  (br (W.not x3) (k (0, true)) (k (0, true))))
                (br (W.eq x0 144)
                  (br (W.ne (W.wrap IntKind.u64 (W.and IntKind.u64 x2 4294967295)) 0)
                    (br (W.eq (W.wrap IntKind.u64 (W.and IntKind.u64 x2 4294967295)) 0) none
                      (br (W.not x3)
                        (k (W.wrap IntKind.u64 (W.and IntKind.u64 (W.rem (W.wrap IntKind.u64 (W.and IntKind.u64 x1 4294967295)) (W.wrap IntKind.u64 (W.and IntKind.u64 x2 4294967295))) 4294967295), true))
                        (k (W.rem (W.wrap IntKind.u64 (W.and IntKind.u64 x1 4294967295)) (W.wrap IntKind.u64 (W.and IntKind.u64 x2 4294967295)), true))))
                    (br (W.not x3) (k (W.wrap IntKind.u64 (W.and IntKind.u64 (W.wrap IntKind.u64 (W.and IntKind.u64 x1 4294967295)) 4294967295), true))
                      (k (W.wrap IntKind.u64 (W.and IntKind.u64 x1 4294967295), true))))
                  (br (W.eq x0 64)
                    (br (W.not x3)
                      (k
                        (W.wrap IntKind.u64
                            (W.and IntKind.u64 (W.wrap IntKind.u64 (W.or IntKind.u64 (W.wrap IntKind.u64 (W.and IntKind.u64 x1 4294967295)) (W.wrap IntKind.u64 (W.and IntKind.u64 x2 4294967295))))
                              4294967295),
                          true))
                      (k (W.wrap IntKind.u64 (W.or IntKind.u64 (W.wrap IntKind.u64 (W.and IntKind.u64 x1 4294967295)) (W.wrap IntKind.u64 (W.and IntKind.u64 x2 4294967295))), true)))
                    (br (W.eq x0 80)
                      (br (W.not x3)
                        (k
                          (W.wrap IntKind.u64
                              (W.and IntKind.u64 (W.wrap IntKind.u64 (W.and IntKind.u64 (W.wrap IntKind.u64 (W.and IntKind.u64 x1 4294967295)) (W.wrap IntKind.u64 (W.and IntKind.u64 x2 4294967295))))
                                4294967295),
                            true))
                        (k (W.wrap IntKind.u64 (W.and IntKind.u64 (W.wrap IntKind.u64 (W.and IntKind.u64 x1 4294967295)) (W.wrap IntKind.u64 (W.and IntKind.u64 x2 4294967295))), true)))
                      (br (W.eq x0 160)
                        (br (W.not x3)
                          (k
                            (W.wrap IntKind.u64
                                (W.and IntKind.u64 (W.wrap IntKind.u64 (W.xor IntKind.u64 (W.wrap IntKind.u64 (W.and IntKind.u64 x1 4294967295)) (W.wrap IntKind.u64 (W.and IntKind.u64 x2 4294967295))))
                                  4294967295),
                              true))
                          (k (W.wrap IntKind.u64 (W.xor IntKind.u64 (W.wrap IntKind.u64 (W.and IntKind.u64 x1 4294967295)) (W.wrap IntKind.u64 (W.and IntKind.u64 x2 4294967295))), true)))
                        (br (W.eq x0 96)
                          (br (W.eq x0 96)
                            (F_clevisref01shift R (x0, W.wrap IntKind.u64 (W.and IntKind.u64 x1 4294967295), W.wrap IntKind.i64 (W.rem (W.wrap IntKind.u64 (W.and IntKind.u64 x2 4294967295)) 32), x3)
                              fun y => br (W.not x3) (k (W.wrap IntKind.u64 (W.and IntKind.u64 y 4294967295), true)) (k (y, true)))
                            (br (W.eq x0 128)
                              (br (W.not x3) (k (W.wrap IntKind.u64 (W.and IntKind.u64 (W.wrap IntKind.u64 (W.sub 0 (W.wrap IntKind.u64 (W.and IntKind.u64 x1 4294967295)))) 4294967295), true))
                                (k (W.wrap IntKind.u64 (W.sub 0 (W.wrap IntKind.u64 (W.and IntKind.u64 x1 4294967295))), true)))
                              (br (W.eq x0 176)
                                (br (W.not x3) (k (W.wrap IntKind.u64 (W.and IntKind.u64 (W.wrap IntKind.u64 (W.and IntKind.u64 x2 4294967295)) 4294967295), true))
                                  (k (W.wrap IntKind.u64 (W.and IntKind.u64 x2 4294967295), true)))
                                (k (0, false)))))
                          (br (W.eq x0 112)
                            (br (W.eq x0 112)
                              (F_clevisref01shift R (x0, W.wrap IntKind.u64 (W.and IntKind.u64 x1 4294967295), W.wrap IntKind.i64 (W.rem (W.wrap IntKind.u64 (W.and IntKind.u64 x2 4294967295)) 32), x3)
                                fun y => br (W.not x3) (k (W.wrap IntKind.u64 (W.and IntKind.u64 y 4294967295), true)) (k (y, true)))
                              (br (W.eq x0 128)
                                (br (W.not x3) (k (W.wrap IntKind.u64 (W.and IntKind.u64 (W.wrap IntKind.u64 (W.sub 0 (W.wrap IntKind.u64 (W.and IntKind.u64 x1 4294967295)))) 4294967295), true))
                                  (k (W.wrap IntKind.u64 (W.sub 0 (W.wrap IntKind.u64 (W.and IntKind.u64 x1 4294967295))), true)))
                                (br (W.eq x0 176)
                                  (br (W.not x3) (k (W.wrap IntKind.u64 (W.and IntKind.u64 (W.wrap IntKind.u64 (W.and IntKind.u64 x2 4294967295)) 4294967295), true))
                                    (k (W.wrap IntKind.u64 (W.and IntKind.u64 x2 4294967295), true)))
                                  (k (0, false)))))
                            (br (W.eq x0 192)
                              (F_clevisref01shift R (x0, W.wrap IntKind.u64 (W.and IntKind.u64 x1 4294967295), W.wrap IntKind.i64 (W.rem (W.wrap IntKind.u64 (W.and IntKind.u64 x2 4294967295)) 32), x3)
                                fun y => br (W.not x3) (k (W.wrap IntKind.u64 (W.and IntKind.u64 y 4294967295), true)) (k (y, true)))
                              (br (W.eq x0 128)
                                (br (W.not x3) (k (W.wrap IntKind.u64 (W.and IntKind.u64 (W.wrap IntKind.u64 (W.sub 0 (W.wrap IntKind.u64 (W.and IntKind.u64 x1 4294967295)))) 4294967295), true))
                                  (k (W.wrap IntKind.u64 (W.sub 0 (W.wrap IntKind.u64 (W.and IntKind.u64 x1 4294967295))), true)))
                                (br (W.eq x0 176)
                                  (br (W.not x3) (k (W.wrap IntKind.u64 (W.and IntKind.u64 (W.wrap IntKind.u64 (W.and IntKind.u64 x2 4294967295)) 4294967295), true))
                                    (k (W.wrap IntKind.u64 (W.and IntKind.u64 x2 4294967295), true)))
                                  (k (0, false)))))))))))))))
        (br (W.eq x0 0) (br (W.not x3) (k (W.wrap IntKind.u64 (W.and IntKind.u64 (W.wrap IntKind.u64 (W.add x1 x2)) 4294967295), true)) (k (W.wrap IntKind.u64 (W.add x1 x2), true)))
          (br (W.eq x0 16) (br (W.not x3) (k (W.wrap IntKind.u64 (W.and IntKind.u64 (W.wrap IntKind.u64 (W.sub x1 x2)) 4294967295), true)) (k (W.wrap IntKind.u64 (W.sub x1 x2), true)))
            (br (W.eq x0 32) (br (W.not x3) (k (W.wrap IntKind.u64 (W.and IntKind.u64 (W.wrap IntKind.u64 (W.mul x1 x2)) 4294967295), true)) (k (W.wrap IntKind.u64 (W.mul x1 x2), true)))
              (br (W.eq x0 48)
                (br (W.ne x2 0)
                  (br (W.eq x2 0) none (br (W.not x3) (k (W.wrap IntKind.u64 (W.and IntKind.u64 (W.wrap IntKind.u64 (W.quo x1 x2)) 4294967295), true)) (k (W.wrap IntKind.u64 (W.quo x1 x2), true))))
                  (br (W.not x3) (k (0, true)) (k (0, true))))
                (br (W.eq x0 144)
                  (br (W.ne x2 0) (br (W.eq x2 0) none (br (W.not x3) (k (W.wrap IntKind.u64 (W.and IntKind.u64 (W.rem x1 x2) 4294967295), true)) (k (W.rem x1 x2, true))))
                    (br (W.not x3) (k (W.wrap IntKind.u64 (W.and IntKind.u64 x1 4294967295), true)) (k (x1, true))))
                  (br (W.eq x0 64)
                    (br (W.not x3) (k (W.wrap IntKind.u64 (W.and IntKind.u64 (W.wrap IntKind.u64 (W.or IntKind.u64 x1 x2)) 4294967295), true)) (k (W.wrap IntKind.u64 (W.or IntKind.u64 x1 x2), true)))
                    (br (W.eq x0 80)
                      (br (W.not x3) (k (W.wrap IntKind.u64 (W.and IntKind.u64 (W.wrap IntKind.u64 (W.and IntKind.u64 x1 x2)) 4294967295), true)) (k (W.wrap IntKind.u64 (W.and IntKind.u64 x1 x2), true)))
                      (br (W.eq x0 160)
                        (br (W.not x3) (k (W.wrap IntKind.u64 (W.and IntKind.u64 (W.wrap IntKind.u64 (W.xor IntKind.u64 x1 x2)) 4294967295), true)) (k (W.wrap IntKind.u64 (W.xor IntKind.u64 x1 x2), true)))
                        (br (W.eq x0 96)
                          (br (W.eq x0 96)
                            (F_clevisref01shift R (x0, x1, W.wrap IntKind.i64 (W.rem x2 64), x3) fun y => br (W.not x3) (k (W.wrap IntKind.u64 (W.and IntKind.u64 y 4294967295), true)) (k (y, true)))
                            (br (W.eq x0 128) (br (W.not x3) (k (W.wrap IntKind.u64 (W.and IntKind.u64 (W.wrap IntKind.u64 (W.sub 0 x1)) 4294967295), true)) (k (W.wrap IntKind.u64 (W.sub 0 x1), true)))
                              (br (W.eq x0 176) (br (W.not x3) (k (W.wrap IntKind.u64 (W.and IntKind.u64 x2 4294967295), true)) (k (x2, true))) (k (0, false)))))
                          (br (W.eq x0 112)
                            (br (W.eq x0 112)
                              (F_clevisref01shift R (x0, x1, W.wrap IntKind.i64 (W.rem x2 64), x3) fun y => br (W.not x3) (k (W.wrap IntKind.u64 (W.and IntKind.u64 y 4294967295), true)) (k (y, true)))
                              (br (W.eq x0 128) (br (W.not x3) (k (W.wrap IntKind.u64 (W.and IntKind.u64 (W.wrap IntKind.u64 (W.sub 0 x1)) 4294967295), true)) (k (W.wrap IntKind.u64 (W.sub 0 x1), true)))
                                (br (W.eq x0 176) (br (W.not x3) (k (W.wrap IntKind.u64 (W.and IntKind.u64 x2 4294967295), true)) (k (x2, true))) (k (0, false)))))
                            (br (W.eq x0 192)
                              (F_clevisref01shift R (x0, x1, W.wrap IntKind.i64 (W.rem x2 64), x3) fun y => br (W.not x3) (k (W.wrap IntKind.u64 (W.and IntKind.u64 y 4294967295), true)) (k (y, true)))
                              (br (W.eq x0 128) (br (W.not x3) (k (W.wrap IntKind.u64 (W.and IntKind.u64 (W.wrap IntKind.u64 (W.sub 0 x1)) 4294967295), true)) (k (W.wrap IntKind.u64 (W.sub 0 x1), true)))
                                (br (W.eq x0 176) (br (W.not x3) (k (W.wrap IntKind.u64 (W.and IntKind.u64 x2 4294967295), true)) (k (x2, true))) (k (0, false)))))))))))))))
theorem S_clevisref01Alu {F_clevisref01shift : FT ps_clevisref01shift qs_clevisref01shift} (h_clevisref01shift : SpecOk Try.prog 25 (mkS ps_clevisref01shift qs_clevisref01shift F_clevisref01shift)) : SpecOk Try.prog 11 (mkS ps_clevisref01Alu qs_clevisref01Alu (N_clevisref01Alu F_clevisref01shift)) :=
  specOk_mk (fl := 10) (d := 12) (cfgOk_cons base h_clevisref01shift) (by rintro R ⟨x0, x1, x2, x3⟩ k; kernel_rfl)
noncomputable def F_clevisref01Alu : FT ps_clevisref01Alu qs_clevisref01Alu := N_clevisref01Alu F_clevisref01shift 
theorem ok_clevisref01Alu : SpecOk Try.prog 11 (mkS ps_clevisref01Alu qs_clevisref01Alu F_clevisref01Alu) := S_clevisref01Alu ok_clevisref01shift
abbrev ps_clevisref07Check : List PT := [.agg ((.prod (.int .u64) (.int .u64)))]
abbrev qs_clevisref07Check : List PT := [.one (.bool)]
noncomputable def N_clevisref07Check   : FT ps_clevisref07Check qs_clevisref07Check := fun R x k => match x with
  | (x0Value, x0Mask) => 
      k (W.eq (W.wrap IntKind.u64 (W.and IntKind.u64 x0Value x0Mask)) 0)
theorem S_clevisref07Check   : SpecOk Try.prog 26 (mkS ps_clevisref07Check qs_clevisref07Check (N_clevisref07Check )) :=
  specOk_mk (fl := 10) (d := 12) base (by rintro R ⟨x0Value, x0Mask⟩ k; kernel_rfl)
noncomputable def F_clevisref07Check : FT ps_clevisref07Check qs_clevisref07Check := N_clevisref07Check  
theorem ok_clevisref07Check : SpecOk Try.prog 26 (mkS ps_clevisref07Check qs_clevisref07Check F_clevisref07Check) := S_clevisref07Check 
abbrev ps_clevisref08Check : List PT := [.agg ((.prod (.int .u64) (.prod (.int .u64) (.prod (.int .i64) (.prod (.int .i64) ((.prod (.int .u64) (.int .u64))))))))]
abbrev qs_clevisref08Check : List PT := [.one (.bool)]
noncomputable def N_clevisref08Check (F_clevisref07Check : FT ps_clevisref07Check qs_clevisref07Check)  : FT ps_clevisref08Check qs_clevisref08Check := fun R x k => match x with
  | (x0Umin, x0Umax, x0Smin, x0Smax, (x0Bits_Value, x0Bits_Mask)) => 
      br (W.pick (W.le x0Umin x0Umax) (W.le x0Smin x0Smax) false) (F_clevisref07Check R (x0Bits_Value, x0Bits_Mask) fun y => k (W.pick true y false)) (k false)
theorem S_clevisref08Check {F_clevisref07Check : FT ps_clevisref07Check qs_clevisref07Check} (h_clevisref07Check : SpecOk Try.prog 26 (mkS ps_clevisref07Check qs_clevisref07Check F_clevisref07Check)) : SpecOk Try.prog 12 (mkS ps_clevisref08Check qs_clevisref08Check (N_clevisref08Check F_clevisref07Check)) :=
  specOk_mk (fl := 10) (d := 12) (cfgOk_cons base h_clevisref07Check) (by rintro R ⟨x0Umin, x0Umax, x0Smin, x0Smax, ⟨x0Bits_Value, x0Bits_Mask⟩⟩ k; kernel_rfl)
noncomputable def F_clevisref08Check : FT ps_clevisref08Check qs_clevisref08Check := N_clevisref08Check F_clevisref07Check 
theorem ok_clevisref08Check : SpecOk Try.prog 12 (mkS ps_clevisref08Check qs_clevisref08Check F_clevisref08Check) := S_clevisref08Check ok_clevisref07Check
abbrev ps_clevisref07Any : List PT := []
abbrev qs_clevisref07Any : List PT := [.agg ((.prod (.int .u64) (.int .u64)))]
noncomputable def N_clevisref07Any   : FT ps_clevisref07Any qs_clevisref07Any := fun R x k => match x with
  | () => 
      k (0, 18446744073709551615)
theorem S_clevisref07Any   : SpecOk Try.prog 29 (mkS ps_clevisref07Any qs_clevisref07Any (N_clevisref07Any )) :=
  specOk_mk (fl := 10) (d := 12) base (by intro R x k; kernel_rfl)
noncomputable def F_clevisref07Any : FT ps_clevisref07Any qs_clevisref07Any := N_clevisref07Any  
theorem ok_clevisref07Any : SpecOk Try.prog 29 (mkS ps_clevisref07Any qs_clevisref07Any F_clevisref07Any) := S_clevisref07Any 
abbrev ps_clevisref08Any : List PT := []
abbrev qs_clevisref08Any : List PT := [.agg ((.prod (.int .u64) (.prod (.int .u64) (.prod (.int .i64) (.prod (.int .i64) ((.prod (.int .u64) (.int .u64))))))))]
noncomputable def N_clevisref08Any (F_clevisref07Any : FT ps_clevisref07Any qs_clevisref07Any)  : FT ps_clevisref08Any qs_clevisref08Any := fun R x k => match x with
  | () => 
      F_clevisref07Any R () fun y => k (0, 18446744073709551615, -9223372036854775808, 9223372036854775807, y.1, y.2)
theorem S_clevisref08Any {F_clevisref07Any : FT ps_clevisref07Any qs_clevisref07Any} (h_clevisref07Any : SpecOk Try.prog 29 (mkS ps_clevisref07Any qs_clevisref07Any F_clevisref07Any)) : SpecOk Try.prog 15 (mkS ps_clevisref08Any qs_clevisref08Any (N_clevisref08Any F_clevisref07Any)) :=
  specOk_mk (fl := 10) (d := 12) (cfgOk_cons base h_clevisref07Any) (by intro R x k; kernel_rfl)
noncomputable def F_clevisref08Any : FT ps_clevisref08Any qs_clevisref08Any := N_clevisref08Any F_clevisref07Any 
theorem ok_clevisref08Any : SpecOk Try.prog 15 (mkS ps_clevisref08Any qs_clevisref08Any F_clevisref08Any) := S_clevisref08Any ok_clevisref07Any
abbrev ps_clevisref08bits : List PT := [.agg ((.prod (.int .u64) (.prod (.int .u64) (.prod (.int .i64) (.prod (.int .i64) ((.prod (.int .u64) (.int .u64))))))))]
abbrev qs_clevisref08bits : List PT := [.agg ((.prod (.int .u64) (.prod (.int .u64) (.prod (.int .i64) (.prod (.int .i64) ((.prod (.int .u64) (.int .u64))))))))]
noncomputable def N_clevisref08bits   : FT ps_clevisref08bits qs_clevisref08bits := fun R x k => match x with
  | (x0Umin, x0Umax, x0Smin, x0Smax, (x0Bits_Value, x0Bits_Mask)) => 
      k
        (W.max x0Umin x0Bits_Value, W.min x0Umax (W.wrap IntKind.u64 (W.or IntKind.u64 x0Bits_Value x0Bits_Mask)),
          W.max x0Smin (W.wrap IntKind.i64 (W.wrap IntKind.u64 (W.or IntKind.u64 x0Bits_Value (W.wrap IntKind.u64 (W.and IntKind.u64 x0Bits_Mask 9223372036854775808))))),
          W.min x0Smax (W.wrap IntKind.i64 (W.wrap IntKind.u64 (W.or IntKind.u64 x0Bits_Value (W.wrap IntKind.u64 (W.and IntKind.u64 x0Bits_Mask 9223372036854775807))))), x0Bits_Value, x0Bits_Mask)
theorem S_clevisref08bits   : SpecOk Try.prog 80 (mkS ps_clevisref08bits qs_clevisref08bits (N_clevisref08bits )) :=
  specOk_mk (fl := 10) (d := 12) base (by rintro R ⟨x0Umin, x0Umax, x0Smin, x0Smax, ⟨x0Bits_Value, x0Bits_Mask⟩⟩ k; kernel_rfl)
noncomputable def F_clevisref08bits : FT ps_clevisref08bits qs_clevisref08bits := N_clevisref08bits  
theorem ok_clevisref08bits : SpecOk Try.prog 80 (mkS ps_clevisref08bits qs_clevisref08bits F_clevisref08bits) := S_clevisref08bits 
abbrev ps_clevisref08signs : List PT := [.agg ((.prod (.int .u64) (.prod (.int .u64) (.prod (.int .i64) (.prod (.int .i64) ((.prod (.int .u64) (.int .u64))))))))]
abbrev qs_clevisref08signs : List PT := [.agg ((.prod (.int .u64) (.prod (.int .u64) (.prod (.int .i64) (.prod (.int .i64) ((.prod (.int .u64) (.int .u64))))))))]
noncomputable def N_clevisref08signs   : FT ps_clevisref08signs qs_clevisref08signs := fun R x k => match x with
  | (x0Umin, x0Umax, x0Smin, x0Smax, (x0Bits_Value, x0Bits_Mask)) => 
      br (W.pick (W.ge x0Smin 0) true (W.lt x0Smax 0))
        (k
          (W.max x0Umin (W.wrap IntKind.u64 x0Smin), W.min x0Umax (W.wrap IntKind.u64 x0Smax), W.wrap IntKind.i64 (W.max x0Umin (W.wrap IntKind.u64 x0Smin)),
            W.wrap IntKind.i64 (W.min x0Umax (W.wrap IntKind.u64 x0Smax)), x0Bits_Value, x0Bits_Mask))
        (br (W.ge (W.wrap IntKind.i64 x0Umax) 0)
          (k (x0Umin, W.wrap IntKind.u64 (W.min x0Smax (W.wrap IntKind.i64 x0Umax)), W.wrap IntKind.i64 x0Umin, W.min x0Smax (W.wrap IntKind.i64 x0Umax), x0Bits_Value, x0Bits_Mask))
          (br (W.lt (W.wrap IntKind.i64 x0Umin) 0)
            (k (W.wrap IntKind.u64 (W.max x0Smin (W.wrap IntKind.i64 x0Umin)), x0Umax, W.max x0Smin (W.wrap IntKind.i64 x0Umin), W.wrap IntKind.i64 x0Umax, x0Bits_Value, x0Bits_Mask))
            (k (x0Umin, x0Umax, x0Smin, x0Smax, x0Bits_Value, x0Bits_Mask))))
theorem S_clevisref08signs   : SpecOk Try.prog 81 (mkS ps_clevisref08signs qs_clevisref08signs (N_clevisref08signs )) :=
  specOk_mk (fl := 10) (d := 12) base (by rintro R ⟨x0Umin, x0Umax, x0Smin, x0Smax, ⟨x0Bits_Value, x0Bits_Mask⟩⟩ k; kernel_rfl)
noncomputable def F_clevisref08signs : FT ps_clevisref08signs qs_clevisref08signs := N_clevisref08signs  
theorem ok_clevisref08signs : SpecOk Try.prog 81 (mkS ps_clevisref08signs qs_clevisref08signs F_clevisref08signs) := S_clevisref08signs 
abbrev ps_clevisref07of : List PT := [.one (.int .u64), .one (.int .u64)]
abbrev qs_clevisref07of : List PT := [.agg ((.prod (.int .u64) (.int .u64)))]
noncomputable def N_clevisref07of   : FT ps_clevisref07of qs_clevisref07of := fun R x k => match x with
  | (x0, x1) => 
      k (W.wrap IntKind.u64 (W.andNot IntKind.u64 x0 x1), x1)
theorem S_clevisref07of   : SpecOk Try.prog 96 (mkS ps_clevisref07of qs_clevisref07of (N_clevisref07of )) :=
  specOk_mk (fl := 10) (d := 12) base (by rintro R ⟨x0, x1⟩ k; kernel_rfl)
noncomputable def F_clevisref07of : FT ps_clevisref07of qs_clevisref07of := N_clevisref07of  
theorem ok_clevisref07of : SpecOk Try.prog 96 (mkS ps_clevisref07of qs_clevisref07of F_clevisref07of) := S_clevisref07of 
abbrev ps_clevisref07Meet : List PT := [.agg ((.prod (.int .u64) (.int .u64))), .agg ((.prod (.int .u64) (.int .u64)))]
abbrev qs_clevisref07Meet : List PT := [.agg ((.prod (.int .u64) (.int .u64))), .one (.bool)]
noncomputable def N_clevisref07Meet (F_clevisref07of : FT ps_clevisref07of qs_clevisref07of)  : FT ps_clevisref07Meet qs_clevisref07Meet := fun R x k => match x with
  | ((x0Value, x0Mask), (x1Value, x1Mask)) => 
      F_clevisref07of R (W.wrap IntKind.u64 (W.or IntKind.u64 x0Value x1Value), W.wrap IntKind.u64 (W.and IntKind.u64 x0Mask x1Mask)) fun y =>
        k ((y.1, y.2), W.eq (W.wrap IntKind.u64 (W.andNot IntKind.u64 (W.wrap IntKind.u64 (W.xor IntKind.u64 x0Value x1Value)) (W.wrap IntKind.u64 (W.or IntKind.u64 x0Mask x1Mask)))) 0)
theorem S_clevisref07Meet {F_clevisref07of : FT ps_clevisref07of qs_clevisref07of} (h_clevisref07of : SpecOk Try.prog 96 (mkS ps_clevisref07of qs_clevisref07of F_clevisref07of)) : SpecOk Try.prog 82 (mkS ps_clevisref07Meet qs_clevisref07Meet (N_clevisref07Meet F_clevisref07of)) :=
  specOk_mk (fl := 10) (d := 12) (cfgOk_cons base h_clevisref07of) (by rintro R ⟨⟨x0Value, x0Mask⟩, ⟨x1Value, x1Mask⟩⟩ k; kernel_rfl)
noncomputable def F_clevisref07Meet : FT ps_clevisref07Meet qs_clevisref07Meet := N_clevisref07Meet F_clevisref07of 
theorem ok_clevisref07Meet : SpecOk Try.prog 82 (mkS ps_clevisref07Meet qs_clevisref07Meet F_clevisref07Meet) := S_clevisref07Meet ok_clevisref07of
abbrev ps_clevisref07Range : List PT := [.one (.int .u64), .one (.int .u64)]
abbrev qs_clevisref07Range : List PT := [.agg ((.prod (.int .u64) (.int .u64)))]
noncomputable def PL_clevisref07Range_3_0  (fl : Nat)  (R : Type) (k : PTs.D qs_clevisref07Range → Option R) : LoopI R :=
  locate (Cw Try.prog [] noH) fl (call (Cw Try.prog [] noH) fl 11) 0 83 3 [] (getR qs_clevisref07Range k)
noncomputable def P_clevisref07Range_3_0  (fl : Nat)  (n : Nat) (R : Type) (y0 : Int) (y1 : Int) (y2 : Int) (y3 : Int) (y4 : Int) (k : PTs.D qs_clevisref07Range → Option R) : Option R :=
  loopH (PL_clevisref07Range_3_0  fl  R k).body (PL_clevisref07Range_3_0  fl  R k).head n (some (
      S.mk
        [V.int IntKind.u64 y0, V.any, V.any, V.any, V.ptr 0 0, V.int IntKind.u64 y1, V.int IntKind.u64 y2, V.any, V.any, V.any, V.any, V.any, V.any, V.any, V.any, V.any, V.any, V.any, V.any, V.any, V.any,
          V.any]
        [] [Blk.cells [V.int IntKind.u64 y3, V.int IntKind.u64 y4]])) (PL_clevisref07Range_3_0  fl  R k).kont
theorem P_clevisref07Range_3_0_s  (fl : Nat)  (n : Nat) (R : Type) (y0 : Int) (y1 : Int) (y2 : Int) (y3 : Int) (y4 : Int) (k : PTs.D qs_clevisref07Range → Option R) : P_clevisref07Range_3_0  fl  (n + 1) R y0 y1 y2 y3 y4 k =
      br (W.ne y1 0) (P_clevisref07Range_3_0 fl n R y0 (W.wrap IntKind.u64 (W.quo y1 2)) (W.wrap IntKind.u64 (W.add (W.wrap IntKind.u64 (W.mul y2 2)) 1)) y3 y4 k) (k (W.wrap IntKind.u64 (W.andNot IntKind.u64 y0 y2), y2)) := by kernel_rfl
noncomputable def N_clevisref07Range  (fl : Nat) : FT ps_clevisref07Range qs_clevisref07Range := fun R x k => match x with
  | (x0, x1) => 
      P_clevisref07Range_3_0 fl fl R x0 (W.wrap IntKind.u64 (W.xor IntKind.u64 x0 x1)) 0 0 0 k
theorem Q_clevisref07Range  (fl : Nat) (R : Type) (x : PTs.D ps_clevisref07Range) (k : PTs.D qs_clevisref07Range → Option R) : call (Cw Try.prog [] noH) fl 12 83 (encL true ps_clevisref07Range x) [] (getR qs_clevisref07Range k) = N_clevisref07Range  fl R x k := by
  obtain ⟨x0, x1⟩ := x; kernel_rfl
theorem S_clevisref07Range   : SpecOk Try.prog 83 (mkS ps_clevisref07Range qs_clevisref07Range (N_clevisref07Range  W.big)) :=
  specOk_mk (fl := W.big) (d := 12) base (fun R x k => Q_clevisref07Range W.big R x k)
noncomputable def F_clevisref07Range : FT ps_clevisref07Range qs_clevisref07Range := N_clevisref07Range  W.big
theorem ok_clevisref07Range : SpecOk Try.prog 83 (mkS ps_clevisref07Range qs_clevisref07Range F_clevisref07Range) := S_clevisref07Range 
abbrev ps_clevisref08Tidy : List PT := [.agg ((.prod (.int .u64) (.prod (.int .u64) (.prod (.int .i64) (.prod (.int .i64) ((.prod (.int .u64) (.int .u64))))))))]
abbrev qs_clevisref08Tidy : List PT := [.agg ((.prod (.int .u64) (.prod (.int .u64) (.prod (.int .i64) (.prod (.int .i64) ((.prod (.int .u64) (.int .u64)))))))), .one (.bool)]
noncomputable def PL_clevisref08Tidy_2_0 (F_clevisref08bits : FT ps_clevisref08bits qs_clevisref08bits) (F_clevisref08signs : FT ps_clevisref08signs qs_clevisref08signs) (F_clevisref07Meet : FT ps_clevisref07Meet qs_clevisref07Meet) (F_clevisref07Range : FT ps_clevisref07Range qs_clevisref07Range) (fl : Nat)  (R : Type) (k : PTs.D qs_clevisref08Tidy → Option R) : LoopI R :=
  locate (Cw Try.prog [(80, mkS ps_clevisref08bits qs_clevisref08bits F_clevisref08bits), (81, mkS ps_clevisref08signs qs_clevisref08signs F_clevisref08signs), (82, mkS ps_clevisref07Meet qs_clevisref07Meet F_clevisref07Meet), (83, mkS ps_clevisref07Range qs_clevisref07Range F_clevisref07Range)] noH) fl (call (Cw Try.prog [(80, mkS ps_clevisref08bits qs_clevisref08bits F_clevisref08bits), (81, mkS ps_clevisref08signs qs_clevisref08signs F_clevisref08signs), (82, mkS ps_clevisref07Meet qs_clevisref07Meet F_clevisref07Meet), (83, mkS ps_clevisref07Range qs_clevisref07Range F_clevisref07Range)] noH) fl 11) 0 50 2 [] (getR qs_clevisref08Tidy k)
noncomputable def P_clevisref08Tidy_2_0 (F_clevisref08bits : FT ps_clevisref08bits qs_clevisref08bits) (F_clevisref08signs : FT ps_clevisref08signs qs_clevisref08signs) (F_clevisref07Meet : FT ps_clevisref07Meet qs_clevisref07Meet) (F_clevisref07Range : FT ps_clevisref07Range qs_clevisref07Range) (fl : Nat)  (n : Nat) (R : Type) (y0 : Int) (y1 : Int) (y2 : Int) (y3 : Int) (y4 : Int) (y5 : Int) (y6 : Int) (y7 : Int) (y8 : Int) (y9 : Int) (y10 : Int) (y11 : Int) (y12 : Int) (k : PTs.D qs_clevisref08Tidy → Option R) : Option R :=
  loopH (PL_clevisref08Tidy_2_0 F_clevisref08bits F_clevisref08signs F_clevisref07Meet F_clevisref07Range fl  R k).body (PL_clevisref08Tidy_2_0 F_clevisref08bits F_clevisref08signs F_clevisref07Meet F_clevisref07Range fl  R k).head n (some (
      S.mk
        [V.any, V.ptr 0 0, V.ptr 1 0, V.any, V.int IntKind.i64 y0, V.any, V.any, V.any, V.any, V.any, V.any, V.any, V.any, V.any, V.any, V.any, V.any, V.any, V.any, V.any, V.any, V.any, V.any, V.any, V.any,
          V.any, V.any, V.any, V.any, V.any, V.any, V.any, V.any, V.any, V.any, V.any, V.any, V.any, V.any, V.any, V.any, V.any, V.any, V.any, V.any, V.any, V.any, V.any, V.any, V.any, V.any, V.any, V.any,
          V.any, V.any, V.any, V.any, V.any, V.any]
        []
        [Blk.cells [V.int IntKind.u64 y1, V.int IntKind.u64 y2, V.int IntKind.i64 y3, V.int IntKind.i64 y4, V.int IntKind.u64 y5, V.int IntKind.u64 y6],
          Blk.cells [V.int IntKind.u64 y7, V.int IntKind.u64 y8, V.int IntKind.i64 y9, V.int IntKind.i64 y10, V.int IntKind.u64 y11, V.int IntKind.u64 y12]])) (PL_clevisref08Tidy_2_0 F_clevisref08bits F_clevisref08signs F_clevisref07Meet F_clevisref07Range fl  R k).kont
theorem P_clevisref08Tidy_2_0_s {F_clevisref08bits : FT ps_clevisref08bits qs_clevisref08bits} {F_clevisref08signs : FT ps_clevisref08signs qs_clevisref08signs} {F_clevisref07Meet : FT ps_clevisref07Meet qs_clevisref07Meet} {F_clevisref07Range : FT ps_clevisref07Range qs_clevisref07Range} (fl : Nat)  (n : Nat) (R : Type) (y0 : Int) (y1 : Int) (y2 : Int) (y3 : Int) (y4 : Int) (y5 : Int) (y6 : Int) (y7 : Int) (y8 : Int) (y9 : Int) (y10 : Int) (y11 : Int) (y12 : Int) (k : PTs.D qs_clevisref08Tidy → Option R) : P_clevisref08Tidy_2_0 F_clevisref08bits F_clevisref08signs F_clevisref07Meet F_clevisref07Range fl  (n + 1) R y0 y1 y2 y3 y4 y5 y6 y7 y8 y9 y10 y11 y12 k =
      br (W.lt y0 2)
        (F_clevisref08bits R (y1, y2, y3, y4, y5, y6) fun y =>
          br (W.pick (W.gt y.1 y.2.1) true (W.gt y.2.2.1 y.2.2.2.1)) (k ((0, 0, 0, 0, 0, 0), false))
            (F_clevisref08signs R (y.1, y.2.1, y.2.2.1, y.2.2.2.1, y.2.2.2.2.1, y.2.2.2.2.2) fun y =>
              F_clevisref07Range R (y.1, y.2.1) fun y_1 =>
                F_clevisref07Meet R ((y.2.2.2.2.1, y.2.2.2.2.2), y_1.1, y_1.2) fun y_2 =>
                  br (W.pick (W.pick (W.not y_2.2) true (W.gt y.1 y.2.1)) true (W.gt y.2.2.1 y.2.2.2.1)) (k ((0, 0, 0, 0, 0, 0), false))
                    (P_clevisref08Tidy_2_0 F_clevisref08bits F_clevisref08signs F_clevisref07Meet F_clevisref07Range fl n R (W.wrap IntKind.i64 (W.add y0 1)) y.1 y.2.1 y.2.2.1 y.2.2.2.1 y_2.1.1 y_2.1.2 y7 y8 y9 y10
                      y11 y12 k)))
        (k ((y1, y2, y3, y4, y5, y6), true)) := by kernel_rfl
noncomputable def N_clevisref08Tidy (F_clevisref08bits : FT ps_clevisref08bits qs_clevisref08bits) (F_clevisref08signs : FT ps_clevisref08signs qs_clevisref08signs) (F_clevisref07Meet : FT ps_clevisref07Meet qs_clevisref07Meet) (F_clevisref07Range : FT ps_clevisref07Range qs_clevisref07Range) (fl : Nat) : FT ps_clevisref08Tidy qs_clevisref08Tidy := fun R x k => match x with
  | (x0Umin, x0Umax, x0Smin, x0Smax, (x0Bits_Value, x0Bits_Mask)) => 
      P_clevisref08Tidy_2_0 F_clevisref08bits F_clevisref08signs F_clevisref07Meet F_clevisref07Range fl fl R 0 x0Umin x0Umax x0Smin x0Smax x0Bits_Value x0Bits_Mask 0 0 0 0 0 0 k
theorem Q_clevisref08Tidy {F_clevisref08bits : FT ps_clevisref08bits qs_clevisref08bits} {F_clevisref08signs : FT ps_clevisref08signs qs_clevisref08signs} {F_clevisref07Meet : FT ps_clevisref07Meet qs_clevisref07Meet} {F_clevisref07Range : FT ps_clevisref07Range qs_clevisref07Range} (fl : Nat) (R : Type) (x : PTs.D ps_clevisref08Tidy) (k : PTs.D qs_clevisref08Tidy → Option R) : call (Cw Try.prog [(80, mkS ps_clevisref08bits qs_clevisref08bits F_clevisref08bits), (81, mkS ps_clevisref08signs qs_clevisref08signs F_clevisref08signs), (82, mkS ps_clevisref07Meet qs_clevisref07Meet F_clevisref07Meet), (83, mkS ps_clevisref07Range qs_clevisref07Range F_clevisref07Range)] noH) fl 12 50 (encL true ps_clevisref08Tidy x) [] (getR qs_clevisref08Tidy k) = N_clevisref08Tidy F_clevisref08bits F_clevisref08signs F_clevisref07Meet F_clevisref07Range fl R x k := by
  obtain ⟨x0Umin, x0Umax, x0Smin, x0Smax, ⟨x0Bits_Value, x0Bits_Mask⟩⟩ := x; kernel_rfl
theorem S_clevisref08Tidy {F_clevisref08bits : FT ps_clevisref08bits qs_clevisref08bits} {F_clevisref08signs : FT ps_clevisref08signs qs_clevisref08signs} {F_clevisref07Meet : FT ps_clevisref07Meet qs_clevisref07Meet} {F_clevisref07Range : FT ps_clevisref07Range qs_clevisref07Range} (h_clevisref08bits : SpecOk Try.prog 80 (mkS ps_clevisref08bits qs_clevisref08bits F_clevisref08bits)) (h_clevisref08signs : SpecOk Try.prog 81 (mkS ps_clevisref08signs qs_clevisref08signs F_clevisref08signs)) (h_clevisref07Meet : SpecOk Try.prog 82 (mkS ps_clevisref07Meet qs_clevisref07Meet F_clevisref07Meet)) (h_clevisref07Range : SpecOk Try.prog 83 (mkS ps_clevisref07Range qs_clevisref07Range F_clevisref07Range)) : SpecOk Try.prog 50 (mkS ps_clevisref08Tidy qs_clevisref08Tidy (N_clevisref08Tidy F_clevisref08bits F_clevisref08signs F_clevisref07Meet F_clevisref07Range W.big)) :=
  specOk_mk (fl := W.big) (d := 12) (cfgOk_cons (cfgOk_cons (cfgOk_cons (cfgOk_cons base h_clevisref07Range) h_clevisref07Meet) h_clevisref08signs) h_clevisref08bits) (fun R x k => Q_clevisref08Tidy W.big R x k)
noncomputable def F_clevisref08Tidy : FT ps_clevisref08Tidy qs_clevisref08Tidy := N_clevisref08Tidy F_clevisref08bits F_clevisref08signs F_clevisref07Meet F_clevisref07Range W.big
theorem ok_clevisref08Tidy : SpecOk Try.prog 50 (mkS ps_clevisref08Tidy qs_clevisref08Tidy F_clevisref08Tidy) := S_clevisref08Tidy ok_clevisref08bits ok_clevisref08signs ok_clevisref07Meet ok_clevisref07Range
abbrev ps_clevisref09tidy : List PT := [.agg ((.prod (.int .u64) (.prod (.int .u64) (.prod (.int .i64) (.prod (.int .i64) ((.prod (.int .u64) (.int .u64))))))))]
abbrev qs_clevisref09tidy : List PT := [.agg ((.prod (.int .u64) (.prod (.int .u64) (.prod (.int .i64) (.prod (.int .i64) ((.prod (.int .u64) (.int .u64))))))))]
noncomputable def N_clevisref09tidy (F_clevisref08Any : FT ps_clevisref08Any qs_clevisref08Any) (F_clevisref08Tidy : FT ps_clevisref08Tidy qs_clevisref08Tidy)  : FT ps_clevisref09tidy qs_clevisref09tidy := fun R x k => match x with
  | (x0Umin, x0Umax, x0Smin, x0Smax, (x0Bits_Value, x0Bits_Mask)) => 
      F_clevisref08Tidy R (x0Umin, x0Umax, x0Smin, x0Smax, x0Bits_Value, x0Bits_Mask) fun y =>
        br (W.not y.2) (F_clevisref08Any R () fun y => k (y.1, y.2.1, y.2.2.1, y.2.2.2.1, y.2.2.2.2.1, y.2.2.2.2.2)) (k (y.1.1, y.1.2.1, y.1.2.2.1, y.1.2.2.2.1, y.1.2.2.2.2.1, y.1.2.2.2.2.2))
theorem S_clevisref09tidy {F_clevisref08Any : FT ps_clevisref08Any qs_clevisref08Any} {F_clevisref08Tidy : FT ps_clevisref08Tidy qs_clevisref08Tidy} (h_clevisref08Any : SpecOk Try.prog 15 (mkS ps_clevisref08Any qs_clevisref08Any F_clevisref08Any)) (h_clevisref08Tidy : SpecOk Try.prog 50 (mkS ps_clevisref08Tidy qs_clevisref08Tidy F_clevisref08Tidy)) : SpecOk Try.prog 21 (mkS ps_clevisref09tidy qs_clevisref09tidy (N_clevisref09tidy F_clevisref08Any F_clevisref08Tidy)) :=
  specOk_mk (fl := 10) (d := 12) (cfgOk_cons (cfgOk_cons base h_clevisref08Tidy) h_clevisref08Any) (by rintro R ⟨x0Umin, x0Umax, x0Smin, x0Smax, ⟨x0Bits_Value, x0Bits_Mask⟩⟩ k; kernel_rfl)
noncomputable def F_clevisref09tidy : FT ps_clevisref09tidy qs_clevisref09tidy := N_clevisref09tidy F_clevisref08Any F_clevisref08Tidy 
theorem ok_clevisref09tidy : SpecOk Try.prog 21 (mkS ps_clevisref09tidy qs_clevisref09tidy F_clevisref09tidy) := S_clevisref09tidy ok_clevisref08Any ok_clevisref08Tidy
abbrev ps_clevisref07Const : List PT := [.one (.int .u64)]
abbrev qs_clevisref07Const : List PT := [.agg ((.prod (.int .u64) (.int .u64)))]
noncomputable def N_clevisref07Const   : FT ps_clevisref07Const qs_clevisref07Const := fun R x k => match x with
  | x0 => 
      k (x0, 0)
theorem S_clevisref07Const   : SpecOk Try.prog 28 (mkS ps_clevisref07Const qs_clevisref07Const (N_clevisref07Const )) :=
  specOk_mk (fl := 10) (d := 12) base (by intro R x0 k; kernel_rfl)
noncomputable def F_clevisref07Const : FT ps_clevisref07Const qs_clevisref07Const := N_clevisref07Const  
theorem ok_clevisref07Const : SpecOk Try.prog 28 (mkS ps_clevisref07Const qs_clevisref07Const F_clevisref07Const) := S_clevisref07Const 
abbrev ps_clevisref08Const : List PT := [.one (.int .u64)]
abbrev qs_clevisref08Const : List PT := [.agg ((.prod (.int .u64) (.prod (.int .u64) (.prod (.int .i64) (.prod (.int .i64) ((.prod (.int .u64) (.int .u64))))))))]
noncomputable def N_clevisref08Const (F_clevisref07Const : FT ps_clevisref07Const qs_clevisref07Const)  : FT ps_clevisref08Const qs_clevisref08Const := fun R x k => match x with
  | x0 => 
      F_clevisref07Const R x0 fun y => k (x0, x0, W.wrap IntKind.i64 x0, W.wrap IntKind.i64 x0, y.1, y.2)
theorem S_clevisref08Const {F_clevisref07Const : FT ps_clevisref07Const qs_clevisref07Const} (h_clevisref07Const : SpecOk Try.prog 28 (mkS ps_clevisref07Const qs_clevisref07Const F_clevisref07Const)) : SpecOk Try.prog 14 (mkS ps_clevisref08Const qs_clevisref08Const (N_clevisref08Const F_clevisref07Const)) :=
  specOk_mk (fl := 10) (d := 12) (cfgOk_cons base h_clevisref07Const) (by intro R x0 k; kernel_rfl)
noncomputable def F_clevisref08Const : FT ps_clevisref08Const qs_clevisref08Const := N_clevisref08Const F_clevisref07Const 
theorem ok_clevisref08Const : SpecOk Try.prog 14 (mkS ps_clevisref08Const qs_clevisref08Const F_clevisref08Const) := S_clevisref08Const ok_clevisref07Const
abbrev ps_clevisref08Value : List PT := [.agg ((.prod (.int .u64) (.prod (.int .u64) (.prod (.int .i64) (.prod (.int .i64) ((.prod (.int .u64) (.int .u64))))))))]
abbrev qs_clevisref08Value : List PT := [.one (.int .u64), .one (.bool)]
noncomputable def N_clevisref08Value   : FT ps_clevisref08Value qs_clevisref08Value := fun R x k => match x with
  | (x0Umin, x0Umax, x0Smin, x0Smax, (x0Bits_Value, x0Bits_Mask)) => 
      br (W.ne x0Umin x0Umax) (k (0, false)) (k (x0Umin, true))
theorem S_clevisref08Value   : SpecOk Try.prog 52 (mkS ps_clevisref08Value qs_clevisref08Value (N_clevisref08Value )) :=
  specOk_mk (fl := 10) (d := 12) base (by rintro R ⟨x0Umin, x0Umax, x0Smin, x0Smax, ⟨x0Bits_Value, x0Bits_Mask⟩⟩ k; kernel_rfl)
noncomputable def F_clevisref08Value : FT ps_clevisref08Value qs_clevisref08Value := N_clevisref08Value  
theorem ok_clevisref08Value : SpecOk Try.prog 52 (mkS ps_clevisref08Value qs_clevisref08Value F_clevisref08Value) := S_clevisref08Value 
abbrev ps_clevisref07Add : List PT := [.agg ((.prod (.int .u64) (.int .u64))), .agg ((.prod (.int .u64) (.int .u64)))]
abbrev qs_clevisref07Add : List PT := [.agg ((.prod (.int .u64) (.int .u64)))]
noncomputable def N_clevisref07Add (F_clevisref07of : FT ps_clevisref07of qs_clevisref07of)  : FT ps_clevisref07Add qs_clevisref07Add := fun R x k => match x with
  | ((x0Value, x0Mask), (x1Value, x1Mask)) => 
      F_clevisref07of R
        (W.wrap IntKind.u64 (W.add x0Value x1Value),
          W.wrap IntKind.u64
            (W.or IntKind.u64
              (W.wrap IntKind.u64
                (W.or IntKind.u64
                  (W.wrap IntKind.u64
                    (W.xor IntKind.u64 (W.wrap IntKind.u64 (W.add (W.wrap IntKind.u64 (W.add x0Mask x1Mask)) (W.wrap IntKind.u64 (W.add x0Value x1Value))))
                      (W.wrap IntKind.u64 (W.add x0Value x1Value))))
                  x0Mask))
              x1Mask))
        fun y => k (y.1, y.2)
theorem S_clevisref07Add {F_clevisref07of : FT ps_clevisref07of qs_clevisref07of} (h_clevisref07of : SpecOk Try.prog 96 (mkS ps_clevisref07of qs_clevisref07of F_clevisref07of)) : SpecOk Try.prog 86 (mkS ps_clevisref07Add qs_clevisref07Add (N_clevisref07Add F_clevisref07of)) :=
  specOk_mk (fl := 10) (d := 12) (cfgOk_cons base h_clevisref07of) (by rintro R ⟨⟨x0Value, x0Mask⟩, ⟨x1Value, x1Mask⟩⟩ k; kernel_rfl)
noncomputable def F_clevisref07Add : FT ps_clevisref07Add qs_clevisref07Add := N_clevisref07Add F_clevisref07of 
theorem ok_clevisref07Add : SpecOk Try.prog 86 (mkS ps_clevisref07Add qs_clevisref07Add F_clevisref07Add) := S_clevisref07Add ok_clevisref07of
abbrev ps_clevisref09fits : List PT := [.one (.int .i64), .one (.int .i64)]
abbrev qs_clevisref09fits : List PT := [.one (.bool)]
noncomputable def N_clevisref09fits   : FT ps_clevisref09fits qs_clevisref09fits := fun R x k => match x with
  | (x0, x1) => 
      br (W.ge x1 0) (k (W.le x0 (W.wrap IntKind.i64 (W.sub 9223372036854775807 x1)))) (k (W.ge x0 (W.wrap IntKind.i64 (W.sub (-9223372036854775808) x1))))
theorem S_clevisref09fits   : SpecOk Try.prog 87 (mkS ps_clevisref09fits qs_clevisref09fits (N_clevisref09fits )) :=
  specOk_mk (fl := 10) (d := 12) base (by rintro R ⟨x0, x1⟩ k; kernel_rfl)
noncomputable def F_clevisref09fits : FT ps_clevisref09fits qs_clevisref09fits := N_clevisref09fits  
theorem ok_clevisref09fits : SpecOk Try.prog 87 (mkS ps_clevisref09fits qs_clevisref09fits F_clevisref09fits) := S_clevisref09fits 
abbrev ps_clevisref09add : List PT := [.agg ((.prod (.int .u64) (.prod (.int .u64) (.prod (.int .i64) (.prod (.int .i64) ((.prod (.int .u64) (.int .u64)))))))), .agg ((.prod (.int .u64) (.prod (.int .u64) (.prod (.int .i64) (.prod (.int .i64) ((.prod (.int .u64) (.int .u64))))))))]
abbrev qs_clevisref09add : List PT := [.agg ((.prod (.int .u64) (.prod (.int .u64) (.prod (.int .i64) (.prod (.int .i64) ((.prod (.int .u64) (.int .u64))))))))]
noncomputable def N_clevisref09add (F_clevisref08Any : FT ps_clevisref08Any qs_clevisref08Any) (F_clevisref07Add : FT ps_clevisref07Add qs_clevisref07Add) (F_clevisref09fits : FT ps_clevisref09fits qs_clevisref09fits)  : FT ps_clevisref09add qs_clevisref09add := fun R x k => match x with
  | ((x0Umin, x0Umax, x0Smin, x0Smax, (x0Bits_Value, x0Bits_Mask)), (x1Umin, x1Umax, x1Smin, x1Smax, (x1Bits_Value, x1Bits_Mask))) => 
      F_clevisref08Any R () fun y =>
        F_clevisref07Add R ((x0Bits_Value, x0Bits_Mask), x1Bits_Value, x1Bits_Mask) fun y_1 =>
          br (W.le x0Umax (W.wrap IntKind.u64 (W.sub 18446744073709551615 x1Umax)))
            (F_clevisref09fits R (x0Smin, x1Smin) fun y_2 =>
              br y_2
                (F_clevisref09fits R (x0Smax, x1Smax) fun y_3 =>
                  br (W.pick true y_3 false)
                    (k
                      (W.wrap IntKind.u64 (W.add x0Umin x1Umin), W.wrap IntKind.u64 (W.add x0Umax x1Umax), W.wrap IntKind.i64 (W.add x0Smin x1Smin), W.wrap IntKind.i64 (W.add x0Smax x1Smax), y_1.1,
                        y_1.2))
                    (k (W.wrap IntKind.u64 (W.add x0Umin x1Umin), W.wrap IntKind.u64 (W.add x0Umax x1Umax), y.2.2.1, y.2.2.2.1, y_1.1, y_1.2)))
                (k (W.wrap IntKind.u64 (W.add x0Umin x1Umin), W.wrap IntKind.u64 (W.add x0Umax x1Umax), y.2.2.1, y.2.2.2.1, y_1.1, y_1.2)))
            (F_clevisref09fits R (x0Smin, x1Smin) fun y_2 =>
              br y_2
                (F_clevisref09fits R (x0Smax, x1Smax) fun y_3 =>
                  br (W.pick true y_3 false) (k (y.1, y.2.1, W.wrap IntKind.i64 (W.add x0Smin x1Smin), W.wrap IntKind.i64 (W.add x0Smax x1Smax), y_1.1, y_1.2))
                    (k (y.1, y.2.1, y.2.2.1, y.2.2.2.1, y_1.1, y_1.2)))
                (k (y.1, y.2.1, y.2.2.1, y.2.2.2.1, y_1.1, y_1.2)))
theorem S_clevisref09add {F_clevisref08Any : FT ps_clevisref08Any qs_clevisref08Any} {F_clevisref07Add : FT ps_clevisref07Add qs_clevisref07Add} {F_clevisref09fits : FT ps_clevisref09fits qs_clevisref09fits} (h_clevisref08Any : SpecOk Try.prog 15 (mkS ps_clevisref08Any qs_clevisref08Any F_clevisref08Any)) (h_clevisref07Add : SpecOk Try.prog 86 (mkS ps_clevisref07Add qs_clevisref07Add F_clevisref07Add)) (h_clevisref09fits : SpecOk Try.prog 87 (mkS ps_clevisref09fits qs_clevisref09fits F_clevisref09fits)) : SpecOk Try.prog 54 (mkS ps_clevisref09add qs_clevisref09add (N_clevisref09add F_clevisref08Any F_clevisref07Add F_clevisref09fits)) :=
  specOk_mk (fl := 10) (d := 12) (cfgOk_cons (cfgOk_cons (cfgOk_cons base h_clevisref09fits) h_clevisref07Add) h_clevisref08Any) (by rintro R ⟨⟨x0Umin, x0Umax, x0Smin, x0Smax, ⟨x0Bits_Value, x0Bits_Mask⟩⟩, ⟨x1Umin, x1Umax, x1Smin, x1Smax, ⟨x1Bits_Value, x1Bits_Mask⟩⟩⟩ k; kernel_rfl)
noncomputable def F_clevisref09add : FT ps_clevisref09add qs_clevisref09add := N_clevisref09add F_clevisref08Any F_clevisref07Add F_clevisref09fits 
theorem ok_clevisref09add : SpecOk Try.prog 54 (mkS ps_clevisref09add qs_clevisref09add F_clevisref09add) := S_clevisref09add ok_clevisref08Any ok_clevisref07Add ok_clevisref09fits
abbrev ps_clevisref07Sub : List PT := [.agg ((.prod (.int .u64) (.int .u64))), .agg ((.prod (.int .u64) (.int .u64)))]
abbrev qs_clevisref07Sub : List PT := [.agg ((.prod (.int .u64) (.int .u64)))]
noncomputable def N_clevisref07Sub (F_clevisref07of : FT ps_clevisref07of qs_clevisref07of)  : FT ps_clevisref07Sub qs_clevisref07Sub := fun R x k => match x with
  | ((x0Value, x0Mask), (x1Value, x1Mask)) => 
      F_clevisref07of R
        (W.wrap IntKind.u64 (W.sub x0Value x1Value),
          W.wrap IntKind.u64
            (W.or IntKind.u64
              (W.wrap IntKind.u64
                (W.or IntKind.u64
                  (W.wrap IntKind.u64
                    (W.xor IntKind.u64 (W.wrap IntKind.u64 (W.add (W.wrap IntKind.u64 (W.sub x0Value x1Value)) x0Mask))
                      (W.wrap IntKind.u64 (W.sub (W.wrap IntKind.u64 (W.sub x0Value x1Value)) x1Mask))))
                  x0Mask))
              x1Mask))
        fun y => k (y.1, y.2)
theorem S_clevisref07Sub {F_clevisref07of : FT ps_clevisref07of qs_clevisref07of} (h_clevisref07of : SpecOk Try.prog 96 (mkS ps_clevisref07of qs_clevisref07of F_clevisref07of)) : SpecOk Try.prog 88 (mkS ps_clevisref07Sub qs_clevisref07Sub (N_clevisref07Sub F_clevisref07of)) :=
  specOk_mk (fl := 10) (d := 12) (cfgOk_cons base h_clevisref07of) (by rintro R ⟨⟨x0Value, x0Mask⟩, ⟨x1Value, x1Mask⟩⟩ k; kernel_rfl)
noncomputable def F_clevisref07Sub : FT ps_clevisref07Sub qs_clevisref07Sub := N_clevisref07Sub F_clevisref07of 
theorem ok_clevisref07Sub : SpecOk Try.prog 88 (mkS ps_clevisref07Sub qs_clevisref07Sub F_clevisref07Sub) := S_clevisref07Sub ok_clevisref07of
abbrev ps_clevisref09less : List PT := [.one (.int .i64), .one (.int .i64)]
abbrev qs_clevisref09less : List PT := [.one (.bool)]
noncomputable def N_clevisref09less   : FT ps_clevisref09less qs_clevisref09less := fun R x k => match x with
  | (x0, x1) => 
      br (W.ge x1 0) (k (W.ge x0 (W.wrap IntKind.i64 (W.add (-9223372036854775808) x1)))) (k (W.le x0 (W.wrap IntKind.i64 (W.add 9223372036854775807 x1))))
theorem S_clevisref09less   : SpecOk Try.prog 89 (mkS ps_clevisref09less qs_clevisref09less (N_clevisref09less )) :=
  specOk_mk (fl := 10) (d := 12) base (by rintro R ⟨x0, x1⟩ k; kernel_rfl)
noncomputable def F_clevisref09less : FT ps_clevisref09less qs_clevisref09less := N_clevisref09less  
theorem ok_clevisref09less : SpecOk Try.prog 89 (mkS ps_clevisref09less qs_clevisref09less F_clevisref09less) := S_clevisref09less 
abbrev ps_clevisref09sub : List PT := [.agg ((.prod (.int .u64) (.prod (.int .u64) (.prod (.int .i64) (.prod (.int .i64) ((.prod (.int .u64) (.int .u64)))))))), .agg ((.prod (.int .u64) (.prod (.int .u64) (.prod (.int .i64) (.prod (.int .i64) ((.prod (.int .u64) (.int .u64))))))))]
abbrev qs_clevisref09sub : List PT := [.agg ((.prod (.int .u64) (.prod (.int .u64) (.prod (.int .i64) (.prod (.int .i64) ((.prod (.int .u64) (.int .u64))))))))]
noncomputable def N_clevisref09sub (F_clevisref08Any : FT ps_clevisref08Any qs_clevisref08Any) (F_clevisref07Sub : FT ps_clevisref07Sub qs_clevisref07Sub) (F_clevisref09less : FT ps_clevisref09less qs_clevisref09less)  : FT ps_clevisref09sub qs_clevisref09sub := fun R x k => match x with
  | ((x0Umin, x0Umax, x0Smin, x0Smax, (x0Bits_Value, x0Bits_Mask)), (x1Umin, x1Umax, x1Smin, x1Smax, (x1Bits_Value, x1Bits_Mask))) => 
      F_clevisref08Any R () fun y =>
        F_clevisref07Sub R ((x0Bits_Value, x0Bits_Mask), x1Bits_Value, x1Bits_Mask) fun y_1 =>
          br (W.ge x0Umin x1Umax)
            (F_clevisref09less R (x0Smin, x1Smax) fun y_2 =>
              br y_2
                (F_clevisref09less R (x0Smax, x1Smin) fun y_3 =>
                  br (W.pick true y_3 false)
                    (k
                      (W.wrap IntKind.u64 (W.sub x0Umin x1Umax), W.wrap IntKind.u64 (W.sub x0Umax x1Umin), W.wrap IntKind.i64 (W.sub x0Smin x1Smax), W.wrap IntKind.i64 (W.sub x0Smax x1Smin), y_1.1,
                        y_1.2))
                    (k (W.wrap IntKind.u64 (W.sub x0Umin x1Umax), W.wrap IntKind.u64 (W.sub x0Umax x1Umin), y.2.2.1, y.2.2.2.1, y_1.1, y_1.2)))
                (k (W.wrap IntKind.u64 (W.sub x0Umin x1Umax), W.wrap IntKind.u64 (W.sub x0Umax x1Umin), y.2.2.1, y.2.2.2.1, y_1.1, y_1.2)))
            (F_clevisref09less R (x0Smin, x1Smax) fun y_2 =>
              br y_2
                (F_clevisref09less R (x0Smax, x1Smin) fun y_3 =>
                  br (W.pick true y_3 false) (k (y.1, y.2.1, W.wrap IntKind.i64 (W.sub x0Smin x1Smax), W.wrap IntKind.i64 (W.sub x0Smax x1Smin), y_1.1, y_1.2))
                    (k (y.1, y.2.1, y.2.2.1, y.2.2.2.1, y_1.1, y_1.2)))
                (k (y.1, y.2.1, y.2.2.1, y.2.2.2.1, y_1.1, y_1.2)))
theorem S_clevisref09sub {F_clevisref08Any : FT ps_clevisref08Any qs_clevisref08Any} {F_clevisref07Sub : FT ps_clevisref07Sub qs_clevisref07Sub} {F_clevisref09less : FT ps_clevisref09less qs_clevisref09less} (h_clevisref08Any : SpecOk Try.prog 15 (mkS ps_clevisref08Any qs_clevisref08Any F_clevisref08Any)) (h_clevisref07Sub : SpecOk Try.prog 88 (mkS ps_clevisref07Sub qs_clevisref07Sub F_clevisref07Sub)) (h_clevisref09less : SpecOk Try.prog 89 (mkS ps_clevisref09less qs_clevisref09less F_clevisref09less)) : SpecOk Try.prog 55 (mkS ps_clevisref09sub qs_clevisref09sub (N_clevisref09sub F_clevisref08Any F_clevisref07Sub F_clevisref09less)) :=
  specOk_mk (fl := 10) (d := 12) (cfgOk_cons (cfgOk_cons (cfgOk_cons base h_clevisref09less) h_clevisref07Sub) h_clevisref08Any) (by rintro R ⟨⟨x0Umin, x0Umax, x0Smin, x0Smax, ⟨x0Bits_Value, x0Bits_Mask⟩⟩, ⟨x1Umin, x1Umax, x1Smin, x1Smax, ⟨x1Bits_Value, x1Bits_Mask⟩⟩⟩ k; kernel_rfl)
noncomputable def F_clevisref09sub : FT ps_clevisref09sub qs_clevisref09sub := N_clevisref09sub F_clevisref08Any F_clevisref07Sub F_clevisref09less 
theorem ok_clevisref09sub : SpecOk Try.prog 55 (mkS ps_clevisref09sub qs_clevisref09sub F_clevisref09sub) := S_clevisref09sub ok_clevisref08Any ok_clevisref07Sub ok_clevisref09less
abbrev ps_clevisref07Mul : List PT := [.agg ((.prod (.int .u64) (.int .u64))), .agg ((.prod (.int .u64) (.int .u64)))]
abbrev qs_clevisref07Mul : List PT := [.agg ((.prod (.int .u64) (.int .u64)))]
noncomputable def PL_clevisref07Mul_3_0 (F_clevisref07Add : FT ps_clevisref07Add qs_clevisref07Add) (fl : Nat)  (R : Type) (k : PTs.D qs_clevisref07Mul → Option R) : LoopI R :=
  locate (Cw Try.prog [(86, mkS ps_clevisref07Add qs_clevisref07Add F_clevisref07Add)] noH) fl (call (Cw Try.prog [(86, mkS ps_clevisref07Add qs_clevisref07Add F_clevisref07Add)] noH) fl 11) 0 90 3 [] (getR qs_clevisref07Mul k)
noncomputable def P_clevisref07Mul_3_0 (F_clevisref07Add : FT ps_clevisref07Add qs_clevisref07Add) (fl : Nat)  (n : Nat) (R : Type) (y0 : Int) (y1 : Int) (y2 : Int) (y3 : Int) (y4 : Int) (y5 : Int) (y6 : Int) (y7 : Int) (y8 : Int) (k : PTs.D qs_clevisref07Mul → Option R) : Option R :=
  loopH (PL_clevisref07Mul_3_0 F_clevisref07Add fl  R k).body (PL_clevisref07Mul_3_0 F_clevisref07Add fl  R k).head n (some (
      S.mk
        [V.any, V.any, V.ptr 0 0, V.ptr 1 0, V.ptr 2 0, V.int IntKind.u64 y0, V.ptr 3 0, V.any, V.any, V.any, V.any, V.any, V.any, V.any, V.any, V.any, V.any, V.any, V.any, V.any, V.any, V.any, V.any,
          V.any, V.any, V.any, V.any, V.any, V.any, V.any, V.any, V.any, V.any, V.any, V.any, V.any, V.any, V.any, V.any, V.any, V.any, V.any, V.any, V.any, V.any, V.any, V.any, V.any, V.any, V.any, V.any,
          V.any, V.any, V.any, V.any, V.any, V.any, V.any, V.any, V.any]
        []
        [Blk.cells [V.int IntKind.u64 y1, V.int IntKind.u64 y2], Blk.cells [V.int IntKind.u64 y3, V.int IntKind.u64 y4], Blk.cells [V.int IntKind.u64 y5, V.int IntKind.u64 y6],
          Blk.cells [V.int IntKind.u64 y7, V.int IntKind.u64 y8]])) (PL_clevisref07Mul_3_0 F_clevisref07Add fl  R k).kont
theorem P_clevisref07Mul_3_0_s {F_clevisref07Add : FT ps_clevisref07Add qs_clevisref07Add} (fl : Nat)  (n : Nat) (R : Type) (y0 : Int) (y1 : Int) (y2 : Int) (y3 : Int) (y4 : Int) (y5 : Int) (y6 : Int) (y7 : Int) (y8 : Int) (k : PTs.D qs_clevisref07Mul → Option R) : P_clevisref07Mul_3_0 F_clevisref07Add fl  (n + 1) R y0 y1 y2 y3 y4 y5 y6 y7 y8 k =
      br (W.pick (W.ne y1 0) true (W.ne y2 0))
        (br (W.eq (W.rem y1 2) 1)
          (F_clevisref07Add R ((y7, y8), 0, y4) fun y =>
            P_clevisref07Mul_3_0 F_clevisref07Add fl n R y0 (W.wrap IntKind.u64 (W.quo y1 2)) (W.wrap IntKind.u64 (W.quo y2 2)) (W.wrap IntKind.u64 (W.mul y3 2)) (W.wrap IntKind.u64 (W.mul y4 2)) y5 y6 y.1 y.2 k)
          (br (W.eq (W.rem y2 2) 1)
            (F_clevisref07Add R ((y7, y8), 0, W.wrap IntKind.u64 (W.or IntKind.u64 y3 y4)) fun y =>
              P_clevisref07Mul_3_0 F_clevisref07Add fl n R y0 (W.wrap IntKind.u64 (W.quo y1 2)) (W.wrap IntKind.u64 (W.quo y2 2)) (W.wrap IntKind.u64 (W.mul y3 2)) (W.wrap IntKind.u64 (W.mul y4 2)) y5 y6 y.1 y.2 k)
            (P_clevisref07Mul_3_0 F_clevisref07Add fl n R y0 (W.wrap IntKind.u64 (W.quo y1 2)) (W.wrap IntKind.u64 (W.quo y2 2)) (W.wrap IntKind.u64 (W.mul y3 2)) (W.wrap IntKind.u64 (W.mul y4 2)) y5 y6 y7 y8 k)))
        (F_clevisref07Add R ((y0, 0), y7, y8) fun y => k (y.1, y.2)) := by kernel_rfl
noncomputable def N_clevisref07Mul (F_clevisref07Add : FT ps_clevisref07Add qs_clevisref07Add) (fl : Nat) : FT ps_clevisref07Mul qs_clevisref07Mul := fun R x k => match x with
  | ((x0Value, x0Mask), (x1Value, x1Mask)) => 
      P_clevisref07Mul_3_0 F_clevisref07Add fl fl R (W.wrap IntKind.u64 (W.mul x0Value x1Value)) x0Value x0Mask x1Value x1Mask 0 0 0 0 k
theorem Q_clevisref07Mul {F_clevisref07Add : FT ps_clevisref07Add qs_clevisref07Add} (fl : Nat) (R : Type) (x : PTs.D ps_clevisref07Mul) (k : PTs.D qs_clevisref07Mul → Option R) : call (Cw Try.prog [(86, mkS ps_clevisref07Add qs_clevisref07Add F_clevisref07Add)] noH) fl 12 90 (encL true ps_clevisref07Mul x) [] (getR qs_clevisref07Mul k) = N_clevisref07Mul F_clevisref07Add fl R x k := by
  obtain ⟨⟨x0Value, x0Mask⟩, ⟨x1Value, x1Mask⟩⟩ := x; kernel_rfl
theorem S_clevisref07Mul {F_clevisref07Add : FT ps_clevisref07Add qs_clevisref07Add} (h_clevisref07Add : SpecOk Try.prog 86 (mkS ps_clevisref07Add qs_clevisref07Add F_clevisref07Add)) : SpecOk Try.prog 90 (mkS ps_clevisref07Mul qs_clevisref07Mul (N_clevisref07Mul F_clevisref07Add W.big)) :=
  specOk_mk (fl := W.big) (d := 12) (cfgOk_cons base h_clevisref07Add) (fun R x k => Q_clevisref07Mul W.big R x k)
noncomputable def F_clevisref07Mul : FT ps_clevisref07Mul qs_clevisref07Mul := N_clevisref07Mul F_clevisref07Add W.big
theorem ok_clevisref07Mul : SpecOk Try.prog 90 (mkS ps_clevisref07Mul qs_clevisref07Mul F_clevisref07Mul) := S_clevisref07Mul ok_clevisref07Add
abbrev ps_clevisref09parts : List PT := [.one (.int .i64), .agg ((.prod (.int .u64) (.prod (.int .u64) (.prod (.int .i64) (.prod (.int .i64) ((.prod (.int .u64) (.int .u64)))))))), .agg ((.prod (.int .u64) (.prod (.int .u64) (.prod (.int .i64) (.prod (.int .i64) ((.prod (.int .u64) (.int .u64))))))))]
abbrev qs_clevisref09parts : List PT := [.agg ((.prod (.int .u64) (.prod (.int .u64) (.prod (.int .i64) (.prod (.int .i64) ((.prod (.int .u64) (.int .u64))))))))]
noncomputable def N_clevisref09parts (F_clevisref08Any : FT ps_clevisref08Any qs_clevisref08Any) (F_clevisref08Value : FT ps_clevisref08Value qs_clevisref08Value) (F_clevisref07Mul : FT ps_clevisref07Mul qs_clevisref07Mul)  : FT ps_clevisref09parts qs_clevisref09parts := fun R x k => match x with
  | (x0, (x1Umin, x1Umax, x1Smin, x1Smax, (x1Bits_Value, x1Bits_Mask)), (x2Umin, x2Umax, x2Smin, x2Smax, (x2Bits_Value, x2Bits_Mask))) => 
      F_clevisref08Any R () fun y =>
        F_clevisref08Value R (x2Umin, x2Umax, x2Smin, x2Smax, x2Bits_Value, x2Bits_Mask) fun y_1 =>
          br (W.eq x0 32)
            (F_clevisref07Mul R ((x1Bits_Value, x1Bits_Mask), x2Bits_Value, x2Bits_Mask) fun y_2 =>
              br (W.pick (W.le x1Umax 4294967295) (W.le x2Umax 4294967295) false)
                (k (W.wrap IntKind.u64 (W.mul x1Umin x2Umin), W.wrap IntKind.u64 (W.mul x1Umax x2Umax), y.2.2.1, y.2.2.2.1, y_2.1, y_2.2)) (k (y.1, y.2.1, y.2.2.1, y.2.2.2.1, y_2.1, y_2.2)))
            (br (W.eq x0 48)
              (br (W.pick y_1.2 (W.gt y_1.1 0) false)
                (br (W.eq y_1.1 0) none (br (W.eq y_1.1 0) none (k (W.wrap IntKind.u64 (W.quo x1Umin y_1.1), W.wrap IntKind.u64 (W.quo x1Umax y_1.1), y.2.2.1, y.2.2.2.1, y.2.2.2.2.1, y.2.2.2.2.2))))
                (k (y.1, x1Umax, y.2.2.1, y.2.2.2.1, y.2.2.2.2.1, y.2.2.2.2.2)))
              (br (W.eq x0 144)
                (br (W.gt x2Umin 0) (k (y.1, W.min x1Umax (W.wrap IntKind.u64 (W.sub x2Umax 1)), y.2.2.1, y.2.2.2.1, y.2.2.2.2.1, y.2.2.2.2.2))
                  (k (y.1, x1Umax, y.2.2.1, y.2.2.2.1, y.2.2.2.2.1, y.2.2.2.2.2)))
                (k (y.1, y.2.1, y.2.2.1, y.2.2.2.1, y.2.2.2.2.1, y.2.2.2.2.2))))
theorem S_clevisref09parts {F_clevisref08Any : FT ps_clevisref08Any qs_clevisref08Any} {F_clevisref08Value : FT ps_clevisref08Value qs_clevisref08Value} {F_clevisref07Mul : FT ps_clevisref07Mul qs_clevisref07Mul} (h_clevisref08Any : SpecOk Try.prog 15 (mkS ps_clevisref08Any qs_clevisref08Any F_clevisref08Any)) (h_clevisref08Value : SpecOk Try.prog 52 (mkS ps_clevisref08Value qs_clevisref08Value F_clevisref08Value)) (h_clevisref07Mul : SpecOk Try.prog 90 (mkS ps_clevisref07Mul qs_clevisref07Mul F_clevisref07Mul)) : SpecOk Try.prog 56 (mkS ps_clevisref09parts qs_clevisref09parts (N_clevisref09parts F_clevisref08Any F_clevisref08Value F_clevisref07Mul)) :=
  specOk_mk (fl := 10) (d := 12) (cfgOk_cons (cfgOk_cons (cfgOk_cons base h_clevisref07Mul) h_clevisref08Value) h_clevisref08Any) (by rintro R ⟨x0, ⟨x1Umin, x1Umax, x1Smin, x1Smax, ⟨x1Bits_Value, x1Bits_Mask⟩⟩, ⟨x2Umin, x2Umax, x2Smin, x2Smax, ⟨x2Bits_Value, x2Bits_Mask⟩⟩⟩ k; kernel_rfl)
noncomputable def F_clevisref09parts : FT ps_clevisref09parts qs_clevisref09parts := N_clevisref09parts F_clevisref08Any F_clevisref08Value F_clevisref07Mul 
theorem ok_clevisref09parts : SpecOk Try.prog 56 (mkS ps_clevisref09parts qs_clevisref09parts F_clevisref09parts) := S_clevisref09parts ok_clevisref08Any ok_clevisref08Value ok_clevisref07Mul
abbrev ps_clevisref07And : List PT := [.agg ((.prod (.int .u64) (.int .u64))), .agg ((.prod (.int .u64) (.int .u64)))]
abbrev qs_clevisref07And : List PT := [.agg ((.prod (.int .u64) (.int .u64)))]
noncomputable def N_clevisref07And   : FT ps_clevisref07And qs_clevisref07And := fun R x k => match x with
  | ((x0Value, x0Mask), (x1Value, x1Mask)) => 
      k
        (W.wrap IntKind.u64 (W.and IntKind.u64 x0Value x1Value),
          W.wrap IntKind.u64
            (W.andNot IntKind.u64 (W.wrap IntKind.u64 (W.and IntKind.u64 (W.wrap IntKind.u64 (W.or IntKind.u64 x0Value x0Mask)) (W.wrap IntKind.u64 (W.or IntKind.u64 x1Value x1Mask))))
              (W.wrap IntKind.u64 (W.and IntKind.u64 x0Value x1Value))))
theorem S_clevisref07And   : SpecOk Try.prog 91 (mkS ps_clevisref07And qs_clevisref07And (N_clevisref07And )) :=
  specOk_mk (fl := 10) (d := 12) base (by rintro R ⟨⟨x0Value, x0Mask⟩, ⟨x1Value, x1Mask⟩⟩ k; kernel_rfl)
noncomputable def F_clevisref07And : FT ps_clevisref07And qs_clevisref07And := N_clevisref07And  
theorem ok_clevisref07And : SpecOk Try.prog 91 (mkS ps_clevisref07And qs_clevisref07And F_clevisref07And) := S_clevisref07And 
abbrev ps_clevisref07Or : List PT := [.agg ((.prod (.int .u64) (.int .u64))), .agg ((.prod (.int .u64) (.int .u64)))]
abbrev qs_clevisref07Or : List PT := [.agg ((.prod (.int .u64) (.int .u64)))]
noncomputable def N_clevisref07Or   : FT ps_clevisref07Or qs_clevisref07Or := fun R x k => match x with
  | ((x0Value, x0Mask), (x1Value, x1Mask)) => 
      k
        (W.wrap IntKind.u64 (W.or IntKind.u64 x0Value x1Value),
          W.wrap IntKind.u64 (W.andNot IntKind.u64 (W.wrap IntKind.u64 (W.or IntKind.u64 x0Mask x1Mask)) (W.wrap IntKind.u64 (W.or IntKind.u64 x0Value x1Value))))
theorem S_clevisref07Or   : SpecOk Try.prog 92 (mkS ps_clevisref07Or qs_clevisref07Or (N_clevisref07Or )) :=
  specOk_mk (fl := 10) (d := 12) base (by rintro R ⟨⟨x0Value, x0Mask⟩, ⟨x1Value, x1Mask⟩⟩ k; kernel_rfl)
noncomputable def F_clevisref07Or : FT ps_clevisref07Or qs_clevisref07Or := N_clevisref07Or  
theorem ok_clevisref07Or : SpecOk Try.prog 92 (mkS ps_clevisref07Or qs_clevisref07Or F_clevisref07Or) := S_clevisref07Or 
abbrev ps_clevisref07Xor : List PT := [.agg ((.prod (.int .u64) (.int .u64))), .agg ((.prod (.int .u64) (.int .u64)))]
abbrev qs_clevisref07Xor : List PT := [.agg ((.prod (.int .u64) (.int .u64)))]
noncomputable def N_clevisref07Xor (F_clevisref07of : FT ps_clevisref07of qs_clevisref07of)  : FT ps_clevisref07Xor qs_clevisref07Xor := fun R x k => match x with
  | ((x0Value, x0Mask), (x1Value, x1Mask)) => 
      F_clevisref07of R (W.wrap IntKind.u64 (W.xor IntKind.u64 x0Value x1Value), W.wrap IntKind.u64 (W.or IntKind.u64 x0Mask x1Mask)) fun y => k (y.1, y.2)
theorem S_clevisref07Xor {F_clevisref07of : FT ps_clevisref07of qs_clevisref07of} (h_clevisref07of : SpecOk Try.prog 96 (mkS ps_clevisref07of qs_clevisref07of F_clevisref07of)) : SpecOk Try.prog 93 (mkS ps_clevisref07Xor qs_clevisref07Xor (N_clevisref07Xor F_clevisref07of)) :=
  specOk_mk (fl := 10) (d := 12) (cfgOk_cons base h_clevisref07of) (by rintro R ⟨⟨x0Value, x0Mask⟩, ⟨x1Value, x1Mask⟩⟩ k; kernel_rfl)
noncomputable def F_clevisref07Xor : FT ps_clevisref07Xor qs_clevisref07Xor := N_clevisref07Xor F_clevisref07of 
theorem ok_clevisref07Xor : SpecOk Try.prog 93 (mkS ps_clevisref07Xor qs_clevisref07Xor F_clevisref07Xor) := S_clevisref07Xor ok_clevisref07of
abbrev ps_clevisref09bits : List PT := [.one (.int .i64), .agg ((.prod (.int .u64) (.prod (.int .u64) (.prod (.int .i64) (.prod (.int .i64) ((.prod (.int .u64) (.int .u64)))))))), .agg ((.prod (.int .u64) (.prod (.int .u64) (.prod (.int .i64) (.prod (.int .i64) ((.prod (.int .u64) (.int .u64))))))))]
abbrev qs_clevisref09bits : List PT := [.agg ((.prod (.int .u64) (.prod (.int .u64) (.prod (.int .i64) (.prod (.int .i64) ((.prod (.int .u64) (.int .u64))))))))]
noncomputable def N_clevisref09bits (F_clevisref08Any : FT ps_clevisref08Any qs_clevisref08Any) (F_clevisref07And : FT ps_clevisref07And qs_clevisref07And) (F_clevisref07Or : FT ps_clevisref07Or qs_clevisref07Or) (F_clevisref07Xor : FT ps_clevisref07Xor qs_clevisref07Xor)  : FT ps_clevisref09bits qs_clevisref09bits := fun R x k => match x with
  | (x0, (x1Umin, x1Umax, x1Smin, x1Smax, (x1Bits_Value, x1Bits_Mask)), (x2Umin, x2Umax, x2Smin, x2Smax, (x2Bits_Value, x2Bits_Mask))) => 
      F_clevisref08Any R () fun y =>
        br (W.eq x0 80) (F_clevisref07And R ((x1Bits_Value, x1Bits_Mask), x2Bits_Value, x2Bits_Mask) fun y_1 => k (y.1, W.min x1Umax x2Umax, y.2.2.1, y.2.2.2.1, y_1.1, y_1.2))
          (br (W.eq x0 64) (F_clevisref07Or R ((x1Bits_Value, x1Bits_Mask), x2Bits_Value, x2Bits_Mask) fun y_1 => k (W.max x1Umin x2Umin, y.2.1, y.2.2.1, y.2.2.2.1, y_1.1, y_1.2))
            (br (W.eq x0 160) (F_clevisref07Xor R ((x1Bits_Value, x1Bits_Mask), x2Bits_Value, x2Bits_Mask) fun y_1 => k (y.1, y.2.1, y.2.2.1, y.2.2.2.1, y_1.1, y_1.2))
              (k (y.1, y.2.1, y.2.2.1, y.2.2.2.1, y.2.2.2.2.1, y.2.2.2.2.2))))
theorem S_clevisref09bits {F_clevisref08Any : FT ps_clevisref08Any qs_clevisref08Any} {F_clevisref07And : FT ps_clevisref07And qs_clevisref07And} {F_clevisref07Or : FT ps_clevisref07Or qs_clevisref07Or} {F_clevisref07Xor : FT ps_clevisref07Xor qs_clevisref07Xor} (h_clevisref08Any : SpecOk Try.prog 15 (mkS ps_clevisref08Any qs_clevisref08Any F_clevisref08Any)) (h_clevisref07And : SpecOk Try.prog 91 (mkS ps_clevisref07And qs_clevisref07And F_clevisref07And)) (h_clevisref07Or : SpecOk Try.prog 92 (mkS ps_clevisref07Or qs_clevisref07Or F_clevisref07Or)) (h_clevisref07Xor : SpecOk Try.prog 93 (mkS ps_clevisref07Xor qs_clevisref07Xor F_clevisref07Xor)) : SpecOk Try.prog 57 (mkS ps_clevisref09bits qs_clevisref09bits (N_clevisref09bits F_clevisref08Any F_clevisref07And F_clevisref07Or F_clevisref07Xor)) :=
  specOk_mk (fl := 10) (d := 12) (cfgOk_cons (cfgOk_cons (cfgOk_cons (cfgOk_cons base h_clevisref07Xor) h_clevisref07Or) h_clevisref07And) h_clevisref08Any) (by rintro R ⟨x0, ⟨x1Umin, x1Umax, x1Smin, x1Smax, ⟨x1Bits_Value, x1Bits_Mask⟩⟩, ⟨x2Umin, x2Umax, x2Smin, x2Smax, ⟨x2Bits_Value, x2Bits_Mask⟩⟩⟩ k; kernel_rfl)
noncomputable def F_clevisref09bits : FT ps_clevisref09bits qs_clevisref09bits := N_clevisref09bits F_clevisref08Any F_clevisref07And F_clevisref07Or F_clevisref07Xor 
theorem ok_clevisref09bits : SpecOk Try.prog 57 (mkS ps_clevisref09bits qs_clevisref09bits F_clevisref09bits) := S_clevisref09bits ok_clevisref08Any ok_clevisref07And ok_clevisref07Or ok_clevisref07Xor
abbrev ps_clevisref07Shift : List PT := [.one (.int .i64), .agg ((.prod (.int .u64) (.int .u64))), .one (.int .i64)]
abbrev qs_clevisref07Shift : List PT := [.agg ((.prod (.int .u64) (.int .u64)))]
noncomputable def N_clevisref07Shift (F_clevisref01Alu : FT ps_clevisref01Alu qs_clevisref01Alu)  : FT ps_clevisref07Shift qs_clevisref07Shift := fun R x k => match x with
  | (x0, (x1Value, x1Mask), x2) => 
      br (W.pick (W.pick (W.ne x0 96) (W.ne x0 112) false) (W.ne x0 192) false) (k (x1Value, x1Mask))
        (F_clevisref01Alu R (x0, x1Value, W.rem (W.wrap IntKind.u64 x2) 64, true) fun y => F_clevisref01Alu R (x0, x1Mask, W.rem (W.wrap IntKind.u64 x2) 64, true) fun y_1 => k (y.1, y_1.1))
theorem S_clevisref07Shift {F_clevisref01Alu : FT ps_clevisref01Alu qs_clevisref01Alu} (h_clevisref01Alu : SpecOk Try.prog 11 (mkS ps_clevisref01Alu qs_clevisref01Alu F_clevisref01Alu)) : SpecOk Try.prog 94 (mkS ps_clevisref07Shift qs_clevisref07Shift (N_clevisref07Shift F_clevisref01Alu)) :=
  specOk_mk (fl := 10) (d := 12) (cfgOk_cons base h_clevisref01Alu) (by rintro R ⟨x0, ⟨x1Value, x1Mask⟩, x2⟩ k; kernel_rfl)
noncomputable def F_clevisref07Shift : FT ps_clevisref07Shift qs_clevisref07Shift := N_clevisref07Shift F_clevisref01Alu 
theorem ok_clevisref07Shift : SpecOk Try.prog 94 (mkS ps_clevisref07Shift qs_clevisref07Shift F_clevisref07Shift) := S_clevisref07Shift ok_clevisref01Alu
abbrev ps_clevisref09shift : List PT := [.one (.int .i64), .agg ((.prod (.int .u64) (.prod (.int .u64) (.prod (.int .i64) (.prod (.int .i64) ((.prod (.int .u64) (.int .u64)))))))), .one (.int .u64)]
abbrev qs_clevisref09shift : List PT := [.agg ((.prod (.int .u64) (.prod (.int .u64) (.prod (.int .i64) (.prod (.int .i64) ((.prod (.int .u64) (.int .u64))))))))]
noncomputable def N_clevisref09shift (F_clevisref01Alu : FT ps_clevisref01Alu qs_clevisref01Alu) (F_clevisref08Any : FT ps_clevisref08Any qs_clevisref08Any) (F_clevisref07Shift : FT ps_clevisref07Shift qs_clevisref07Shift)  : FT ps_clevisref09shift qs_clevisref09shift := fun R x k => match x with
  | (x0, (x1Umin, x1Umax, x1Smin, x1Smax, (x1Bits_Value, x1Bits_Mask)), x2) => 
      F_clevisref08Any R () fun y =>
        F_clevisref07Shift R (x0, (x1Bits_Value, x1Bits_Mask), W.wrap IntKind.i64 x2) fun y_1 =>
          F_clevisref01Alu R (x0, x1Umin, x2, true) fun y_2 =>
            F_clevisref01Alu R (x0, x1Umax, x2, true) fun y_3 =>
              br (W.eq x0 96) (br (W.le x1Umax (W.shr IntKind.u64 18446744073709551615 x2)) (k (y_2.1, y_3.1, y.2.2.1, y.2.2.2.1, y_1.1, y_1.2)) (k (y.1, y.2.1, y.2.2.1, y.2.2.2.1, y_1.1, y_1.2)))
                (br (W.eq x0 112) (k (y_2.1, y_3.1, y.2.2.1, y.2.2.2.1, y_1.1, y_1.2))
                  (br (W.eq x0 192) (k (y.1, y.2.1, W.shr IntKind.i64 x1Smin x2, W.shr IntKind.i64 x1Smax x2, y_1.1, y_1.2)) (k (y.1, y.2.1, y.2.2.1, y.2.2.2.1, y_1.1, y_1.2))))
theorem S_clevisref09shift {F_clevisref01Alu : FT ps_clevisref01Alu qs_clevisref01Alu} {F_clevisref08Any : FT ps_clevisref08Any qs_clevisref08Any} {F_clevisref07Shift : FT ps_clevisref07Shift qs_clevisref07Shift} (h_clevisref01Alu : SpecOk Try.prog 11 (mkS ps_clevisref01Alu qs_clevisref01Alu F_clevisref01Alu)) (h_clevisref08Any : SpecOk Try.prog 15 (mkS ps_clevisref08Any qs_clevisref08Any F_clevisref08Any)) (h_clevisref07Shift : SpecOk Try.prog 94 (mkS ps_clevisref07Shift qs_clevisref07Shift F_clevisref07Shift)) : SpecOk Try.prog 58 (mkS ps_clevisref09shift qs_clevisref09shift (N_clevisref09shift F_clevisref01Alu F_clevisref08Any F_clevisref07Shift)) :=
  specOk_mk (fl := 10) (d := 12) (cfgOk_cons (cfgOk_cons (cfgOk_cons base h_clevisref07Shift) h_clevisref08Any) h_clevisref01Alu) (by rintro R ⟨x0, ⟨x1Umin, x1Umax, x1Smin, x1Smax, ⟨x1Bits_Value, x1Bits_Mask⟩⟩, x2⟩ k; kernel_rfl)
noncomputable def F_clevisref09shift : FT ps_clevisref09shift qs_clevisref09shift := N_clevisref09shift F_clevisref01Alu F_clevisref08Any F_clevisref07Shift 
theorem ok_clevisref09shift : SpecOk Try.prog 58 (mkS ps_clevisref09shift qs_clevisref09shift F_clevisref09shift) := S_clevisref09shift ok_clevisref01Alu ok_clevisref08Any ok_clevisref07Shift
abbrev ps_clevisref09wide : List PT := [.one (.int .i64), .agg ((.prod (.int .u64) (.prod (.int .u64) (.prod (.int .i64) (.prod (.int .i64) ((.prod (.int .u64) (.int .u64)))))))), .agg ((.prod (.int .u64) (.prod (.int .u64) (.prod (.int .i64) (.prod (.int .i64) ((.prod (.int .u64) (.int .u64))))))))]
abbrev qs_clevisref09wide : List PT := [.agg ((.prod (.int .u64) (.prod (.int .u64) (.prod (.int .i64) (.prod (.int .i64) ((.prod (.int .u64) (.int .u64))))))))]
noncomputable def N_clevisref09wide (F_clevisref08Any : FT ps_clevisref08Any qs_clevisref08Any) (F_clevisref08Const : FT ps_clevisref08Const qs_clevisref08Const) (F_clevisref08Value : FT ps_clevisref08Value qs_clevisref08Value) (F_clevisref09add : FT ps_clevisref09add qs_clevisref09add) (F_clevisref09sub : FT ps_clevisref09sub qs_clevisref09sub) (F_clevisref09parts : FT ps_clevisref09parts qs_clevisref09parts) (F_clevisref09bits : FT ps_clevisref09bits qs_clevisref09bits) (F_clevisref09shift : FT ps_clevisref09shift qs_clevisref09shift)  : FT ps_clevisref09wide qs_clevisref09wide := fun R x k => match x with
  | (x0, (x1Umin, x1Umax, x1Smin, x1Smax, (x1Bits_Value, x1Bits_Mask)), (x2Umin, x2Umax, x2Smin, x2Smax, (x2Bits_Value, x2Bits_Mask))) => 
      F_clevisref08Value R (x2Umin, x2Umax, x2Smin, x2Smax, x2Bits_Value, x2Bits_Mask) fun y =>
        br (W.eq x0 0)
          (F_clevisref09add R ((x1Umin, x1Umax, x1Smin, x1Smax, x1Bits_Value, x1Bits_Mask), x2Umin, x2Umax, x2Smin, x2Smax, x2Bits_Value, x2Bits_Mask) fun y =>
            k (y.1, y.2.1, y.2.2.1, y.2.2.2.1, y.2.2.2.2.1, y.2.2.2.2.2))
          (br (W.eq x0 16)
            (F_clevisref09sub R ((x1Umin, x1Umax, x1Smin, x1Smax, x1Bits_Value, x1Bits_Mask), x2Umin, x2Umax, x2Smin, x2Smax, x2Bits_Value, x2Bits_Mask) fun y =>
              k (y.1, y.2.1, y.2.2.1, y.2.2.2.1, y.2.2.2.2.1, y.2.2.2.2.2))
            (br (W.eq x0 128)
              (F_clevisref08Const R 0 fun y =>
                F_clevisref09sub R ((y.1, y.2.1, y.2.2.1, y.2.2.2.1, y.2.2.2.2.1, y.2.2.2.2.2), x1Umin, x1Umax, x1Smin, x1Smax, x1Bits_Value, x1Bits_Mask) fun y =>
                  k (y.1, y.2.1, y.2.2.1, y.2.2.2.1, y.2.2.2.2.1, y.2.2.2.2.2))
              (br (W.eq x0 176) (k (x2Umin, x2Umax, x2Smin, x2Smax, x2Bits_Value, x2Bits_Mask))
                (br (W.eq x0 32)
                  (br (W.eq x0 32)
                    (F_clevisref09parts R (x0, (x1Umin, x1Umax, x1Smin, x1Smax, x1Bits_Value, x1Bits_Mask), x2Umin, x2Umax, x2Smin, x2Smax, x2Bits_Value, x2Bits_Mask) fun y =>
                      k (y.1, y.2.1, y.2.2.1, y.2.2.2.1, y.2.2.2.2.1, y.2.2.2.2.2))
                    (br (W.eq x0 80)
                      (br (W.eq x0 80)
                        (F_clevisref09bits R (x0, (x1Umin, x1Umax, x1Smin, x1Smax, x1Bits_Value, x1Bits_Mask), x2Umin, x2Umax, x2Smin, x2Smax, x2Bits_Value, x2Bits_Mask) fun y =>
                          k (y.1, y.2.1, y.2.2.1, y.2.2.2.1, y.2.2.2.2.1, y.2.2.2.2.2))
                        (br y.2
                          (F_clevisref09shift R (x0, (x1Umin, x1Umax, x1Smin, x1Smax, x1Bits_Value, x1Bits_Mask), W.rem y.1 64) fun y => k (y.1, y.2.1, y.2.2.1, y.2.2.2.1, y.2.2.2.2.1, y.2.2.2.2.2))
                          (F_clevisref08Any R () fun y =>
                            br (W.eq x0 112) (k (y.1, x1Umax, y.2.2.1, y.2.2.2.1, y.2.2.2.2.1, y.2.2.2.2.2)) (k (y.1, y.2.1, y.2.2.1, y.2.2.2.1, y.2.2.2.2.1, y.2.2.2.2.2)))))
                      (br (W.eq x0 64)
                        (br (W.eq x0 64)
                          (F_clevisref09bits R (x0, (x1Umin, x1Umax, x1Smin, x1Smax, x1Bits_Value, x1Bits_Mask), x2Umin, x2Umax, x2Smin, x2Smax, x2Bits_Value, x2Bits_Mask) fun y =>
                            k (y.1, y.2.1, y.2.2.1, y.2.2.2.1, y.2.2.2.2.1, y.2.2.2.2.2))
                          (br y.2
                            (F_clevisref09shift R (x0, (x1Umin, x1Umax, x1Smin, x1Smax, x1Bits_Value, x1Bits_Mask), W.rem y.1 64) fun y =>
                              k (y.1, y.2.1, y.2.2.1, y.2.2.2.1, y.2.2.2.2.1, y.2.2.2.2.2))
                            (F_clevisref08Any R () fun y =>
                              br (W.eq x0 112) (k (y.1, x1Umax, y.2.2.1, y.2.2.2.1, y.2.2.2.2.1, y.2.2.2.2.2)) (k (y.1, y.2.1, y.2.2.1, y.2.2.2.1, y.2.2.2.2.1, y.2.2.2.2.2)))))
                        (br (W.eq x0 160)
                          (F_clevisref09bits R (x0, (x1Umin, x1Umax, x1Smin, x1Smax, x1Bits_Value, x1Bits_Mask), x2Umin, x2Umax, x2Smin, x2Smax, x2Bits_Value, x2Bits_Mask) fun y =>
                            k (y.1, y.2.1, y.2.2.1, y.2.2.2.1, y.2.2.2.2.1, y.2.2.2.2.2))
                          (br y.2
                            (F_clevisref09shift R (x0, (x1Umin, x1Umax, x1Smin, x1Smax, x1Bits_Value, x1Bits_Mask), W.rem y.1 64) fun y =>
                              k (y.1, y.2.1, y.2.2.1, y.2.2.2.1, y.2.2.2.2.1, y.2.2.2.2.2))
                            (F_clevisref08Any R () fun y =>
                              br (W.eq x0 112) (k (y.1, x1Umax, y.2.2.1, y.2.2.2.1, y.2.2.2.2.1, y.2.2.2.2.2)) (k (y.1, y.2.1, y.2.2.1, y.2.2.2.1, y.2.2.2.2.1, y.2.2.2.2.2))))))))
                  (br (W.eq x0 48)
                    (br (W.eq x0 48)
                      (F_clevisref09parts R (x0, (x1Umin, x1Umax, x1Smin, x1Smax, x1Bits_Value, x1Bits_Mask), x2Umin, x2Umax, x2Smin, x2Smax, x2Bits_Value, x2Bits_Mask) fun y =>
                        k (y.1, y.2.1, y.2.2.1, y.2.2.2.1, y.2.2.2.2.1, y.2.2.2.2.2))
                      (br (W.eq x0 80)
                        (br (W.eq x0 80)
                          (F_clevisref09bits R (x0, (x1Umin, x1Umax, x1Smin, x1Smax, x1Bits_Value, x1Bits_Mask), x2Umin, x2Umax, x2Smin, x2Smax, x2Bits_Value, x2Bits_Mask) fun y =>
                            k (y.1, y.2.1, y.2.2.1, y.2.2.2.1, y.2.2.2.2.1, y.2.2.2.2.2))
                          (br y.2
                            (F_clevisref09shift R (x0, (x1Umin, x1Umax, x1Smin, x1Smax, x1Bits_Value, x1Bits_Mask), W.rem y.1 64) fun y =>
                              k (y.1, y.2.1, y.2.2.1, y.2.2.2.1, y.2.2.2.2.1, y.2.2.2.2.2))
                            (F_clevisref08Any R () fun y =>
                              br (W.eq x0 112) (k (y.1, x1Umax, y.2.2.1, y.2.2.2.1, y.2.2.2.2.1, y.2.2.2.2.2)) (k (y.1, y.2.1, y.2.2.1, y.2.2.2.1, y.2.2.2.2.1, y.2.2.2.2.2)))))
                        (br (W.eq x0 64)
                          (br (W.eq x0 64)
                            (F_clevisref09bits R (x0, (x1Umin, x1Umax, x1Smin, x1Smax, x1Bits_Value, x1Bits_Mask), x2Umin, x2Umax, x2Smin, x2Smax, x2Bits_Value, x2Bits_Mask) fun y =>
                              k (y.1, y.2.1, y.2.2.1, y.2.2.2.1, y.2.2.2.2.1, y.2.2.2.2.2))
                            (br y.2
                              (F_clevisref09shift R (x0, (x1Umin, x1Umax, x1Smin, x1Smax, x1Bits_Value, x1Bits_Mask), W.rem y.1 64) fun y =>
                                k (y.1, y.2.1, y.2.2.1, y.2.2.2.1, y.2.2.2.2.1, y.2.2.2.2.2))
                              (F_clevisref08Any R () fun y =>
                                br (W.eq x0 112) (k (y.1, x1Umax, y.2.2.1, y.2.2.2.1, y.2.2.2.2.1, y.2.2.2.2.2)) (k (y.1, y.2.1, y.2.2.1, y.2.2.2.1, y.2.2.2.2.1, y.2.2.2.2.2)))))
                          (br (W.eq x0 160)
                            (F_clevisref09bits R (x0, (x1Umin, x1Umax, x1Smin, x1Smax, x1Bits_Value, x1Bits_Mask), x2Umin, x2Umax, x2Smin, x2Smax, x2Bits_Value, x2Bits_Mask) fun y =>
                              k (y.1, y.2.1, y.2.2.1, y.2.2.2.1, y.2.2.2.2.1, y.2.2.2.2.2))
                            (br y.2
                              (F_clevisref09shift R (x0, (x1Umin, x1Umax, x1Smin, x1Smax, x1Bits_Value, x1Bits_Mask), W.rem y.1 64) fun y =>
                                k (y.1, y.2.1, y.2.2.1, y.2.2.2.1, y.2.2.2.2.1, y.2.2.2.2.2))
                              (F_clevisref08Any R () fun y =>
                                br (W.eq x0 112) (k (y.1, x1Umax, y.2.2.1, y.2.2.2.1, y.2.2.2.2.1, y.2.2.2.2.2)) (k (y.1, y.2.1, y.2.2.1, y.2.2.2.1, y.2.2.2.2.1, y.2.2.2.2.2))))))))
                    (br (W.eq x0 144)
                      (F_clevisref09parts R (x0, (x1Umin, x1Umax, x1Smin, x1Smax, x1Bits_Value, x1Bits_Mask), x2Umin, x2Umax, x2Smin, x2Smax, x2Bits_Value, x2Bits_Mask) fun y =>
                        k (y.1, y.2.1, y.2.2.1, y.2.2.2.1, y.2.2.2.2.1, y.2.2.2.2.2))
                      (br (W.eq x0 80)
                        (br (W.eq x0 80)
                          (F_clevisref09bits R (x0, (x1Umin, x1Umax, x1Smin, x1Smax, x1Bits_Value, x1Bits_Mask), x2Umin, x2Umax, x2Smin, x2Smax, x2Bits_Value, x2Bits_Mask) fun y =>
                            k (y.1, y.2.1, y.2.2.1, y.2.2.2.1, y.2.2.2.2.1, y.2.2.2.2.2))
                          (br y.2
                            (F_clevisref09shift R (x0, (x1Umin, x1Umax, x1Smin, x1Smax, x1Bits_Value, x1Bits_Mask), W.rem y.1 64) fun y =>
                              k (y.1, y.2.1, y.2.2.1, y.2.2.2.1, y.2.2.2.2.1, y.2.2.2.2.2))
                            (F_clevisref08Any R () fun y =>
                              br (W.eq x0 112) (k (y.1, x1Umax, y.2.2.1, y.2.2.2.1, y.2.2.2.2.1, y.2.2.2.2.2)) (k (y.1, y.2.1, y.2.2.1, y.2.2.2.1, y.2.2.2.2.1, y.2.2.2.2.2)))))
                        (br (W.eq x0 64)
                          (br (W.eq x0 64)
                            (F_clevisref09bits R (x0, (x1Umin, x1Umax, x1Smin, x1Smax, x1Bits_Value, x1Bits_Mask), x2Umin, x2Umax, x2Smin, x2Smax, x2Bits_Value, x2Bits_Mask) fun y =>
                              k (y.1, y.2.1, y.2.2.1, y.2.2.2.1, y.2.2.2.2.1, y.2.2.2.2.2))
                            (br y.2
                              (F_clevisref09shift R (x0, (x1Umin, x1Umax, x1Smin, x1Smax, x1Bits_Value, x1Bits_Mask), W.rem y.1 64) fun y =>
                                k (y.1, y.2.1, y.2.2.1, y.2.2.2.1, y.2.2.2.2.1, y.2.2.2.2.2))
                              (F_clevisref08Any R () fun y =>
                                br (W.eq x0 112) (k (y.1, x1Umax, y.2.2.1, y.2.2.2.1, y.2.2.2.2.1, y.2.2.2.2.2)) (k (y.1, y.2.1, y.2.2.1, y.2.2.2.1, y.2.2.2.2.1, y.2.2.2.2.2)))))
                          (br (W.eq x0 160)
                            (F_clevisref09bits R (x0, (x1Umin, x1Umax, x1Smin, x1Smax, x1Bits_Value, x1Bits_Mask), x2Umin, x2Umax, x2Smin, x2Smax, x2Bits_Value, x2Bits_Mask) fun y =>
                              k (y.1, y.2.1, y.2.2.1, y.2.2.2.1, y.2.2.2.2.1, y.2.2.2.2.2))
                            (br y.2
                              (F_clevisref09shift R (x0, (x1Umin, x1Umax, x1Smin, x1Smax, x1Bits_Value, x1Bits_Mask), W.rem y.1 64) fun y =>
                                k (y.1, y.2.1, y.2.2.1, y.2.2.2.1, y.2.2.2.2.1, y.2.2.2.2.2))
                              (F_clevisref08Any R () fun y =>
                                br (W.eq x0 112) (k (y.1, x1Umax, y.2.2.1, y.2.2.2.1, y.2.2.2.2.1, y.2.2.2.2.2)) (k (y.1, y.2.1, y.2.2.1, y.2.2.2.1, y.2.2.2.2.1, y.2.2.2.2.2)))))))))))))
theorem S_clevisref09wide {F_clevisref08Any : FT ps_clevisref08Any qs_clevisref08Any} {F_clevisref08Const : FT ps_clevisref08Const qs_clevisref08Const} {F_clevisref08Value : FT ps_clevisref08Value qs_clevisref08Value} {F_clevisref09add : FT ps_clevisref09add qs_clevisref09add} {F_clevisref09sub : FT ps_clevisref09sub qs_clevisref09sub} {F_clevisref09parts : FT ps_clevisref09parts qs_clevisref09parts} {F_clevisref09bits : FT ps_clevisref09bits qs_clevisref09bits} {F_clevisref09shift : FT ps_clevisref09shift qs_clevisref09shift} (h_clevisref08Any : SpecOk Try.prog 15 (mkS ps_clevisref08Any qs_clevisref08Any F_clevisref08Any)) (h_clevisref08Const : SpecOk Try.prog 14 (mkS ps_clevisref08Const qs_clevisref08Const F_clevisref08Const)) (h_clevisref08Value : SpecOk Try.prog 52 (mkS ps_clevisref08Value qs_clevisref08Value F_clevisref08Value)) (h_clevisref09add : SpecOk Try.prog 54 (mkS ps_clevisref09add qs_clevisref09add F_clevisref09add)) (h_clevisref09sub : SpecOk Try.prog 55 (mkS ps_clevisref09sub qs_clevisref09sub F_clevisref09sub)) (h_clevisref09parts : SpecOk Try.prog 56 (mkS ps_clevisref09parts qs_clevisref09parts F_clevisref09parts)) (h_clevisref09bits : SpecOk Try.prog 57 (mkS ps_clevisref09bits qs_clevisref09bits F_clevisref09bits)) (h_clevisref09shift : SpecOk Try.prog 58 (mkS ps_clevisref09shift qs_clevisref09shift F_clevisref09shift)) : SpecOk Try.prog 23 (mkS ps_clevisref09wide qs_clevisref09wide (N_clevisref09wide F_clevisref08Any F_clevisref08Const F_clevisref08Value F_clevisref09add F_clevisref09sub F_clevisref09parts F_clevisref09bits F_clevisref09shift)) :=
  specOk_mk (fl := 10) (d := 12) (cfgOk_cons (cfgOk_cons (cfgOk_cons (cfgOk_cons (cfgOk_cons (cfgOk_cons (cfgOk_cons (cfgOk_cons base h_clevisref09shift) h_clevisref09bits) h_clevisref09parts) h_clevisref09sub) h_clevisref09add) h_clevisref08Value) h_clevisref08Const) h_clevisref08Any) (by rintro R ⟨x0, ⟨x1Umin, x1Umax, x1Smin, x1Smax, ⟨x1Bits_Value, x1Bits_Mask⟩⟩, ⟨x2Umin, x2Umax, x2Smin, x2Smax, ⟨x2Bits_Value, x2Bits_Mask⟩⟩⟩ k; kernel_rfl)
noncomputable def F_clevisref09wide : FT ps_clevisref09wide qs_clevisref09wide := N_clevisref09wide F_clevisref08Any F_clevisref08Const F_clevisref08Value F_clevisref09add F_clevisref09sub F_clevisref09parts F_clevisref09bits F_clevisref09shift 
theorem ok_clevisref09wide : SpecOk Try.prog 23 (mkS ps_clevisref09wide qs_clevisref09wide F_clevisref09wide) := S_clevisref09wide ok_clevisref08Any ok_clevisref08Const ok_clevisref08Value ok_clevisref09add ok_clevisref09sub ok_clevisref09parts ok_clevisref09bits ok_clevisref09shift
abbrev ps_clevisref08upto : List PT := [.one (.int .u64)]
abbrev qs_clevisref08upto : List PT := [.agg ((.prod (.int .u64) (.prod (.int .u64) (.prod (.int .i64) (.prod (.int .i64) ((.prod (.int .u64) (.int .u64))))))))]
noncomputable def N_clevisref08upto   : FT ps_clevisref08upto qs_clevisref08upto := fun R x k => match x with
  | x0 => 
      k (0, x0, 0, W.wrap IntKind.i64 x0, 0, x0)
theorem S_clevisref08upto   : SpecOk Try.prog 84 (mkS ps_clevisref08upto qs_clevisref08upto (N_clevisref08upto )) :=
  specOk_mk (fl := 10) (d := 12) base (by intro R x0 k; kernel_rfl)
noncomputable def F_clevisref08upto : FT ps_clevisref08upto qs_clevisref08upto := N_clevisref08upto  
theorem ok_clevisref08upto : SpecOk Try.prog 84 (mkS ps_clevisref08upto qs_clevisref08upto F_clevisref08upto) := S_clevisref08upto 
abbrev ps_clevisref08Size : List PT := [.one (.int .i64)]
abbrev qs_clevisref08Size : List PT := [.agg ((.prod (.int .u64) (.prod (.int .u64) (.prod (.int .i64) (.prod (.int .i64) ((.prod (.int .u64) (.int .u64))))))))]
noncomputable def N_clevisref08Size (F_clevisref08Any : FT ps_clevisref08Any qs_clevisref08Any) (F_clevisref08upto : FT ps_clevisref08upto qs_clevisref08upto)  : FT ps_clevisref08Size qs_clevisref08Size := fun R x k => match x with
  | x0 => 
      br (W.eq x0 1) (F_clevisref08upto R 255 fun y => k (y.1, y.2.1, y.2.2.1, y.2.2.2.1, y.2.2.2.2.1, y.2.2.2.2.2))
        (br (W.eq x0 2) (F_clevisref08upto R 65535 fun y => k (y.1, y.2.1, y.2.2.1, y.2.2.2.1, y.2.2.2.2.1, y.2.2.2.2.2))
          (br (W.eq x0 4) (F_clevisref08upto R 4294967295 fun y => k (y.1, y.2.1, y.2.2.1, y.2.2.2.1, y.2.2.2.2.1, y.2.2.2.2.2))
            (F_clevisref08Any R () fun y => k (y.1, y.2.1, y.2.2.1, y.2.2.2.1, y.2.2.2.2.1, y.2.2.2.2.2))))
theorem S_clevisref08Size {F_clevisref08Any : FT ps_clevisref08Any qs_clevisref08Any} {F_clevisref08upto : FT ps_clevisref08upto qs_clevisref08upto} (h_clevisref08Any : SpecOk Try.prog 15 (mkS ps_clevisref08Any qs_clevisref08Any F_clevisref08Any)) (h_clevisref08upto : SpecOk Try.prog 84 (mkS ps_clevisref08upto qs_clevisref08upto F_clevisref08upto)) : SpecOk Try.prog 53 (mkS ps_clevisref08Size qs_clevisref08Size (N_clevisref08Size F_clevisref08Any F_clevisref08upto)) :=
  specOk_mk (fl := 10) (d := 12) (cfgOk_cons (cfgOk_cons base h_clevisref08upto) h_clevisref08Any) (by intro R x0 k; kernel_rfl)
noncomputable def F_clevisref08Size : FT ps_clevisref08Size qs_clevisref08Size := N_clevisref08Size F_clevisref08Any F_clevisref08upto 
theorem ok_clevisref08Size : SpecOk Try.prog 53 (mkS ps_clevisref08Size qs_clevisref08Size F_clevisref08Size) := S_clevisref08Size ok_clevisref08Any ok_clevisref08upto
abbrev ps_clevisref07Low : List PT := [.agg ((.prod (.int .u64) (.int .u64)))]
abbrev qs_clevisref07Low : List PT := [.agg ((.prod (.int .u64) (.int .u64)))]
noncomputable def N_clevisref07Low   : FT ps_clevisref07Low qs_clevisref07Low := fun R x k => match x with
  | (x0Value, x0Mask) => 
      k (W.wrap IntKind.u64 (W.and IntKind.u64 x0Value 4294967295), W.wrap IntKind.u64 (W.and IntKind.u64 x0Mask 4294967295))
theorem S_clevisref07Low   : SpecOk Try.prog 85 (mkS ps_clevisref07Low qs_clevisref07Low (N_clevisref07Low )) :=
  specOk_mk (fl := 10) (d := 12) base (by rintro R ⟨x0Value, x0Mask⟩ k; kernel_rfl)
noncomputable def F_clevisref07Low : FT ps_clevisref07Low qs_clevisref07Low := N_clevisref07Low  
theorem ok_clevisref07Low : SpecOk Try.prog 85 (mkS ps_clevisref07Low qs_clevisref07Low F_clevisref07Low) := S_clevisref07Low 
abbrev ps_clevisref08Low : List PT := [.agg ((.prod (.int .u64) (.prod (.int .u64) (.prod (.int .i64) (.prod (.int .i64) ((.prod (.int .u64) (.int .u64))))))))]
abbrev qs_clevisref08Low : List PT := [.agg ((.prod (.int .u64) (.prod (.int .u64) (.prod (.int .i64) (.prod (.int .i64) ((.prod (.int .u64) (.int .u64))))))))]
noncomputable def N_clevisref08Low (F_clevisref08Tidy : FT ps_clevisref08Tidy qs_clevisref08Tidy) (F_clevisref08upto : FT ps_clevisref08upto qs_clevisref08upto) (F_clevisref08Size : FT ps_clevisref08Size qs_clevisref08Size) (F_clevisref07Low : FT ps_clevisref07Low qs_clevisref07Low)  : FT ps_clevisref08Low qs_clevisref08Low := fun R x k => match x with
  | (x0Umin, x0Umax, x0Smin, x0Smax, (x0Bits_Value, x0Bits_Mask)) => 
      br (W.le x0Umax 4294967295) (k (x0Umin, x0Umax, x0Smin, x0Smax, x0Bits_Value, x0Bits_Mask))
        (F_clevisref08upto R 4294967295 fun y =>
          F_clevisref07Low R (x0Bits_Value, x0Bits_Mask) fun y_1 =>
            F_clevisref08Tidy R (y.1, y.2.1, y.2.2.1, y.2.2.2.1, y_1.1, y_1.2) fun y =>
              br (W.not y.2) (F_clevisref08Size R 4 fun y => k (y.1, y.2.1, y.2.2.1, y.2.2.2.1, y.2.2.2.2.1, y.2.2.2.2.2)) (k (y.1.1, y.1.2.1, y.1.2.2.1, y.1.2.2.2.1, y.1.2.2.2.2.1, y.1.2.2.2.2.2)))
theorem S_clevisref08Low {F_clevisref08Tidy : FT ps_clevisref08Tidy qs_clevisref08Tidy} {F_clevisref08upto : FT ps_clevisref08upto qs_clevisref08upto} {F_clevisref08Size : FT ps_clevisref08Size qs_clevisref08Size} {F_clevisref07Low : FT ps_clevisref07Low qs_clevisref07Low} (h_clevisref08Tidy : SpecOk Try.prog 50 (mkS ps_clevisref08Tidy qs_clevisref08Tidy F_clevisref08Tidy)) (h_clevisref08upto : SpecOk Try.prog 84 (mkS ps_clevisref08upto qs_clevisref08upto F_clevisref08upto)) (h_clevisref08Size : SpecOk Try.prog 53 (mkS ps_clevisref08Size qs_clevisref08Size F_clevisref08Size)) (h_clevisref07Low : SpecOk Try.prog 85 (mkS ps_clevisref07Low qs_clevisref07Low F_clevisref07Low)) : SpecOk Try.prog 51 (mkS ps_clevisref08Low qs_clevisref08Low (N_clevisref08Low F_clevisref08Tidy F_clevisref08upto F_clevisref08Size F_clevisref07Low)) :=
  specOk_mk (fl := 10) (d := 12) (cfgOk_cons (cfgOk_cons (cfgOk_cons (cfgOk_cons base h_clevisref07Low) h_clevisref08Size) h_clevisref08upto) h_clevisref08Tidy) (by rintro R ⟨x0Umin, x0Umax, x0Smin, x0Smax, ⟨x0Bits_Value, x0Bits_Mask⟩⟩ k; kernel_rfl)
noncomputable def F_clevisref08Low : FT ps_clevisref08Low qs_clevisref08Low := N_clevisref08Low F_clevisref08Tidy F_clevisref08upto F_clevisref08Size F_clevisref07Low 
theorem ok_clevisref08Low : SpecOk Try.prog 51 (mkS ps_clevisref08Low qs_clevisref08Low F_clevisref08Low) := S_clevisref08Low ok_clevisref08Tidy ok_clevisref08upto ok_clevisref08Size ok_clevisref07Low
abbrev ps_clevisref09narrow : List PT := [.one (.int .i64), .agg ((.prod (.int .u64) (.prod (.int .u64) (.prod (.int .i64) (.prod (.int .i64) ((.prod (.int .u64) (.int .u64)))))))), .agg ((.prod (.int .u64) (.prod (.int .u64) (.prod (.int .i64) (.prod (.int .i64) ((.prod (.int .u64) (.int .u64))))))))]
abbrev qs_clevisref09narrow : List PT := [.agg ((.prod (.int .u64) (.prod (.int .u64) (.prod (.int .i64) (.prod (.int .i64) ((.prod (.int .u64) (.int .u64))))))))]
noncomputable def N_clevisref09narrow (F_clevisref09tidy : FT ps_clevisref09tidy qs_clevisref09tidy) (F_clevisref08Const : FT ps_clevisref08Const qs_clevisref08Const) (F_clevisref08Value : FT ps_clevisref08Value qs_clevisref08Value) (F_clevisref09wide : FT ps_clevisref09wide qs_clevisref09wide) (F_clevisref08Size : FT ps_clevisref08Size qs_clevisref08Size) (F_clevisref08Low : FT ps_clevisref08Low qs_clevisref08Low)  : FT ps_clevisref09narrow qs_clevisref09narrow := fun R x k => match x with
  | (x0, (x1Umin, x1Umax, x1Smin, x1Smax, (x1Bits_Value, x1Bits_Mask)), (x2Umin, x2Umax, x2Smin, x2Smax, (x2Bits_Value, x2Bits_Mask))) => 
      F_clevisref08Low R (x1Umin, x1Umax, x1Smin, x1Smax, x1Bits_Value, x1Bits_Mask) fun y =>
        F_clevisref08Low R (x2Umin, x2Umax, x2Smin, x2Smax, x2Bits_Value, x2Bits_Mask) fun y_1 =>
          br (W.pick (W.pick (W.eq x0 96) true (W.eq x0 112)) true (W.eq x0 192))
            (F_clevisref08Value R (y_1.1, y_1.2.1, y_1.2.2.1, y_1.2.2.2.1, y_1.2.2.2.2.1, y_1.2.2.2.2.2) fun y_2 =>
              br y_2.2
                (F_clevisref08Const R (W.rem y_2.1 32) fun y_3 =>
                  br (W.pick (W.pick (W.not y_2.2) (W.ne x0 112) false) true (W.pick (W.eq x0 192) (W.gt y.2.1 2147483647) false))
                    (F_clevisref08Size R 4 fun y => k (y.1, y.2.1, y.2.2.1, y.2.2.2.1, y.2.2.2.2.1, y.2.2.2.2.2))
                    (br (W.eq x0 192)
                      (F_clevisref09wide R (112, (y.1, y.2.1, y.2.2.1, y.2.2.2.1, y.2.2.2.2.1, y.2.2.2.2.2), y_3.1, y_3.2.1, y_3.2.2.1, y_3.2.2.2.1, y_3.2.2.2.2.1, y_3.2.2.2.2.2) fun y =>
                        F_clevisref09tidy R (y.1, y.2.1, y.2.2.1, y.2.2.2.1, y.2.2.2.2.1, y.2.2.2.2.2) fun y =>
                          F_clevisref08Low R (y.1, y.2.1, y.2.2.1, y.2.2.2.1, y.2.2.2.2.1, y.2.2.2.2.2) fun y => k (y.1, y.2.1, y.2.2.1, y.2.2.2.1, y.2.2.2.2.1, y.2.2.2.2.2))
                      (F_clevisref09wide R (x0, (y.1, y.2.1, y.2.2.1, y.2.2.2.1, y.2.2.2.2.1, y.2.2.2.2.2), y_3.1, y_3.2.1, y_3.2.2.1, y_3.2.2.2.1, y_3.2.2.2.2.1, y_3.2.2.2.2.2) fun y =>
                        F_clevisref09tidy R (y.1, y.2.1, y.2.2.1, y.2.2.2.1, y.2.2.2.2.1, y.2.2.2.2.2) fun y =>
                          F_clevisref08Low R (y.1, y.2.1, y.2.2.1, y.2.2.2.1, y.2.2.2.2.1, y.2.2.2.2.2) fun y => k (y.1, y.2.1, y.2.2.1, y.2.2.2.1, y.2.2.2.2.1, y.2.2.2.2.2))))
                (br (W.pick (W.pick (W.not y_2.2) (W.ne x0 112) false) true (W.pick (W.eq x0 192) (W.gt y.2.1 2147483647) false))
                  (F_clevisref08Size R 4 fun y => k (y.1, y.2.1, y.2.2.1, y.2.2.2.1, y.2.2.2.2.1, y.2.2.2.2.2))
                  (br (W.eq x0 192)
                    (F_clevisref09wide R (112, (y.1, y.2.1, y.2.2.1, y.2.2.2.1, y.2.2.2.2.1, y.2.2.2.2.2), y_1.1, y_1.2.1, y_1.2.2.1, y_1.2.2.2.1, y_1.2.2.2.2.1, y_1.2.2.2.2.2) fun y =>
                      F_clevisref09tidy R (y.1, y.2.1, y.2.2.1, y.2.2.2.1, y.2.2.2.2.1, y.2.2.2.2.2) fun y =>
                        F_clevisref08Low R (y.1, y.2.1, y.2.2.1, y.2.2.2.1, y.2.2.2.2.1, y.2.2.2.2.2) fun y => k (y.1, y.2.1, y.2.2.1, y.2.2.2.1, y.2.2.2.2.1, y.2.2.2.2.2))
                    (F_clevisref09wide R (x0, (y.1, y.2.1, y.2.2.1, y.2.2.2.1, y.2.2.2.2.1, y.2.2.2.2.2), y_1.1, y_1.2.1, y_1.2.2.1, y_1.2.2.2.1, y_1.2.2.2.2.1, y_1.2.2.2.2.2) fun y =>
                      F_clevisref09tidy R (y.1, y.2.1, y.2.2.1, y.2.2.2.1, y.2.2.2.2.1, y.2.2.2.2.2) fun y =>
                        F_clevisref08Low R (y.1, y.2.1, y.2.2.1, y.2.2.2.1, y.2.2.2.2.1, y.2.2.2.2.2) fun y => k (y.1, y.2.1, y.2.2.1, y.2.2.2.1, y.2.2.2.2.1, y.2.2.2.2.2)))))
            (F_clevisref09wide R (x0, (y.1, y.2.1, y.2.2.1, y.2.2.2.1, y.2.2.2.2.1, y.2.2.2.2.2), y_1.1, y_1.2.1, y_1.2.2.1, y_1.2.2.2.1, y_1.2.2.2.2.1, y_1.2.2.2.2.2) fun y =>
              F_clevisref09tidy R (y.1, y.2.1, y.2.2.1, y.2.2.2.1, y.2.2.2.2.1, y.2.2.2.2.2) fun y =>
                F_clevisref08Low R (y.1, y.2.1, y.2.2.1, y.2.2.2.1, y.2.2.2.2.1, y.2.2.2.2.2) fun y => k (y.1, y.2.1, y.2.2.1, y.2.2.2.1, y.2.2.2.2.1, y.2.2.2.2.2))
theorem S_clevisref09narrow {F_clevisref09tidy : FT ps_clevisref09tidy qs_clevisref09tidy} {F_clevisref08Const : FT ps_clevisref08Const qs_clevisref08Const} {F_clevisref08Value : FT ps_clevisref08Value qs_clevisref08Value} {F_clevisref09wide : FT ps_clevisref09wide qs_clevisref09wide} {F_clevisref08Size : FT ps_clevisref08Size qs_clevisref08Size} {F_clevisref08Low : FT ps_clevisref08Low qs_clevisref08Low} (h_clevisref09tidy : SpecOk Try.prog 21 (mkS ps_clevisref09tidy qs_clevisref09tidy F_clevisref09tidy)) (h_clevisref08Const : SpecOk Try.prog 14 (mkS ps_clevisref08Const qs_clevisref08Const F_clevisref08Const)) (h_clevisref08Value : SpecOk Try.prog 52 (mkS ps_clevisref08Value qs_clevisref08Value F_clevisref08Value)) (h_clevisref09wide : SpecOk Try.prog 23 (mkS ps_clevisref09wide qs_clevisref09wide F_clevisref09wide)) (h_clevisref08Size : SpecOk Try.prog 53 (mkS ps_clevisref08Size qs_clevisref08Size F_clevisref08Size)) (h_clevisref08Low : SpecOk Try.prog 51 (mkS ps_clevisref08Low qs_clevisref08Low F_clevisref08Low)) : SpecOk Try.prog 22 (mkS ps_clevisref09narrow qs_clevisref09narrow (N_clevisref09narrow F_clevisref09tidy F_clevisref08Const F_clevisref08Value F_clevisref09wide F_clevisref08Size F_clevisref08Low)) :=
  specOk_mk (fl := 10) (d := 12) (cfgOk_cons (cfgOk_cons (cfgOk_cons (cfgOk_cons (cfgOk_cons (cfgOk_cons base h_clevisref08Low) h_clevisref08Size) h_clevisref09wide) h_clevisref08Value) h_clevisref08Const) h_clevisref09tidy) (by rintro R ⟨x0, ⟨x1Umin, x1Umax, x1Smin, x1Smax, ⟨x1Bits_Value, x1Bits_Mask⟩⟩, ⟨x2Umin, x2Umax, x2Smin, x2Smax, ⟨x2Bits_Value, x2Bits_Mask⟩⟩⟩ k; kernel_rfl)
noncomputable def F_clevisref09narrow : FT ps_clevisref09narrow qs_clevisref09narrow := N_clevisref09narrow F_clevisref09tidy F_clevisref08Const F_clevisref08Value F_clevisref09wide F_clevisref08Size F_clevisref08Low 
theorem ok_clevisref09narrow : SpecOk Try.prog 22 (mkS ps_clevisref09narrow qs_clevisref09narrow F_clevisref09narrow) := S_clevisref09narrow ok_clevisref09tidy ok_clevisref08Const ok_clevisref08Value ok_clevisref09wide ok_clevisref08Size ok_clevisref08Low
abbrev ps_clevisref09Alu : List PT := [.one (.int .i64), .agg ((.prod (.int .u64) (.prod (.int .u64) (.prod (.int .i64) (.prod (.int .i64) ((.prod (.int .u64) (.int .u64)))))))), .agg ((.prod (.int .u64) (.prod (.int .u64) (.prod (.int .i64) (.prod (.int .i64) ((.prod (.int .u64) (.int .u64)))))))), .one (.bool)]
abbrev qs_clevisref09Alu : List PT := [.agg ((.prod (.int .u64) (.prod (.int .u64) (.prod (.int .i64) (.prod (.int .i64) ((.prod (.int .u64) (.int .u64)))))))), .one (.bool)]
noncomputable def N_clevisref09Alu (F_clevisref01Alu : FT ps_clevisref01Alu qs_clevisref01Alu) (F_clevisref08Check : FT ps_clevisref08Check qs_clevisref08Check) (F_clevisref08Any : FT ps_clevisref08Any qs_clevisref08Any) (F_clevisref09tidy : FT ps_clevisref09tidy qs_clevisref09tidy) (F_clevisref09wide : FT ps_clevisref09wide qs_clevisref09wide) (F_clevisref09narrow : FT ps_clevisref09narrow qs_clevisref09narrow)  : FT ps_clevisref09Alu qs_clevisref09Alu := fun R x k => match x with
  | (x0, (x1Umin, x1Umax, x1Smin, x1Smax, (x1Bits_Value, x1Bits_Mask)), (x2Umin, x2Umax, x2Smin, x2Smax, (x2Bits_Value, x2Bits_Mask)), x3) => 
      F_clevisref01Alu R (x0, 0, 0, true) fun y =>
        br (W.not y.2) (F_clevisref08Any R () fun y => k ((y.1, y.2.1, y.2.2.1, y.2.2.2.1, y.2.2.2.2.1, y.2.2.2.2.2), false))
          (F_clevisref08Check R (x1Umin, x1Umax, x1Smin, x1Smax, x1Bits_Value, x1Bits_Mask) fun y =>
            br (W.not (W.not y))
              (F_clevisref08Check R (x2Umin, x2Umax, x2Smin, x2Smax, x2Bits_Value, x2Bits_Mask) fun y =>
                br (W.pick false true (W.not y)) (F_clevisref08Any R () fun y => k ((y.1, y.2.1, y.2.2.1, y.2.2.2.1, y.2.2.2.2.1, y.2.2.2.2.2), true))
                  (br (W.not x3)
                    (F_clevisref09narrow R (x0, (x1Umin, x1Umax, x1Smin, x1Smax, x1Bits_Value, x1Bits_Mask), x2Umin, x2Umax, x2Smin, x2Smax, x2Bits_Value, x2Bits_Mask) fun y =>
                      F_clevisref09tidy R (y.1, y.2.1, y.2.2.1, y.2.2.2.1, y.2.2.2.2.1, y.2.2.2.2.2) fun y => k ((y.1, y.2.1, y.2.2.1, y.2.2.2.1, y.2.2.2.2.1, y.2.2.2.2.2), true))
                    (F_clevisref09wide R (x0, (x1Umin, x1Umax, x1Smin, x1Smax, x1Bits_Value, x1Bits_Mask), x2Umin, x2Umax, x2Smin, x2Smax, x2Bits_Value, x2Bits_Mask) fun y =>
                      F_clevisref09tidy R (y.1, y.2.1, y.2.2.1, y.2.2.2.1, y.2.2.2.2.1, y.2.2.2.2.2) fun y => k ((y.1, y.2.1, y.2.2.1, y.2.2.2.1, y.2.2.2.2.1, y.2.2.2.2.2), true))))
              (F_clevisref08Any R () fun y => k ((y.1, y.2.1, y.2.2.1, y.2.2.2.1, y.2.2.2.2.1, y.2.2.2.2.2), true)))
theorem S_clevisref09Alu {F_clevisref01Alu : FT ps_clevisref01Alu qs_clevisref01Alu} {F_clevisref08Check : FT ps_clevisref08Check qs_clevisref08Check} {F_clevisref08Any : FT ps_clevisref08Any qs_clevisref08Any} {F_clevisref09tidy : FT ps_clevisref09tidy qs_clevisref09tidy} {F_clevisref09wide : FT ps_clevisref09wide qs_clevisref09wide} {F_clevisref09narrow : FT ps_clevisref09narrow qs_clevisref09narrow} (h_clevisref01Alu : SpecOk Try.prog 11 (mkS ps_clevisref01Alu qs_clevisref01Alu F_clevisref01Alu)) (h_clevisref08Check : SpecOk Try.prog 12 (mkS ps_clevisref08Check qs_clevisref08Check F_clevisref08Check)) (h_clevisref08Any : SpecOk Try.prog 15 (mkS ps_clevisref08Any qs_clevisref08Any F_clevisref08Any)) (h_clevisref09tidy : SpecOk Try.prog 21 (mkS ps_clevisref09tidy qs_clevisref09tidy F_clevisref09tidy)) (h_clevisref09wide : SpecOk Try.prog 23 (mkS ps_clevisref09wide qs_clevisref09wide F_clevisref09wide)) (h_clevisref09narrow : SpecOk Try.prog 22 (mkS ps_clevisref09narrow qs_clevisref09narrow F_clevisref09narrow)) : SpecOk Try.prog 9 (mkS ps_clevisref09Alu qs_clevisref09Alu (N_clevisref09Alu F_clevisref01Alu F_clevisref08Check F_clevisref08Any F_clevisref09tidy F_clevisref09wide F_clevisref09narrow)) :=
  specOk_mk (fl := 10) (d := 12) (cfgOk_cons (cfgOk_cons (cfgOk_cons (cfgOk_cons (cfgOk_cons (cfgOk_cons base h_clevisref09narrow) h_clevisref09wide) h_clevisref09tidy) h_clevisref08Any) h_clevisref08Check) h_clevisref01Alu) (by rintro R ⟨x0, ⟨x1Umin, x1Umax, x1Smin, x1Smax, ⟨x1Bits_Value, x1Bits_Mask⟩⟩, ⟨x2Umin, x2Umax, x2Smin, x2Smax, ⟨x2Bits_Value, x2Bits_Mask⟩⟩, x3⟩ k; kernel_rfl)
noncomputable def F_clevisref09Alu : FT ps_clevisref09Alu qs_clevisref09Alu := N_clevisref09Alu F_clevisref01Alu F_clevisref08Check F_clevisref08Any F_clevisref09tidy F_clevisref09wide F_clevisref09narrow 
theorem ok_clevisref09Alu : SpecOk Try.prog 9 (mkS ps_clevisref09Alu qs_clevisref09Alu F_clevisref09Alu) := S_clevisref09Alu ok_clevisref01Alu ok_clevisref08Check ok_clevisref08Any ok_clevisref09tidy ok_clevisref09wide ok_clevisref09narrow
abbrev ps_clevislaw09span : List PT := [.one (.int .u64), .one (.int .u64)]
abbrev qs_clevislaw09span : List PT := [.agg ((.prod (.int .u64) (.prod (.int .u64) (.prod (.int .i64) (.prod (.int .i64) ((.prod (.int .u64) (.int .u64))))))))]
noncomputable def N_clevislaw09span (F_clevisref08Tidy : FT ps_clevisref08Tidy qs_clevisref08Tidy)  : FT ps_clevislaw09span qs_clevislaw09span := fun R x k => match x with
  | (x0, x1) => 
      F_clevisref08Tidy R (x0, x1, W.wrap IntKind.i64 x0, W.wrap IntKind.i64 x1, 0, 18446744073709551615) fun y => k (y.1.1, y.1.2.1, y.1.2.2.1, y.1.2.2.2.1, y.1.2.2.2.2.1, y.1.2.2.2.2.2)
theorem S_clevislaw09span {F_clevisref08Tidy : FT ps_clevisref08Tidy qs_clevisref08Tidy} (h_clevisref08Tidy : SpecOk Try.prog 50 (mkS ps_clevisref08Tidy qs_clevisref08Tidy F_clevisref08Tidy)) : SpecOk Try.prog 24 (mkS ps_clevislaw09span qs_clevislaw09span (N_clevislaw09span F_clevisref08Tidy)) :=
  specOk_mk (fl := 10) (d := 12) (cfgOk_cons base h_clevisref08Tidy) (by rintro R ⟨x0, x1⟩ k; kernel_rfl)
noncomputable def F_clevislaw09span : FT ps_clevislaw09span qs_clevislaw09span := N_clevislaw09span F_clevisref08Tidy 
theorem ok_clevislaw09span : SpecOk Try.prog 24 (mkS ps_clevislaw09span qs_clevislaw09span F_clevislaw09span) := S_clevislaw09span ok_clevisref08Tidy
abbrev ps_clevislaw09heads : List PT := []
abbrev qs_clevislaw09heads : List PT := [.one (.bool)]
noncomputable def N_clevislaw09heads (F_arith_Alu : FT ps_arith_Alu qs_arith_Alu) (F_clevisref08Any : FT ps_clevisref08Any qs_clevisref08Any) (F_clevisref08Const : FT ps_clevisref08Const qs_clevisref08Const) (F_clevislaw09span : FT ps_clevislaw09span qs_clevislaw09span)  : FT ps_clevislaw09heads qs_clevislaw09heads := fun R x k => match x with
  | () => 
      F_clevislaw09span R (1, 3) fun y =>
        F_clevislaw09span R (10, 20) fun y_1 =>
          F_arith_Alu R (0, (y.1, y.2.1, y.2.2.1, y.2.2.2.1, y.2.2.2.2.1, y.2.2.2.2.2), (y_1.1, y_1.2.1, y_1.2.2.1, y_1.2.2.2.1, y_1.2.2.2.2.1, y_1.2.2.2.2.2), true) fun y =>
            F_clevisref08Any R () fun y_2 =>
              F_clevisref08Const R 7 fun y_3 =>
                F_arith_Alu R (80, (y_2.1, y_2.2.1, y_2.2.2.1, y_2.2.2.2.1, y_2.2.2.2.2.1, y_2.2.2.2.2.2), (y_3.1, y_3.2.1, y_3.2.2.1, y_3.2.2.2.1, y_3.2.2.2.2.1, y_3.2.2.2.2.2), true) fun y_4 =>
                  F_clevisref08Any R () fun y_5 =>
                    F_clevisref08Any R () fun y_6 =>
                      F_arith_Alu R (208, (y_5.1, y_5.2.1, y_5.2.2.1, y_5.2.2.2.1, y_5.2.2.2.2.1, y_5.2.2.2.2.2), (y_6.1, y_6.2.1, y_6.2.2.1, y_6.2.2.2.1, y_6.2.2.2.2.1, y_6.2.2.2.2.2), true) fun y_7 =>
                        F_clevisref08Any R () fun y_8 =>
                          F_clevisref08Any R () fun y_9 =>
                            F_arith_Alu R (176, (y_8.1, y_8.2.1, y_8.2.2.1, y_8.2.2.2.1, y_8.2.2.2.2.1, y_8.2.2.2.2.2), (y_9.1, y_9.2.1, y_9.2.2.1, y_9.2.2.2.1, y_9.2.2.2.2.1, y_9.2.2.2.2.2), false)
                              fun y_10 =>
                              br
                                (W.pick
                                  (W.pick (W.pick (W.pick (W.pick (W.pick y.2 (W.eq y.1.1 11) false) (W.eq y.1.2.1 23) false) (W.eq y.1.2.2.2.1 23) false) (W.eq y_4.1.2.1 7) false) (W.eq y_4.1.2.2.1 0)
                                    false)
                                  (W.not y_7.2) false)
                                (F_clevisref08Any R () fun y =>
                                  k
                                    (W.pick
                                      (W.pick true
                                        (W.and2 (W.eq y_7.1.1 y.1)
                                          (W.and2 (W.eq y_7.1.2.1 y.2.1)
                                            (W.and2 (W.eq y_7.1.2.2.1 y.2.2.1)
                                              (W.and2 (W.eq y_7.1.2.2.2.1 y.2.2.2.1) (W.and2 (W.eq y_7.1.2.2.2.2.1 y.2.2.2.2.1) (W.and2 (W.eq y_7.1.2.2.2.2.2 y.2.2.2.2.2) true))))))
                                        false)
                                      (W.eq y_10.1.2.1 4294967295) false))
                                (k (W.pick false (W.eq y_10.1.2.1 4294967295) false))
theorem S_clevislaw09heads {F_arith_Alu : FT ps_arith_Alu qs_arith_Alu} {F_clevisref08Any : FT ps_clevisref08Any qs_clevisref08Any} {F_clevisref08Const : FT ps_clevisref08Const qs_clevisref08Const} {F_clevislaw09span : FT ps_clevislaw09span qs_clevislaw09span} (h_arith_Alu : SpecOk Try.prog 8 (mkS ps_arith_Alu qs_arith_Alu F_arith_Alu)) (h_clevisref08Any : SpecOk Try.prog 15 (mkS ps_clevisref08Any qs_clevisref08Any F_clevisref08Any)) (h_clevisref08Const : SpecOk Try.prog 14 (mkS ps_clevisref08Const qs_clevisref08Const F_clevisref08Const)) (h_clevislaw09span : SpecOk Try.prog 24 (mkS ps_clevislaw09span qs_clevislaw09span F_clevislaw09span)) : SpecOk Try.prog 10 (mkS ps_clevislaw09heads qs_clevislaw09heads (N_clevislaw09heads F_arith_Alu F_clevisref08Any F_clevisref08Const F_clevislaw09span)) :=
  specOk_mk (fl := 10) (d := 12) (cfgOk_cons (cfgOk_cons (cfgOk_cons (cfgOk_cons base h_clevislaw09span) h_clevisref08Const) h_clevisref08Any) h_arith_Alu) (by intro R x k; kernel_rfl)
noncomputable def F_clevislaw09heads : FT ps_clevislaw09heads qs_clevislaw09heads := N_clevislaw09heads F_arith_Alu F_clevisref08Any F_clevisref08Const F_clevislaw09span 
theorem ok_clevislaw09heads : SpecOk Try.prog 10 (mkS ps_clevislaw09heads qs_clevislaw09heads F_clevislaw09heads) := S_clevislaw09heads ok_arith_Alu ok_clevisref08Any ok_clevisref08Const ok_clevislaw09span
abbrev ps_clevislaw09ArithReckons : List PT := [.one (.int .i64), .agg ((.prod (.int .u64) (.prod (.int .u64) (.prod (.int .i64) (.prod (.int .i64) ((.prod (.int .u64) (.int .u64)))))))), .agg ((.prod (.int .u64) (.prod (.int .u64) (.prod (.int .i64) (.prod (.int .i64) ((.prod (.int .u64) (.int .u64)))))))), .one (.bool)]
noncomputable def L_clevislaw09ArithReckons (F_arith_Alu : FT ps_arith_Alu qs_arith_Alu) (F_clevisref09Alu : FT ps_clevisref09Alu qs_clevisref09Alu) (F_clevislaw09heads : FT ps_clevislaw09heads qs_clevislaw09heads)  (x : PTs.D ps_clevislaw09ArithReckons) : Option Unit := match x with
  | (x0, (x1Umin, x1Umax, x1Smin, x1Smax, (x1Bits_Value, x1Bits_Mask)), (x2Umin, x2Umax, x2Smin, x2Smax, (x2Bits_Value, x2Bits_Mask)), x3) => 
      F_arith_Alu Unit (x0, (x1Umin, x1Umax, x1Smin, x1Smax, x1Bits_Value, x1Bits_Mask), (x2Umin, x2Umax, x2Smin, x2Smax, x2Bits_Value, x2Bits_Mask), x3) fun y =>
        F_clevisref09Alu Unit (x0, (x1Umin, x1Umax, x1Smin, x1Smax, x1Bits_Value, x1Bits_Mask), (x2Umin, x2Umax, x2Smin, x2Smax, x2Bits_Value, x2Bits_Mask), x3) fun y_1 =>
          br
            (W.pick
              (W.and2 (W.eq y.1.1 y_1.1.1)
                (W.and2 (W.eq y.1.2.1 y_1.1.2.1)
                  (W.and2 (W.eq y.1.2.2.1 y_1.1.2.2.1) (W.and2 (W.eq y.1.2.2.2.1 y_1.1.2.2.2.1) (W.and2 (W.eq y.1.2.2.2.2.1 y_1.1.2.2.2.2.1) (W.and2 (W.eq y.1.2.2.2.2.2 y_1.1.2.2.2.2.2) true))))))
              (W.eqB y.2 y_1.2) false)
            (F_clevislaw09heads Unit () fun y => br (W.pick true y false) (some ()) none) none
theorem E_clevislaw09ArithReckons {F_arith_Alu : FT ps_arith_Alu qs_arith_Alu} {F_clevisref09Alu : FT ps_clevisref09Alu qs_clevisref09Alu} {F_clevislaw09heads : FT ps_clevislaw09heads qs_clevislaw09heads} (h_arith_Alu : SpecOk Try.prog 8 (mkS ps_arith_Alu qs_arith_Alu F_arith_Alu)) (h_clevisref09Alu : SpecOk Try.prog 9 (mkS ps_clevisref09Alu qs_clevisref09Alu F_clevisref09Alu)) (h_clevislaw09heads : SpecOk Try.prog 10 (mkS ps_clevislaw09heads qs_clevislaw09heads F_clevislaw09heads)) (x : PTs.D ps_clevislaw09ArithReckons) (hL : L_clevislaw09ArithReckons F_arith_Alu F_clevisref09Alu F_clevislaw09heads x = some ()) :
    ∃ (C : Cfg) (fl d : Nat), CfgOk C ∧ C.P = Try.prog ∧ call C fl d 3 (encL false ps_clevislaw09ArithReckons x) [] getL = some () :=
  ⟨_, 10, 12, (cfgOk_cons (cfgOk_cons (cfgOk_cons base h_clevislaw09heads) h_clevisref09Alu) h_arith_Alu), rfl, (show _ = L_clevislaw09ArithReckons F_arith_Alu F_clevisref09Alu F_clevislaw09heads x by obtain ⟨x0, ⟨x1Umin, x1Umax, x1Smin, x1Smax, ⟨x1Bits_Value, x1Bits_Mask⟩⟩, ⟨x2Umin, x2Umax, x2Smin, x2Smax, ⟨x2Bits_Value, x2Bits_Mask⟩⟩, x3⟩ := x; kernel_rfl).trans hL⟩
abbrev ps_clevisref07In : List PT := [.agg ((.prod (.int .u64) (.int .u64))), .one (.int .u64)]
abbrev qs_clevisref07In : List PT := [.one (.bool)]
noncomputable def N_clevisref07In   : FT ps_clevisref07In qs_clevisref07In := fun R x k => match x with
  | ((x0Value, x0Mask), x1) => 
      k (W.eq (W.wrap IntKind.u64 (W.andNot IntKind.u64 x1 x0Mask)) x0Value)
theorem S_clevisref07In   : SpecOk Try.prog 27 (mkS ps_clevisref07In qs_clevisref07In (N_clevisref07In )) :=
  specOk_mk (fl := 10) (d := 12) base (by rintro R ⟨⟨x0Value, x0Mask⟩, x1⟩ k; kernel_rfl)
noncomputable def F_clevisref07In : FT ps_clevisref07In qs_clevisref07In := N_clevisref07In  
theorem ok_clevisref07In : SpecOk Try.prog 27 (mkS ps_clevisref07In qs_clevisref07In F_clevisref07In) := S_clevisref07In 
abbrev ps_clevisref08In : List PT := [.agg ((.prod (.int .u64) (.prod (.int .u64) (.prod (.int .i64) (.prod (.int .i64) ((.prod (.int .u64) (.int .u64)))))))), .one (.int .u64)]
abbrev qs_clevisref08In : List PT := [.one (.bool)]
noncomputable def N_clevisref08In (F_clevisref07In : FT ps_clevisref07In qs_clevisref07In)  : FT ps_clevisref08In qs_clevisref08In := fun R x k => match x with
  | ((x0Umin, x0Umax, x0Smin, x0Smax, (x0Bits_Value, x0Bits_Mask)), x1) => 
      br (W.pick (W.pick (W.pick (W.ge x1 x0Umin) (W.le x1 x0Umax) false) (W.ge (W.wrap IntKind.i64 x1) x0Smin) false) (W.le (W.wrap IntKind.i64 x1) x0Smax) false)
        (F_clevisref07In R ((x0Bits_Value, x0Bits_Mask), x1) fun y => k (W.pick true y false)) (k false)
theorem S_clevisref08In {F_clevisref07In : FT ps_clevisref07In qs_clevisref07In} (h_clevisref07In : SpecOk Try.prog 27 (mkS ps_clevisref07In qs_clevisref07In F_clevisref07In)) : SpecOk Try.prog 13 (mkS ps_clevisref08In qs_clevisref08In (N_clevisref08In F_clevisref07In)) :=
  specOk_mk (fl := 10) (d := 12) (cfgOk_cons base h_clevisref07In) (by rintro R ⟨⟨x0Umin, x0Umax, x0Smin, x0Smax, ⟨x0Bits_Value, x0Bits_Mask⟩⟩, x1⟩ k; kernel_rfl)
noncomputable def F_clevisref08In : FT ps_clevisref08In qs_clevisref08In := N_clevisref08In F_clevisref07In 
theorem ok_clevisref08In : SpecOk Try.prog 13 (mkS ps_clevisref08In qs_clevisref08In F_clevisref08In) := S_clevisref08In ok_clevisref07In
abbrev ps_clevislaw09ArithSound : List PT := [.one (.int .i64), .agg ((.prod (.int .u64) (.prod (.int .u64) (.prod (.int .i64) (.prod (.int .i64) ((.prod (.int .u64) (.int .u64)))))))), .agg ((.prod (.int .u64) (.prod (.int .u64) (.prod (.int .i64) (.prod (.int .i64) ((.prod (.int .u64) (.int .u64)))))))), .one (.int .u64), .one (.int .u64), .one (.bool)]
noncomputable def L_clevislaw09ArithSound (F_arith_Alu : FT ps_arith_Alu qs_arith_Alu) (F_clevisref01Alu : FT ps_clevisref01Alu qs_clevisref01Alu) (F_clevisref08Check : FT ps_clevisref08Check qs_clevisref08Check) (F_clevislaw09heads : FT ps_clevislaw09heads qs_clevislaw09heads) (F_clevisref08In : FT ps_clevisref08In qs_clevisref08In)  (x : PTs.D ps_clevislaw09ArithSound) : Option Unit := match x with
  | (x0, (x1Umin, x1Umax, x1Smin, x1Smax, (x1Bits_Value, x1Bits_Mask)), (x2Umin, x2Umax, x2Smin, x2Smax, (x2Bits_Value, x2Bits_Mask)), x3, x4, x5) => 
      F_clevisref01Alu Unit (x0, x3, x4, x5) fun y =>
        F_arith_Alu Unit (x0, (x1Umin, x1Umax, x1Smin, x1Smax, x1Bits_Value, x1Bits_Mask), (x2Umin, x2Umax, x2Smin, x2Smax, x2Bits_Value, x2Bits_Mask), x5) fun y_1 =>
          br (W.not (W.eqB y_1.2 y.2)) none
            (br (W.not (W.not y_1.2))
              (F_clevisref08Check Unit (x1Umin, x1Umax, x1Smin, x1Smax, x1Bits_Value, x1Bits_Mask) fun y_2 =>
                br (W.not (W.pick false true (W.not y_2)))
                  (F_clevisref08Check Unit (x2Umin, x2Umax, x2Smin, x2Smax, x2Bits_Value, x2Bits_Mask) fun y_3 =>
                    br (W.not (W.pick false true (W.not y_3)))
                      (F_clevisref08In Unit ((x1Umin, x1Umax, x1Smin, x1Smax, x1Bits_Value, x1Bits_Mask), x3) fun y_4 =>
                        br (W.not (W.pick false true (W.not y_4)))
                          (F_clevisref08In Unit ((x2Umin, x2Umax, x2Smin, x2Smax, x2Bits_Value, x2Bits_Mask), x4) fun y_5 =>
                            br (W.pick false true (W.not y_5)) (F_clevislaw09heads Unit () fun y => br y (some ()) none)
                              (F_clevisref08In Unit ((y_1.1.1, y_1.1.2.1, y_1.1.2.2.1, y_1.1.2.2.2.1, y_1.1.2.2.2.2.1, y_1.1.2.2.2.2.2), y.1) fun y =>
                                br y
                                  (F_clevisref08Check Unit (y_1.1.1, y_1.1.2.1, y_1.1.2.2.1, y_1.1.2.2.2.1, y_1.1.2.2.2.2.1, y_1.1.2.2.2.2.2) fun y =>
                                    br (W.pick true y false) (F_clevislaw09heads Unit () fun y => br (W.pick true y false) (some ()) none) none)
                                  none))
                          (F_clevislaw09heads Unit () fun y => br y (some ()) none))
                      (F_clevislaw09heads Unit () fun y => br y (some ()) none))
                  (F_clevislaw09heads Unit () fun y => br y (some ()) none))
              (F_clevislaw09heads Unit () fun y => br y (some ()) none))
theorem E_clevislaw09ArithSound {F_arith_Alu : FT ps_arith_Alu qs_arith_Alu} {F_clevisref01Alu : FT ps_clevisref01Alu qs_clevisref01Alu} {F_clevisref08Check : FT ps_clevisref08Check qs_clevisref08Check} {F_clevislaw09heads : FT ps_clevislaw09heads qs_clevislaw09heads} {F_clevisref08In : FT ps_clevisref08In qs_clevisref08In} (h_arith_Alu : SpecOk Try.prog 8 (mkS ps_arith_Alu qs_arith_Alu F_arith_Alu)) (h_clevisref01Alu : SpecOk Try.prog 11 (mkS ps_clevisref01Alu qs_clevisref01Alu F_clevisref01Alu)) (h_clevisref08Check : SpecOk Try.prog 12 (mkS ps_clevisref08Check qs_clevisref08Check F_clevisref08Check)) (h_clevislaw09heads : SpecOk Try.prog 10 (mkS ps_clevislaw09heads qs_clevislaw09heads F_clevislaw09heads)) (h_clevisref08In : SpecOk Try.prog 13 (mkS ps_clevisref08In qs_clevisref08In F_clevisref08In)) (x : PTs.D ps_clevislaw09ArithSound) (hL : L_clevislaw09ArithSound F_arith_Alu F_clevisref01Alu F_clevisref08Check F_clevislaw09heads F_clevisref08In x = some ()) :
    ∃ (C : Cfg) (fl d : Nat), CfgOk C ∧ C.P = Try.prog ∧ call C fl d 4 (encL false ps_clevislaw09ArithSound x) [] getL = some () :=
  ⟨_, 10, 12, (cfgOk_cons (cfgOk_cons (cfgOk_cons (cfgOk_cons (cfgOk_cons base h_clevisref08In) h_clevislaw09heads) h_clevisref08Check) h_clevisref01Alu) h_arith_Alu), rfl, (show _ = L_clevislaw09ArithSound F_arith_Alu F_clevisref01Alu F_clevisref08Check F_clevislaw09heads F_clevisref08In x by obtain ⟨x0, ⟨x1Umin, x1Umax, x1Smin, x1Smax, ⟨x1Bits_Value, x1Bits_Mask⟩⟩, ⟨x2Umin, x2Umax, x2Smin, x2Smax, ⟨x2Bits_Value, x2Bits_Mask⟩⟩, x3, x4, x5⟩ := x; kernel_rfl).trans hL⟩
abbrev ps_clevislaw09ArithOnce : List PT := [.one (.int .i64), .one (.int .u64), .one (.int .u64), .one (.bool)]
noncomputable def L_clevislaw09ArithOnce (F_arith_Alu : FT ps_arith_Alu qs_arith_Alu) (F_clevisref01Alu : FT ps_clevisref01Alu qs_clevisref01Alu) (F_clevisref08Const : FT ps_clevisref08Const qs_clevisref08Const) (F_clevislaw09heads : FT ps_clevislaw09heads qs_clevislaw09heads) (F_clevisref08In : FT ps_clevisref08In qs_clevisref08In)  (x : PTs.D ps_clevislaw09ArithOnce) : Option Unit := match x with
  | (x0, x1, x2, x3) => 
      F_clevisref01Alu Unit (x0, x1, x2, x3) fun y =>
        F_clevisref08Const Unit x1 fun y_1 =>
          F_clevisref08Const Unit x2 fun y_2 =>
            F_arith_Alu Unit (x0, (y_1.1, y_1.2.1, y_1.2.2.1, y_1.2.2.2.1, y_1.2.2.2.2.1, y_1.2.2.2.2.2), (y_2.1, y_2.2.1, y_2.2.2.1, y_2.2.2.2.1, y_2.2.2.2.2.1, y_2.2.2.2.2.2), x3) fun y_3 =>
              br (W.pick (W.not y.2) true (W.not (W.eqB y_3.2 y.2))) (br (W.eqB y_3.2 y.2) (F_clevislaw09heads Unit () fun y => br (W.pick true y false) (some ()) none) none)
                (br
                  (W.pick (W.pick (W.pick (W.pick (W.eq x0 48) (W.eq (W.wrap IntKind.u64 (W.and IntKind.u64 x2 4294967295)) 0) false) true (W.eq x0 144)) true (W.pick (W.eq x0 48) (W.eq x2 0) false)) true
                    (W.pick (W.eq x0 192) (W.not x3) false))
                  (F_clevisref08In Unit ((y_3.1.1, y_3.1.2.1, y_3.1.2.2.1, y_3.1.2.2.2.1, y_3.1.2.2.2.2.1, y_3.1.2.2.2.2.2), y.1) fun y =>
                    br y (F_clevislaw09heads Unit () fun y => br (W.pick true y false) (some ()) none) none)
                  (F_clevisref08Const Unit y.1 fun y =>
                    br
                      (W.and2 (W.eq y_3.1.1 y.1)
                        (W.and2 (W.eq y_3.1.2.1 y.2.1)
                          (W.and2 (W.eq y_3.1.2.2.1 y.2.2.1) (W.and2 (W.eq y_3.1.2.2.2.1 y.2.2.2.1) (W.and2 (W.eq y_3.1.2.2.2.2.1 y.2.2.2.2.1) (W.and2 (W.eq y_3.1.2.2.2.2.2 y.2.2.2.2.2) true))))))
                      (F_clevislaw09heads Unit () fun y => br (W.pick true y false) (some ()) none) none))
theorem E_clevislaw09ArithOnce {F_arith_Alu : FT ps_arith_Alu qs_arith_Alu} {F_clevisref01Alu : FT ps_clevisref01Alu qs_clevisref01Alu} {F_clevisref08Const : FT ps_clevisref08Const qs_clevisref08Const} {F_clevislaw09heads : FT ps_clevislaw09heads qs_clevislaw09heads} {F_clevisref08In : FT ps_clevisref08In qs_clevisref08In} (h_arith_Alu : SpecOk Try.prog 8 (mkS ps_arith_Alu qs_arith_Alu F_arith_Alu)) (h_clevisref01Alu : SpecOk Try.prog 11 (mkS ps_clevisref01Alu qs_clevisref01Alu F_clevisref01Alu)) (h_clevisref08Const : SpecOk Try.prog 14 (mkS ps_clevisref08Const qs_clevisref08Const F_clevisref08Const)) (h_clevislaw09heads : SpecOk Try.prog 10 (mkS ps_clevislaw09heads qs_clevislaw09heads F_clevislaw09heads)) (h_clevisref08In : SpecOk Try.prog 13 (mkS ps_clevisref08In qs_clevisref08In F_clevisref08In)) (x : PTs.D ps_clevislaw09ArithOnce) (hL : L_clevislaw09ArithOnce F_arith_Alu F_clevisref01Alu F_clevisref08Const F_clevislaw09heads F_clevisref08In x = some ()) :
    ∃ (C : Cfg) (fl d : Nat), CfgOk C ∧ C.P = Try.prog ∧ call C fl d 5 (encL false ps_clevislaw09ArithOnce x) [] getL = some () :=
  ⟨_, 10, 12, (cfgOk_cons (cfgOk_cons (cfgOk_cons (cfgOk_cons (cfgOk_cons base h_clevisref08In) h_clevislaw09heads) h_clevisref08Const) h_clevisref01Alu) h_arith_Alu), rfl, (show _ = L_clevislaw09ArithOnce F_arith_Alu F_clevisref01Alu F_clevisref08Const F_clevislaw09heads F_clevisref08In x by obtain ⟨x0, x1, x2, x3⟩ := x; kernel_rfl).trans hL⟩
abbrev ps_clevislaw09ArithLow : List PT := [.one (.int .i64), .agg ((.prod (.int .u64) (.prod (.int .u64) (.prod (.int .i64) (.prod (.int .i64) ((.prod (.int .u64) (.int .u64)))))))), .agg ((.prod (.int .u64) (.prod (.int .u64) (.prod (.int .i64) (.prod (.int .i64) ((.prod (.int .u64) (.int .u64))))))))]
noncomputable def L_clevislaw09ArithLow (F_arith_Alu : FT ps_arith_Alu qs_arith_Alu) (F_clevisref08Check : FT ps_clevisref08Check qs_clevisref08Check) (F_clevisref08Any : FT ps_clevisref08Any qs_clevisref08Any) (F_clevislaw09heads : FT ps_clevislaw09heads qs_clevislaw09heads)  (x : PTs.D ps_clevislaw09ArithLow) : Option Unit := match x with
  | (x0, (x1Umin, x1Umax, x1Smin, x1Smax, (x1Bits_Value, x1Bits_Mask)), (x2Umin, x2Umax, x2Smin, x2Smax, (x2Bits_Value, x2Bits_Mask))) => 
      F_arith_Alu Unit (x0, (x1Umin, x1Umax, x1Smin, x1Smax, x1Bits_Value, x1Bits_Mask), (x2Umin, x2Umax, x2Smin, x2Smax, x2Bits_Value, x2Bits_Mask), false) fun y =>
        br (W.not (W.not y.2))
          (F_clevisref08Check Unit (x1Umin, x1Umax, x1Smin, x1Smax, x1Bits_Value, x1Bits_Mask) fun y_1 =>
            br (W.not (W.pick false true (W.not y_1)))
              (F_clevisref08Check Unit (x2Umin, x2Umax, x2Smin, x2Smax, x2Bits_Value, x2Bits_Mask) fun y_2 =>
                br (W.pick false true (W.not y_2))
                  (F_clevisref08Any Unit () fun y_3 =>
                    br
                      (W.and2 (W.eq y.1.1 y_3.1)
                        (W.and2 (W.eq y.1.2.1 y_3.2.1)
                          (W.and2 (W.eq y.1.2.2.1 y_3.2.2.1) (W.and2 (W.eq y.1.2.2.2.1 y_3.2.2.2.1) (W.and2 (W.eq y.1.2.2.2.2.1 y_3.2.2.2.2.1) (W.and2 (W.eq y.1.2.2.2.2.2 y_3.2.2.2.2.2) true))))))
                      (F_clevislaw09heads Unit () fun y => br (W.pick true y false) (some ()) none) none)
                  (br (W.pick (W.le y.1.2.1 4294967295) (W.ge y.1.2.2.1 0) false) (F_clevislaw09heads Unit () fun y => br (W.pick true y false) (some ()) none) none))
              (F_clevisref08Any Unit () fun y_2 =>
                br
                  (W.and2 (W.eq y.1.1 y_2.1)
                    (W.and2 (W.eq y.1.2.1 y_2.2.1)
                      (W.and2 (W.eq y.1.2.2.1 y_2.2.2.1) (W.and2 (W.eq y.1.2.2.2.1 y_2.2.2.2.1) (W.and2 (W.eq y.1.2.2.2.2.1 y_2.2.2.2.2.1) (W.and2 (W.eq y.1.2.2.2.2.2 y_2.2.2.2.2.2) true))))))
                  (F_clevislaw09heads Unit () fun y => br (W.pick true y false) (some ()) none) none))
          (F_clevisref08Any Unit () fun y_1 =>
            br
              (W.and2 (W.eq y.1.1 y_1.1)
                (W.and2 (W.eq y.1.2.1 y_1.2.1)
                  (W.and2 (W.eq y.1.2.2.1 y_1.2.2.1) (W.and2 (W.eq y.1.2.2.2.1 y_1.2.2.2.1) (W.and2 (W.eq y.1.2.2.2.2.1 y_1.2.2.2.2.1) (W.and2 (W.eq y.1.2.2.2.2.2 y_1.2.2.2.2.2) true))))))
              (F_clevislaw09heads Unit () fun y => br (W.pick true y false) (some ()) none) none)
theorem E_clevislaw09ArithLow {F_arith_Alu : FT ps_arith_Alu qs_arith_Alu} {F_clevisref08Check : FT ps_clevisref08Check qs_clevisref08Check} {F_clevisref08Any : FT ps_clevisref08Any qs_clevisref08Any} {F_clevislaw09heads : FT ps_clevislaw09heads qs_clevislaw09heads} (h_arith_Alu : SpecOk Try.prog 8 (mkS ps_arith_Alu qs_arith_Alu F_arith_Alu)) (h_clevisref08Check : SpecOk Try.prog 12 (mkS ps_clevisref08Check qs_clevisref08Check F_clevisref08Check)) (h_clevisref08Any : SpecOk Try.prog 15 (mkS ps_clevisref08Any qs_clevisref08Any F_clevisref08Any)) (h_clevislaw09heads : SpecOk Try.prog 10 (mkS ps_clevislaw09heads qs_clevislaw09heads F_clevislaw09heads)) (x : PTs.D ps_clevislaw09ArithLow) (hL : L_clevislaw09ArithLow F_arith_Alu F_clevisref08Check F_clevisref08Any F_clevislaw09heads x = some ()) :
    ∃ (C : Cfg) (fl d : Nat), CfgOk C ∧ C.P = Try.prog ∧ call C fl d 6 (encL false ps_clevislaw09ArithLow x) [] getL = some () :=
  ⟨_, 10, 12, (cfgOk_cons (cfgOk_cons (cfgOk_cons (cfgOk_cons base h_clevislaw09heads) h_clevisref08Any) h_clevisref08Check) h_arith_Alu), rfl, (show _ = L_clevislaw09ArithLow F_arith_Alu F_clevisref08Check F_clevisref08Any F_clevislaw09heads x by obtain ⟨x0, ⟨x1Umin, x1Umax, x1Smin, x1Smax, ⟨x1Bits_Value, x1Bits_Mask⟩⟩, ⟨x2Umin, x2Umax, x2Smin, x2Smax, ⟨x2Bits_Value, x2Bits_Mask⟩⟩⟩ := x; kernel_rfl).trans hL⟩
abbrev ps_clevislaw09ArithRight : List PT := [.one (.int .i64), .agg ((.prod (.int .u64) (.prod (.int .u64) (.prod (.int .i64) (.prod (.int .i64) ((.prod (.int .u64) (.int .u64)))))))), .agg ((.prod (.int .u64) (.prod (.int .u64) (.prod (.int .i64) (.prod (.int .i64) ((.prod (.int .u64) (.int .u64)))))))), .one (.bool)]
noncomputable def L_clevislaw09ArithRight (F_arith_Alu : FT ps_arith_Alu qs_arith_Alu) (F_clevisref01Alu : FT ps_clevisref01Alu qs_clevisref01Alu) (F_clevisref08Check : FT ps_clevisref08Check qs_clevisref08Check) (F_clevisref08Any : FT ps_clevisref08Any qs_clevisref08Any) (F_clevislaw09heads : FT ps_clevislaw09heads qs_clevislaw09heads)  (x : PTs.D ps_clevislaw09ArithRight) : Option Unit := match x with
  | (x0, (x1Umin, x1Umax, x1Smin, x1Smax, (x1Bits_Value, x1Bits_Mask)), (x2Umin, x2Umax, x2Smin, x2Smax, (x2Bits_Value, x2Bits_Mask)), x3) => 
      F_arith_Alu Unit (x0, (x1Umin, x1Umax, x1Smin, x1Smax, x1Bits_Value, x1Bits_Mask), (x2Umin, x2Umax, x2Smin, x2Smax, x2Bits_Value, x2Bits_Mask), x3) fun y =>
        F_clevisref08Check Unit (x1Umin, x1Umax, x1Smin, x1Smax, x1Bits_Value, x1Bits_Mask) fun y_1 =>
          br y_1
            (F_clevisref08Check Unit (x2Umin, x2Umax, x2Smin, x2Smax, x2Bits_Value, x2Bits_Mask) fun y_2 =>
              br (W.pick true y_2 false)
                (F_clevisref08Check Unit (y.1.1, y.1.2.1, y.1.2.2.1, y.1.2.2.2.1, y.1.2.2.2.2.1, y.1.2.2.2.2.2) fun y =>
                  br y (F_clevislaw09heads Unit () fun y => br (W.pick true y false) (some ()) none) none)
                (F_clevisref01Alu Unit (x0, 0, 0, true) fun y_3 =>
                  F_clevisref08Any Unit () fun y_4 =>
                    br
                      (W.pick
                        (W.and2 (W.eq y.1.1 y_4.1)
                          (W.and2 (W.eq y.1.2.1 y_4.2.1)
                            (W.and2 (W.eq y.1.2.2.1 y_4.2.2.1) (W.and2 (W.eq y.1.2.2.2.1 y_4.2.2.2.1) (W.and2 (W.eq y.1.2.2.2.2.1 y_4.2.2.2.2.1) (W.and2 (W.eq y.1.2.2.2.2.2 y_4.2.2.2.2.2) true))))))
                        (W.eqB y.2 y_3.2) false)
                      (F_clevislaw09heads Unit () fun y => br (W.pick true y false) (some ()) none) none))
            (F_clevisref01Alu Unit (x0, 0, 0, true) fun y_2 =>
              F_clevisref08Any Unit () fun y_3 =>
                br
                  (W.pick
                    (W.and2 (W.eq y.1.1 y_3.1)
                      (W.and2 (W.eq y.1.2.1 y_3.2.1)
                        (W.and2 (W.eq y.1.2.2.1 y_3.2.2.1) (W.and2 (W.eq y.1.2.2.2.1 y_3.2.2.2.1) (W.and2 (W.eq y.1.2.2.2.2.1 y_3.2.2.2.2.1) (W.and2 (W.eq y.1.2.2.2.2.2 y_3.2.2.2.2.2) true))))))
                    (W.eqB y.2 y_2.2) false)
                  (F_clevislaw09heads Unit () fun y => br (W.pick true y false) (some ()) none) none)
theorem E_clevislaw09ArithRight {F_arith_Alu : FT ps_arith_Alu qs_arith_Alu} {F_clevisref01Alu : FT ps_clevisref01Alu qs_clevisref01Alu} {F_clevisref08Check : FT ps_clevisref08Check qs_clevisref08Check} {F_clevisref08Any : FT ps_clevisref08Any qs_clevisref08Any} {F_clevislaw09heads : FT ps_clevislaw09heads qs_clevislaw09heads} (h_arith_Alu : SpecOk Try.prog 8 (mkS ps_arith_Alu qs_arith_Alu F_arith_Alu)) (h_clevisref01Alu : SpecOk Try.prog 11 (mkS ps_clevisref01Alu qs_clevisref01Alu F_clevisref01Alu)) (h_clevisref08Check : SpecOk Try.prog 12 (mkS ps_clevisref08Check qs_clevisref08Check F_clevisref08Check)) (h_clevisref08Any : SpecOk Try.prog 15 (mkS ps_clevisref08Any qs_clevisref08Any F_clevisref08Any)) (h_clevislaw09heads : SpecOk Try.prog 10 (mkS ps_clevislaw09heads qs_clevislaw09heads F_clevislaw09heads)) (x : PTs.D ps_clevislaw09ArithRight) (hL : L_clevislaw09ArithRight F_arith_Alu F_clevisref01Alu F_clevisref08Check F_clevisref08Any F_clevislaw09heads x = some ()) :
    ∃ (C : Cfg) (fl d : Nat), CfgOk C ∧ C.P = Try.prog ∧ call C fl d 7 (encL false ps_clevislaw09ArithRight x) [] getL = some () :=
  ⟨_, 10, 12, (cfgOk_cons (cfgOk_cons (cfgOk_cons (cfgOk_cons (cfgOk_cons base h_clevislaw09heads) h_clevisref08Any) h_clevisref08Check) h_clevisref01Alu) h_arith_Alu), rfl, (show _ = L_clevislaw09ArithRight F_arith_Alu F_clevisref01Alu F_clevisref08Check F_clevisref08Any F_clevislaw09heads x by obtain ⟨x0, ⟨x1Umin, x1Umax, x1Smin, x1Smax, ⟨x1Bits_Value, x1Bits_Mask⟩⟩, ⟨x2Umin, x2Umax, x2Smin, x2Smax, ⟨x2Bits_Value, x2Bits_Mask⟩⟩, x3⟩ := x; kernel_rfl).trans hL⟩
end Go.Proofs.Ytomdfcjnmogcbaa
