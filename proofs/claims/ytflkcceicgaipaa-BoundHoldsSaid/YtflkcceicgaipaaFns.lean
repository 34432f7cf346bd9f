import Derived.Test.YtflkcceicgaipaaProg
import Derived.Test.YtflkcceicgaipaaEngO
import Derived.KernelRfl
set_option maxHeartbeats 0
set_option maxRecDepth 1000000
set_option linter.unusedVariables false
namespace Go.Proofs.Ytflkcceicgaipaa
open Go Go.Eng
theorem base : CfgOk (Cw Try.prog []) := cfgOk_nil (noGo_of (by kernel_rfl)) (by kernel_rfl)

abbrev ps_tnum_tidy : List PT := [.one (.int .u64), .one (.int .u64)]
abbrev qs_tnum_tidy : List PT := [.agg ((.prod (.int .u64) (.int .u64)))]
def N_tnum_tidy  : FT ps_tnum_tidy qs_tnum_tidy := fun R x k => match x with
  | (x0, x1) => 
      k (W.wrap IntKind.u64 (W.andNot IntKind.u64 x0 x1), x1)
theorem S_tnum_tidy   : SpecOk Try.prog 58 (mkS ps_tnum_tidy qs_tnum_tidy (N_tnum_tidy )) :=
  specOk_mk (fl := 10) (d := 12) base (by rintro R ⟨x0, x1⟩ k; kernel_rfl)
def F_tnum_tidy : FT ps_tnum_tidy qs_tnum_tidy := N_tnum_tidy 
theorem ok_tnum_tidy : SpecOk Try.prog 58 (mkS ps_tnum_tidy qs_tnum_tidy F_tnum_tidy) := S_tnum_tidy 
abbrev ps_tnum_Check : List PT := [.agg ((.prod (.int .u64) (.int .u64)))]
abbrev qs_tnum_Check : List PT := [.one (.bool)]
def N_tnum_Check (F_tnum_tidy : FT ps_tnum_tidy qs_tnum_tidy) : FT ps_tnum_Check qs_tnum_Check := fun R x k => match x with
  | (x0Value, x0Mask) => 
      F_tnum_tidy R (x0Value, x0Mask) fun y => k (W.and2 (W.eq x0Value y.1) (W.and2 (W.eq x0Mask y.2) true))
theorem S_tnum_Check {F_tnum_tidy : FT ps_tnum_tidy qs_tnum_tidy} (h_tnum_tidy : SpecOk Try.prog 58 (mkS ps_tnum_tidy qs_tnum_tidy F_tnum_tidy)) : SpecOk Try.prog 32 (mkS ps_tnum_Check qs_tnum_Check (N_tnum_Check F_tnum_tidy)) :=
  specOk_mk (fl := 10) (d := 12) (cfgOk_cons base h_tnum_tidy) (by rintro R ⟨x0Value, x0Mask⟩ k; kernel_rfl)
def F_tnum_Check : FT ps_tnum_Check qs_tnum_Check := N_tnum_Check F_tnum_tidy
theorem ok_tnum_Check : SpecOk Try.prog 32 (mkS ps_tnum_Check qs_tnum_Check F_tnum_Check) := S_tnum_Check ok_tnum_tidy
abbrev ps_bound_Check : List PT := [.agg ((.prod (.int .u64) (.prod (.int .u64) (.prod (.int .i64) (.prod (.int .i64) ((.prod (.int .u64) (.int .u64))))))))]
abbrev qs_bound_Check : List PT := [.one (.bool)]
def N_bound_Check (F_tnum_Check : FT ps_tnum_Check qs_tnum_Check) : FT ps_bound_Check qs_bound_Check := fun R x k => match x with
  | (x0Umin, x0Umax, x0Smin, x0Smax, (x0Bits_Value, x0Bits_Mask)) => 
      br (W.pick (W.le x0Umin x0Umax) (W.le x0Smin x0Smax) false) (F_tnum_Check R (x0Bits_Value, x0Bits_Mask) fun y => k (W.pick true y false)) (k false)
theorem S_bound_Check {F_tnum_Check : FT ps_tnum_Check qs_tnum_Check} (h_tnum_Check : SpecOk Try.prog 32 (mkS ps_tnum_Check qs_tnum_Check F_tnum_Check)) : SpecOk Try.prog 10 (mkS ps_bound_Check qs_bound_Check (N_bound_Check F_tnum_Check)) :=
  specOk_mk (fl := 10) (d := 12) (cfgOk_cons base h_tnum_Check) (by rintro R ⟨x0Umin, x0Umax, x0Smin, x0Smax, ⟨x0Bits_Value, x0Bits_Mask⟩⟩ k; kernel_rfl)
def F_bound_Check : FT ps_bound_Check qs_bound_Check := N_bound_Check F_tnum_Check
theorem ok_bound_Check : SpecOk Try.prog 10 (mkS ps_bound_Check qs_bound_Check F_bound_Check) := S_bound_Check ok_tnum_Check
abbrev ps_bound_among_uint64 : List PT := [.one (.int .u64), .one (.int .u64), .one (.int .u64)]
abbrev qs_bound_among_uint64 : List PT := [.one (.bool)]
def N_bound_among_uint64  : FT ps_bound_among_uint64 qs_bound_among_uint64 := fun R x k => match x with
  | (x0, x1, x2) => 
      k (W.pick (W.le x1 x0) (W.le x0 x2) false)
theorem S_bound_among_uint64   : SpecOk Try.prog 39 (mkS ps_bound_among_uint64 qs_bound_among_uint64 (N_bound_among_uint64 )) :=
  specOk_mk (fl := 10) (d := 12) base (by rintro R ⟨x0, x1, x2⟩ k; kernel_rfl)
def F_bound_among_uint64 : FT ps_bound_among_uint64 qs_bound_among_uint64 := N_bound_among_uint64 
theorem ok_bound_among_uint64 : SpecOk Try.prog 39 (mkS ps_bound_among_uint64 qs_bound_among_uint64 F_bound_among_uint64) := S_bound_among_uint64 
abbrev ps_bound_among_int64 : List PT := [.one (.int .i64), .one (.int .i64), .one (.int .i64)]
abbrev qs_bound_among_int64 : List PT := [.one (.bool)]
def N_bound_among_int64  : FT ps_bound_among_int64 qs_bound_among_int64 := fun R x k => match x with
  | (x0, x1, x2) => 
      k (W.pick (W.le x1 x0) (W.le x0 x2) false)
theorem S_bound_among_int64   : SpecOk Try.prog 40 (mkS ps_bound_among_int64 qs_bound_among_int64 (N_bound_among_int64 )) :=
  specOk_mk (fl := 10) (d := 12) base (by rintro R ⟨x0, x1, x2⟩ k; kernel_rfl)
def F_bound_among_int64 : FT ps_bound_among_int64 qs_bound_among_int64 := N_bound_among_int64 
theorem ok_bound_among_int64 : SpecOk Try.prog 40 (mkS ps_bound_among_int64 qs_bound_among_int64 F_bound_among_int64) := S_bound_among_int64 
abbrev ps_tnum_In : List PT := [.agg ((.prod (.int .u64) (.int .u64))), .one (.int .u64)]
abbrev qs_tnum_In : List PT := [.one (.bool)]
def N_tnum_In (F_tnum_tidy : FT ps_tnum_tidy qs_tnum_tidy) : FT ps_tnum_In qs_tnum_In := fun R x k => match x with
  | ((x0Value, x0Mask), x1) => 
      F_tnum_tidy R (x1, x0Mask) fun y => k (W.and2 (W.eq y.1 x0Value) (W.and2 (W.eq y.2 x0Mask) true))
theorem S_tnum_In {F_tnum_tidy : FT ps_tnum_tidy qs_tnum_tidy} (h_tnum_tidy : SpecOk Try.prog 58 (mkS ps_tnum_tidy qs_tnum_tidy F_tnum_tidy)) : SpecOk Try.prog 41 (mkS ps_tnum_In qs_tnum_In (N_tnum_In F_tnum_tidy)) :=
  specOk_mk (fl := 10) (d := 12) (cfgOk_cons base h_tnum_tidy) (by rintro R ⟨⟨x0Value, x0Mask⟩, x1⟩ k; kernel_rfl)
def F_tnum_In : FT ps_tnum_In qs_tnum_In := N_tnum_In F_tnum_tidy
theorem ok_tnum_In : SpecOk Try.prog 41 (mkS ps_tnum_In qs_tnum_In F_tnum_In) := S_tnum_In ok_tnum_tidy
abbrev ps_bound_In : List PT := [.agg ((.prod (.int .u64) (.prod (.int .u64) (.prod (.int .i64) (.prod (.int .i64) ((.prod (.int .u64) (.int .u64)))))))), .one (.int .u64)]
abbrev qs_bound_In : List PT := [.one (.bool)]
def N_bound_In (F_bound_among_uint64 : FT ps_bound_among_uint64 qs_bound_among_uint64) (F_bound_among_int64 : FT ps_bound_among_int64 qs_bound_among_int64) (F_tnum_In : FT ps_tnum_In qs_tnum_In) : FT ps_bound_In qs_bound_In := fun R x k => match x with
  | ((x0Umin, x0Umax, x0Smin, x0Smax, (x0Bits_Value, x0Bits_Mask)), x1) => 
      F_bound_among_uint64 R (x1, x0Umin, x0Umax) fun y =>
        br y (F_bound_among_int64 R (W.wrap IntKind.i64 x1, x0Smin, x0Smax) fun y => br (W.pick true y false) (F_tnum_In R ((x0Bits_Value, x0Bits_Mask), x1) fun y => k (W.pick true y false)) (k false))
          (k false)
theorem S_bound_In {F_bound_among_uint64 : FT ps_bound_among_uint64 qs_bound_among_uint64} {F_bound_among_int64 : FT ps_bound_among_int64 qs_bound_among_int64} {F_tnum_In : FT ps_tnum_In qs_tnum_In} (h_bound_among_uint64 : SpecOk Try.prog 39 (mkS ps_bound_among_uint64 qs_bound_among_uint64 F_bound_among_uint64)) (h_bound_among_int64 : SpecOk Try.prog 40 (mkS ps_bound_among_int64 qs_bound_among_int64 F_bound_among_int64)) (h_tnum_In : SpecOk Try.prog 41 (mkS ps_tnum_In qs_tnum_In F_tnum_In)) : SpecOk Try.prog 13 (mkS ps_bound_In qs_bound_In (N_bound_In F_bound_among_uint64 F_bound_among_int64 F_tnum_In)) :=
  specOk_mk (fl := 10) (d := 12) (cfgOk_cons (cfgOk_cons (cfgOk_cons base h_tnum_In) h_bound_among_int64) h_bound_among_uint64) (by rintro R ⟨⟨x0Umin, x0Umax, x0Smin, x0Smax, ⟨x0Bits_Value, x0Bits_Mask⟩⟩, x1⟩ k; kernel_rfl)
def F_bound_In : FT ps_bound_In qs_bound_In := N_bound_In F_bound_among_uint64 F_bound_among_int64 F_tnum_In
theorem ok_bound_In : SpecOk Try.prog 13 (mkS ps_bound_In qs_bound_In F_bound_In) := S_bound_In ok_bound_among_uint64 ok_bound_among_int64 ok_tnum_In
abbrev ps_tnum_Within : List PT := [.agg ((.prod (.int .u64) (.int .u64))), .agg ((.prod (.int .u64) (.int .u64)))]
abbrev qs_tnum_Within : List PT := [.one (.bool)]
def N_tnum_Within (F_tnum_In : FT ps_tnum_In qs_tnum_In) : FT ps_tnum_Within qs_tnum_Within := fun R x k => match x with
  | ((x0Value, x0Mask), (x1Value, x1Mask)) => 
      br (W.eq (W.wrap IntKind.u64 (W.or IntKind.u64 x1Mask x0Mask)) x0Mask) (F_tnum_In R ((x0Value, x0Mask), x1Value) fun y => k (W.pick true y false)) (k false)
theorem S_tnum_Within {F_tnum_In : FT ps_tnum_In qs_tnum_In} (h_tnum_In : SpecOk Try.prog 41 (mkS ps_tnum_In qs_tnum_In F_tnum_In)) : SpecOk Try.prog 44 (mkS ps_tnum_Within qs_tnum_Within (N_tnum_Within F_tnum_In)) :=
  specOk_mk (fl := 10) (d := 12) (cfgOk_cons base h_tnum_In) (by rintro R ⟨⟨x0Value, x0Mask⟩, ⟨x1Value, x1Mask⟩⟩ k; kernel_rfl)
def F_tnum_Within : FT ps_tnum_Within qs_tnum_Within := N_tnum_Within F_tnum_In
theorem ok_tnum_Within : SpecOk Try.prog 44 (mkS ps_tnum_Within qs_tnum_Within F_tnum_Within) := S_tnum_Within ok_tnum_In
abbrev ps_bound_Within : List PT := [.agg ((.prod (.int .u64) (.prod (.int .u64) (.prod (.int .i64) (.prod (.int .i64) ((.prod (.int .u64) (.int .u64)))))))), .agg ((.prod (.int .u64) (.prod (.int .u64) (.prod (.int .i64) (.prod (.int .i64) ((.prod (.int .u64) (.int .u64))))))))]
abbrev qs_bound_Within : List PT := [.one (.bool)]
def N_bound_Within (F_bound_among_uint64 : FT ps_bound_among_uint64 qs_bound_among_uint64) (F_bound_among_int64 : FT ps_bound_among_int64 qs_bound_among_int64) (F_tnum_Within : FT ps_tnum_Within qs_tnum_Within) : FT ps_bound_Within qs_bound_Within := fun R x k => match x with
  | ((x0Umin, x0Umax, x0Smin, x0Smax, (x0Bits_Value, x0Bits_Mask)), (x1Umin, x1Umax, x1Smin, x1Smax, (x1Bits_Value, x1Bits_Mask))) => 
      F_bound_among_uint64 R (x1Umin, x0Umin, x0Umax) fun y =>
        br y
          (F_bound_among_uint64 R (x1Umax, x0Umin, x0Umax) fun y =>
            F_bound_among_int64 R (x1Smin, x0Smin, x0Smax) fun y_1 =>
              br y_1
                (F_bound_among_int64 R (x1Smax, x0Smin, x0Smax) fun y_2 =>
                  br (W.pick (W.pick true y false) (W.pick true y_2 false) false) (F_tnum_Within R ((x0Bits_Value, x0Bits_Mask), x1Bits_Value, x1Bits_Mask) fun y => k (W.pick true y false)) (k false))
                (br (W.pick (W.pick true y false) false false) (F_tnum_Within R ((x0Bits_Value, x0Bits_Mask), x1Bits_Value, x1Bits_Mask) fun y => k (W.pick true y false)) (k false)))
          (F_bound_among_int64 R (x1Smin, x0Smin, x0Smax) fun y =>
            br y
              (F_bound_among_int64 R (x1Smax, x0Smin, x0Smax) fun y =>
                br (W.pick false (W.pick true y false) false) (F_tnum_Within R ((x0Bits_Value, x0Bits_Mask), x1Bits_Value, x1Bits_Mask) fun y => k (W.pick true y false)) (k false))
              (k false))
theorem S_bound_Within {F_bound_among_uint64 : FT ps_bound_among_uint64 qs_bound_among_uint64} {F_bound_among_int64 : FT ps_bound_among_int64 qs_bound_among_int64} {F_tnum_Within : FT ps_tnum_Within qs_tnum_Within} (h_bound_among_uint64 : SpecOk Try.prog 39 (mkS ps_bound_among_uint64 qs_bound_among_uint64 F_bound_among_uint64)) (h_bound_among_int64 : SpecOk Try.prog 40 (mkS ps_bound_among_int64 qs_bound_among_int64 F_bound_among_int64)) (h_tnum_Within : SpecOk Try.prog 44 (mkS ps_tnum_Within qs_tnum_Within F_tnum_Within)) : SpecOk Try.prog 18 (mkS ps_bound_Within qs_bound_Within (N_bound_Within F_bound_among_uint64 F_bound_among_int64 F_tnum_Within)) :=
  specOk_mk (fl := 10) (d := 12) (cfgOk_cons (cfgOk_cons (cfgOk_cons base h_tnum_Within) h_bound_among_int64) h_bound_among_uint64) (by rintro R ⟨⟨x0Umin, x0Umax, x0Smin, x0Smax, ⟨x0Bits_Value, x0Bits_Mask⟩⟩, ⟨x1Umin, x1Umax, x1Smin, x1Smax, ⟨x1Bits_Value, x1Bits_Mask⟩⟩⟩ k; kernel_rfl)
def F_bound_Within : FT ps_bound_Within qs_bound_Within := N_bound_Within F_bound_among_uint64 F_bound_among_int64 F_tnum_Within
theorem ok_bound_Within : SpecOk Try.prog 18 (mkS ps_bound_Within qs_bound_Within F_bound_Within) := S_bound_Within ok_bound_among_uint64 ok_bound_among_int64 ok_tnum_Within
abbrev ps_tnum_Any : List PT := []
abbrev qs_tnum_Any : List PT := [.agg ((.prod (.int .u64) (.int .u64)))]
def N_tnum_Any  : FT ps_tnum_Any qs_tnum_Any := fun R x k => match x with
  | () => 
      k (0, 18446744073709551615)
theorem S_tnum_Any   : SpecOk Try.prog 49 (mkS ps_tnum_Any qs_tnum_Any (N_tnum_Any )) :=
  specOk_mk (fl := 10) (d := 12) base (by intro R x k; kernel_rfl)
def F_tnum_Any : FT ps_tnum_Any qs_tnum_Any := N_tnum_Any 
theorem ok_tnum_Any : SpecOk Try.prog 49 (mkS ps_tnum_Any qs_tnum_Any F_tnum_Any) := S_tnum_Any 
abbrev ps_tnum_Const : List PT := [.one (.int .u64)]
abbrev qs_tnum_Const : List PT := [.agg ((.prod (.int .u64) (.int .u64)))]
def N_tnum_Const  : FT ps_tnum_Const qs_tnum_Const := fun R x k => match x with
  | x0 => 
      k (x0, 0)
theorem S_tnum_Const   : SpecOk Try.prog 46 (mkS ps_tnum_Const qs_tnum_Const (N_tnum_Const )) :=
  specOk_mk (fl := 10) (d := 12) base (by intro R x0 k; kernel_rfl)
def F_tnum_Const : FT ps_tnum_Const qs_tnum_Const := N_tnum_Const 
theorem ok_tnum_Const : SpecOk Try.prog 46 (mkS ps_tnum_Const qs_tnum_Const F_tnum_Const) := S_tnum_Const 
abbrev ps_bound_Const : List PT := [.one (.int .u64)]
abbrev qs_bound_Const : List PT := [.agg ((.prod (.int .u64) (.prod (.int .u64) (.prod (.int .i64) (.prod (.int .i64) ((.prod (.int .u64) (.int .u64))))))))]
def N_bound_Const (F_tnum_Const : FT ps_tnum_Const qs_tnum_Const) : FT ps_bound_Const qs_bound_Const := fun R x k => match x with
  | x0 => 
      F_tnum_Const R x0 fun y => k (x0, x0, W.wrap IntKind.i64 x0, W.wrap IntKind.i64 x0, y.1, y.2)
theorem S_bound_Const {F_tnum_Const : FT ps_tnum_Const qs_tnum_Const} (h_tnum_Const : SpecOk Try.prog 46 (mkS ps_tnum_Const qs_tnum_Const F_tnum_Const)) : SpecOk Try.prog 20 (mkS ps_bound_Const qs_bound_Const (N_bound_Const F_tnum_Const)) :=
  specOk_mk (fl := 10) (d := 12) (cfgOk_cons base h_tnum_Const) (by intro R x0 k; kernel_rfl)
def F_bound_Const : FT ps_bound_Const qs_bound_Const := N_bound_Const F_tnum_Const
theorem ok_bound_Const : SpecOk Try.prog 20 (mkS ps_bound_Const qs_bound_Const F_bound_Const) := S_bound_Const ok_tnum_Const
abbrev ps_bound_Any : List PT := []
abbrev qs_bound_Any : List PT := [.agg ((.prod (.int .u64) (.prod (.int .u64) (.prod (.int .i64) (.prod (.int .i64) ((.prod (.int .u64) (.int .u64))))))))]
def N_bound_Any (F_tnum_Any : FT ps_tnum_Any qs_tnum_Any) : FT ps_bound_Any qs_bound_Any := fun R x k => match x with
  | () => 
      F_tnum_Any R () fun y => k (0, 18446744073709551615, -9223372036854775808, 9223372036854775807, y.1, y.2)
theorem S_bound_Any {F_tnum_Any : FT ps_tnum_Any qs_tnum_Any} (h_tnum_Any : SpecOk Try.prog 49 (mkS ps_tnum_Any qs_tnum_Any F_tnum_Any)) : SpecOk Try.prog 24 (mkS ps_bound_Any qs_bound_Any (N_bound_Any F_tnum_Any)) :=
  specOk_mk (fl := 10) (d := 12) (cfgOk_cons base h_tnum_Any) (by intro R x k; kernel_rfl)
def F_bound_Any : FT ps_bound_Any qs_bound_Any := N_bound_Any F_tnum_Any
theorem ok_bound_Any : SpecOk Try.prog 24 (mkS ps_bound_Any qs_bound_Any F_bound_Any) := S_bound_Any ok_tnum_Any
abbrev ps_bound_Size : List PT := [.one (.int .i64)]
abbrev qs_bound_Size : List PT := [.agg ((.prod (.int .u64) (.prod (.int .u64) (.prod (.int .i64) (.prod (.int .i64) ((.prod (.int .u64) (.int .u64))))))))]
def N_bound_Size (F_bound_Any : FT ps_bound_Any qs_bound_Any) : FT ps_bound_Size qs_bound_Size := fun R x k => match x with
  | x0 => 
      br (W.pick (W.pick (W.ne x0 1) (W.ne x0 2) false) (W.ne x0 4) false)
        (F_bound_Any R () fun y =>
          k (y.1, (Prod.snd y).1, (Prod.snd (Prod.snd y)).1, (Prod.snd (Prod.snd (Prod.snd y))).1, (Prod.snd (Prod.snd (Prod.snd (Prod.snd y)))).1, (Prod.snd (Prod.snd (Prod.snd (Prod.snd y)))).2))
        (br (W.lt (W.wrap IntKind.i64 (W.mul 8 x0)) 0) none
          (k
            (0, W.wrap IntKind.u64 (W.sub (W.wrap IntKind.u64 (W.shl IntKind.u64 1 (W.wrap IntKind.i64 (W.mul 8 x0)))) 1), 0,
              W.wrap IntKind.i64 (W.wrap IntKind.u64 (W.sub (W.wrap IntKind.u64 (W.shl IntKind.u64 1 (W.wrap IntKind.i64 (W.mul 8 x0)))) 1)), 0,
              W.wrap IntKind.u64 (W.sub (W.wrap IntKind.u64 (W.shl IntKind.u64 1 (W.wrap IntKind.i64 (W.mul 8 x0)))) 1))))
theorem S_bound_Size {F_bound_Any : FT ps_bound_Any qs_bound_Any} (h_bound_Any : SpecOk Try.prog 24 (mkS ps_bound_Any qs_bound_Any F_bound_Any)) : SpecOk Try.prog 22 (mkS ps_bound_Size qs_bound_Size (N_bound_Size F_bound_Any)) :=
  specOk_mk (fl := 10) (d := 12) (cfgOk_cons base h_bound_Any) (by intro R x0 k; kernel_rfl)
def F_bound_Size : FT ps_bound_Size qs_bound_Size := N_bound_Size F_bound_Any
theorem ok_bound_Size : SpecOk Try.prog 22 (mkS ps_bound_Size qs_bound_Size F_bound_Size) := S_bound_Size ok_bound_Any
abbrev ps_clevisref07Any : List PT := []
abbrev qs_clevisref07Any : List PT := [.agg ((.prod (.int .u64) (.int .u64)))]
def N_clevisref07Any  : FT ps_clevisref07Any qs_clevisref07Any := fun R x k => match x with
  | () => 
      k (0, 18446744073709551615)
theorem S_clevisref07Any   : SpecOk Try.prog 59 (mkS ps_clevisref07Any qs_clevisref07Any (N_clevisref07Any )) :=
  specOk_mk (fl := 10) (d := 12) base (by intro R x k; kernel_rfl)
def F_clevisref07Any : FT ps_clevisref07Any qs_clevisref07Any := N_clevisref07Any 
theorem ok_clevisref07Any : SpecOk Try.prog 59 (mkS ps_clevisref07Any qs_clevisref07Any F_clevisref07Any) := S_clevisref07Any 
abbrev ps_clevisref08Any : List PT := []
abbrev qs_clevisref08Any : List PT := [.agg ((.prod (.int .u64) (.prod (.int .u64) (.prod (.int .i64) (.prod (.int .i64) ((.prod (.int .u64) (.int .u64))))))))]
def N_clevisref08Any (F_clevisref07Any : FT ps_clevisref07Any qs_clevisref07Any) : FT ps_clevisref08Any qs_clevisref08Any := fun R x k => match x with
  | () => 
      F_clevisref07Any R () fun y => k (0, 18446744073709551615, -9223372036854775808, 9223372036854775807, y.1, y.2)
theorem S_clevisref08Any {F_clevisref07Any : FT ps_clevisref07Any qs_clevisref07Any} (h_clevisref07Any : SpecOk Try.prog 59 (mkS ps_clevisref07Any qs_clevisref07Any F_clevisref07Any)) : SpecOk Try.prog 33 (mkS ps_clevisref08Any qs_clevisref08Any (N_clevisref08Any F_clevisref07Any)) :=
  specOk_mk (fl := 10) (d := 12) (cfgOk_cons base h_clevisref07Any) (by intro R x k; kernel_rfl)
def F_clevisref08Any : FT ps_clevisref08Any qs_clevisref08Any := N_clevisref08Any F_clevisref07Any
theorem ok_clevisref08Any : SpecOk Try.prog 33 (mkS ps_clevisref08Any qs_clevisref08Any F_clevisref08Any) := S_clevisref08Any ok_clevisref07Any
abbrev ps_bound_empty : List PT := [.agg ((.prod (.int .u64) (.prod (.int .u64) (.prod (.int .i64) (.prod (.int .i64) ((.prod (.int .u64) (.int .u64))))))))]
abbrev qs_bound_empty : List PT := [.one (.bool)]
def N_bound_empty  : FT ps_bound_empty qs_bound_empty := fun R x k => match x with
  | (x0Umin, x0Umax, x0Smin, x0Smax, (x0Bits_Value, x0Bits_Mask)) => 
      k (W.pick (W.gt x0Umin x0Umax) true (W.gt x0Smin x0Smax))
theorem S_bound_empty   : SpecOk Try.prog 35 (mkS ps_bound_empty qs_bound_empty (N_bound_empty )) :=
  specOk_mk (fl := 10) (d := 12) base (by rintro R ⟨x0Umin, x0Umax, x0Smin, x0Smax, ⟨x0Bits_Value, x0Bits_Mask⟩⟩ k; kernel_rfl)
def F_bound_empty : FT ps_bound_empty qs_bound_empty := N_bound_empty 
theorem ok_bound_empty : SpecOk Try.prog 35 (mkS ps_bound_empty qs_bound_empty F_bound_empty) := S_bound_empty 
abbrev ps_tnum_Meet : List PT := [.agg ((.prod (.int .u64) (.int .u64))), .agg ((.prod (.int .u64) (.int .u64)))]
abbrev qs_tnum_Meet : List PT := [.agg ((.prod (.int .u64) (.int .u64))), .one (.bool)]
def N_tnum_Meet (F_tnum_tidy : FT ps_tnum_tidy qs_tnum_tidy) : FT ps_tnum_Meet qs_tnum_Meet := fun R x k => match x with
  | ((x0Value, x0Mask), (x1Value, x1Mask)) => 
      F_tnum_tidy R (W.wrap IntKind.u64 (W.or IntKind.u64 x0Value x1Value), W.wrap IntKind.u64 (W.and IntKind.u64 x0Mask x1Mask)) fun y =>
        k ((y.1, y.2), W.eq (W.wrap IntKind.u64 (W.andNot IntKind.u64 (W.wrap IntKind.u64 (W.andNot IntKind.u64 (W.wrap IntKind.u64 (W.xor IntKind.u64 x0Value x1Value)) x0Mask)) x1Mask)) 0)
theorem S_tnum_Meet {F_tnum_tidy : FT ps_tnum_tidy qs_tnum_tidy} (h_tnum_tidy : SpecOk Try.prog 58 (mkS ps_tnum_tidy qs_tnum_tidy F_tnum_tidy)) : SpecOk Try.prog 37 (mkS ps_tnum_Meet qs_tnum_Meet (N_tnum_Meet F_tnum_tidy)) :=
  specOk_mk (fl := 10) (d := 12) (cfgOk_cons base h_tnum_tidy) (by rintro R ⟨⟨x0Value, x0Mask⟩, ⟨x1Value, x1Mask⟩⟩ k; kernel_rfl)
def F_tnum_Meet : FT ps_tnum_Meet qs_tnum_Meet := N_tnum_Meet F_tnum_tidy
theorem ok_tnum_Meet : SpecOk Try.prog 37 (mkS ps_tnum_Meet qs_tnum_Meet F_tnum_Meet) := S_tnum_Meet ok_tnum_tidy
abbrev ps_bits_Len64 : List PT := [.one (.int .u64)]
abbrev qs_bits_Len64 : List PT := [.one (.int .i64)]
def N_bits_Len64  : FT ps_bits_Len64 qs_bits_Len64 := fun R x k => match x with
  | x0 => 
      br (W.ge x0 4294967296)
        (br (W.ge (W.shr IntKind.u64 x0 32) 65536)
          (br (W.ge (W.shr IntKind.u64 (W.shr IntKind.u64 x0 32) 16) 256)
            (br
              (W.and2 (W.le 0 (W.wrap IntKind.u8 (W.shr IntKind.u64 (W.shr IntKind.u64 (W.shr IntKind.u64 x0 32) 16) 8)))
                (W.lt (W.wrap IntKind.u8 (W.shr IntKind.u64 (W.shr IntKind.u64 (W.shr IntKind.u64 x0 32) 16) 8)) 256))
              (k
                (W.wrap IntKind.i64
                  (W.add 56
                    (W.wrap IntKind.i64
                      (W.byte
                        (ByteArray.mk
                          (Array.mk
                            (0 ::
                              List.append
                                (List.append
                                  [1, 2, 2, 3, 3, 3, 3, 4, 4, 4, 4, 4, 4, 4, 4, 5, 5, 5, 5, 5, 5, 5, 5, 5, 5, 5, 5, 5, 5, 5, 5, 6, 6, 6, 6, 6, 6, 6, 6, 6, 6, 6, 6, 6, 6, 6, 6, 6, 6, 6, 6, 6, 6, 6, 6, 6, 6,
                                    6, 6, 6, 6, 6, 6]
                                  [7, 7, 7, 7, 7, 7, 7, 7, 7, 7, 7, 7, 7, 7, 7, 7, 7, 7, 7, 7, 7, 7, 7, 7, 7, 7, 7, 7, 7, 7, 7, 7, 7, 7, 7, 7, 7, 7, 7, 7, 7, 7, 7, 7, 7, 7, 7, 7, 7, 7, 7, 7, 7, 7, 7, 7, 7,
                                    7, 7, 7, 7, 7, 7, 7])
                                (List.append
                                  [8, 8, 8, 8, 8, 8, 8, 8, 8, 8, 8, 8, 8, 8, 8, 8, 8, 8, 8, 8, 8, 8, 8, 8, 8, 8, 8, 8, 8, 8, 8, 8, 8, 8, 8, 8, 8, 8, 8, 8, 8, 8, 8, 8, 8, 8, 8, 8, 8, 8, 8, 8, 8, 8, 8, 8, 8,
                                    8, 8, 8, 8, 8, 8, 8]
                                  [8, 8, 8, 8, 8, 8, 8, 8, 8, 8, 8, 8, 8, 8, 8, 8, 8, 8, 8, 8, 8, 8, 8, 8, 8, 8, 8, 8, 8, 8, 8, 8, 8, 8, 8, 8, 8, 8, 8, 8, 8, 8, 8, 8, 8, 8, 8, 8, 8, 8, 8, 8, 8, 8, 8, 8, 8,
                                    8, 8, 8, 8, 8, 8, 8]))))
                        (W.toNat (W.wrap IntKind.u8 (W.shr IntKind.u64 (W.shr IntKind.u64 (W.shr IntKind.u64 x0 32) 16) 8))))))))
              none)
            (br (W.and2 (W.le 0 (W.wrap IntKind.u8 (W.shr IntKind.u64 (W.shr IntKind.u64 x0 32) 16))) (W.lt (W.wrap IntKind.u8 (W.shr IntKind.u64 (W.shr IntKind.u64 x0 32) 16)) 256))
              (k
                (W.wrap IntKind.i64
                  (W.add 48
                    (W.wrap IntKind.i64
                      (W.byte
                        (ByteArray.mk
                          (Array.mk
                            (0 ::
                              List.append
                                (List.append
                                  [1, 2, 2, 3, 3, 3, 3, 4, 4, 4, 4, 4, 4, 4, 4, 5, 5, 5, 5, 5, 5, 5, 5, 5, 5, 5, 5, 5, 5, 5, 5, 6, 6, 6, 6, 6, 6, 6, 6, 6, 6, 6, 6, 6, 6, 6, 6, 6, 6, 6, 6, 6, 6, 6, 6, 6, 6,
                                    6, 6, 6, 6, 6, 6]
                                  [7, 7, 7, 7, 7, 7, 7, 7, 7, 7, 7, 7, 7, 7, 7, 7, 7, 7, 7, 7, 7, 7, 7, 7, 7, 7, 7, 7, 7, 7, 7, 7, 7, 7, 7, 7, 7, 7, 7, 7, 7, 7, 7, 7, 7, 7, 7, 7, 7, 7, 7, 7, 7, 7, 7, 7, 7,
                                    7, 7, 7, 7, 7, 7, 7])
                                (List.append
                                  [8, 8, 8, 8, 8, 8, 8, 8, 8, 8, 8, 8, 8, 8, 8, 8, 8, 8, 8, 8, 8, 8, 8, 8, 8, 8, 8, 8, 8, 8, 8, 8, 8, 8, 8, 8, 8, 8, 8, 8, 8, 8, 8, 8, 8, 8, 8, 8, 8, 8, 8, 8, 8, 8, 8, 8, 8,
                                    8, 8, 8, 8, 8, 8, 8]
                                  [8, 8, 8, 8, 8, 8, 8, 8, 8, 8, 8, 8, 8, 8, 8, 8, 8, 8, 8, 8, 8, 8, 8, 8, 8, 8, 8, 8, 8, 8, 8, 8, 8, 8, 8, 8, 8, 8, 8, 8, 8, 8, 8, 8, 8, 8, 8, 8, 8, 8, 8, 8, 8, 8, 8, 8, 8,
                                    8, 8, 8, 8, 8, 8, 8]))))
                        (W.toNat (W.wrap IntKind.u8 (W.shr IntKind.u64 (W.shr IntKind.u64 x0 32) 16))))))))
              none))
          (br (W.ge (W.shr IntKind.u64 x0 32) 256)
            (br (W.and2 (W.le 0 (W.wrap IntKind.u8 (W.shr IntKind.u64 (W.shr IntKind.u64 x0 32) 8))) (W.lt (W.wrap IntKind.u8 (W.shr IntKind.u64 (W.shr IntKind.u64 x0 32) 8)) 256))
              (k
                (W.wrap IntKind.i64
                  (W.add 40
                    (W.wrap IntKind.i64
                      (W.byte
                        (ByteArray.mk
                          (Array.mk
                            (0 ::
                              List.append
                                (List.append
                                  [1, 2, 2, 3, 3, 3, 3, 4, 4, 4, 4, 4, 4, 4, 4, 5, 5, 5, 5, 5, 5, 5, 5, 5, 5, 5, 5, 5, 5, 5, 5, 6, 6, 6, 6, 6, 6, 6, 6, 6, 6, 6, 6, 6, 6, 6, 6, 6, 6, 6, 6, 6, 6, 6, 6, 6, 6,
                                    6, 6, 6, 6, 6, 6]
                                  [7, 7, 7, 7, 7, 7, 7, 7, 7, 7, 7, 7, 7, 7, 7, 7, 7, 7, 7, 7, 7, 7, 7, 7, 7, 7, 7, 7, 7, 7, 7, 7, 7, 7, 7, 7, 7, 7, 7, 7, 7, 7, 7, 7, 7, 7, 7, 7, 7, 7, 7, 7, 7, 7, 7, 7, 7,
                                    7, 7, 7, 7, 7, 7, 7])
                                (List.append
                                  [8, 8, 8, 8, 8, 8, 8, 8, 8, 8, 8, 8, 8, 8, 8, 8, 8, 8, 8, 8, 8, 8, 8, 8, 8, 8, 8, 8, 8, 8, 8, 8, 8, 8, 8, 8, 8, 8, 8, 8, 8, 8, 8, 8, 8, 8, 8, 8, 8, 8, 8, 8, 8, 8, 8, 8, 8,
                                    8, 8, 8, 8, 8, 8, 8]
                                  [8, 8, 8, 8, 8, 8, 8, 8, 8, 8, 8, 8, 8, 8, 8, 8, 8, 8, 8, 8, 8, 8, 8, 8, 8, 8, 8, 8, 8, 8, 8, 8, 8, 8, 8, 8, 8, 8, 8, 8, 8, 8, 8, 8, 8, 8, 8, 8, 8, 8, 8, 8, 8, 8, 8, 8, 8,
                                    8, 8, 8, 8, 8, 8, 8]))))
                        (W.toNat (W.wrap IntKind.u8 (W.shr IntKind.u64 (W.shr IntKind.u64 x0 32) 8))))))))
              none)
            (br (W.and2 (W.le 0 (W.wrap IntKind.u8 (W.shr IntKind.u64 x0 32))) (W.lt (W.wrap IntKind.u8 (W.shr IntKind.u64 x0 32)) 256))
              (k
                (W.wrap IntKind.i64
                  (W.add 32
                    (W.wrap IntKind.i64
                      (W.byte
                        (ByteArray.mk
                          (Array.mk
                            (0 ::
                              List.append
                                (List.append
                                  [1, 2, 2, 3, 3, 3, 3, 4, 4, 4, 4, 4, 4, 4, 4, 5, 5, 5, 5, 5, 5, 5, 5, 5, 5, 5, 5, 5, 5, 5, 5, 6, 6, 6, 6, 6, 6, 6, 6, 6, 6, 6, 6, 6, 6, 6, 6, 6, 6, 6, 6, 6, 6, 6, 6, 6, 6,
                                    6, 6, 6, 6, 6, 6]
                                  [7, 7, 7, 7, 7, 7, 7, 7, 7, 7, 7, 7, 7, 7, 7, 7, 7, 7, 7, 7, 7, 7, 7, 7, 7, 7, 7, 7, 7, 7, 7, 7, 7, 7, 7, 7, 7, 7, 7, 7, 7, 7, 7, 7, 7, 7, 7, 7, 7, 7, 7, 7, 7, 7, 7, 7, 7,
                                    7, 7, 7, 7, 7, 7, 7])
                                (List.append
                                  [8, 8, 8, 8, 8, 8, 8, 8, 8, 8, 8, 8, 8, 8, 8, 8, 8, 8, 8, 8, 8, 8, 8, 8, 8, 8, 8, 8, 8, 8, 8, 8, 8, 8, 8, 8, 8, 8, 8, 8, 8, 8, 8, 8, 8, 8, 8, 8, 8, 8, 8, 8, 8, 8, 8, 8, 8,
                                    8, 8, 8, 8, 8, 8, 8]
                                  [8, 8, 8, 8, 8, 8, 8, 8, 8, 8, 8, 8, 8, 8, 8, 8, 8, 8, 8, 8, 8, 8, 8, 8, 8, 8, 8, 8, 8, 8, 8, 8, 8, 8, 8, 8, 8, 8, 8, 8, 8, 8, 8, 8, 8, 8, 8, 8, 8, 8, 8, 8, 8, 8, 8, 8, 8,
                                    8, 8, 8, 8, 8, 8, 8]))))
                        (W.toNat (W.wrap IntKind.u8 (W.shr IntKind.u64 x0 32))))))))
              none)))
        (br (W.ge x0 65536)
          (br (W.ge (W.shr IntKind.u64 x0 16) 256)
            (br (W.and2 (W.le 0 (W.wrap IntKind.u8 (W.shr IntKind.u64 (W.shr IntKind.u64 x0 16) 8))) (W.lt (W.wrap IntKind.u8 (W.shr IntKind.u64 (W.shr IntKind.u64 x0 16) 8)) 256))
              (k
                (W.wrap IntKind.i64
                  (W.add 24
                    (W.wrap IntKind.i64
                      (W.byte
                        (ByteArray.mk
                          (Array.mk
                            (0 ::
                              List.append
                                (List.append
                                  [1, 2, 2, 3, 3, 3, 3, 4, 4, 4, 4, 4, 4, 4, 4, 5, 5, 5, 5, 5, 5, 5, 5, 5, 5, 5, 5, 5, 5, 5, 5, 6, 6, 6, 6, 6, 6, 6, 6, 6, 6, 6, 6, 6, 6, 6, 6, 6, 6, 6, 6, 6, 6, 6, 6, 6, 6,
                                    6, 6, 6, 6, 6, 6]
                                  [7, 7, 7, 7, 7, 7, 7, 7, 7, 7, 7, 7, 7, 7, 7, 7, 7, 7, 7, 7, 7, 7, 7, 7, 7, 7, 7, 7, 7, 7, 7, 7, 7, 7, 7, 7, 7, 7, 7, 7, 7, 7, 7, 7, 7, 7, 7, 7, 7, 7, 7, 7, 7, 7, 7, 7, 7,
                                    7, 7, 7, 7, 7, 7, 7])
                                (List.append
                                  [8, 8, 8, 8, 8, 8, 8, 8, 8, 8, 8, 8, 8, 8, 8, 8, 8, 8, 8, 8, 8, 8, 8, 8, 8, 8, 8, 8, 8, 8, 8, 8, 8, 8, 8, 8, 8, 8, 8, 8, 8, 8, 8, 8, 8, 8, 8, 8, 8, 8, 8, 8, 8, 8, 8, 8, 8,
                                    8, 8, 8, 8, 8, 8, 8]
                                  [8, 8, 8, 8, 8, 8, 8, 8, 8, 8, 8, 8, 8, 8, 8, 8, 8, 8, 8, 8, 8, 8, 8, 8, 8, 8, 8, 8, 8, 8, 8, 8, 8, 8, 8, 8, 8, 8, 8, 8, 8, 8, 8, 8, 8, 8, 8, 8, 8, 8, 8, 8, 8, 8, 8, 8, 8,
                                    8, 8, 8, 8, 8, 8, 8]))))
                        (W.toNat (W.wrap IntKind.u8 (W.shr IntKind.u64 (W.shr IntKind.u64 x0 16) 8))))))))
              none)
            (br (W.and2 (W.le 0 (W.wrap IntKind.u8 (W.shr IntKind.u64 x0 16))) (W.lt (W.wrap IntKind.u8 (W.shr IntKind.u64 x0 16)) 256))
              (k
                (W.wrap IntKind.i64
                  (W.add 16
                    (W.wrap IntKind.i64
                      (W.byte
                        (ByteArray.mk
                          (Array.mk
                            (0 ::
                              List.append
                                (List.append
                                  [1, 2, 2, 3, 3, 3, 3, 4, 4, 4, 4, 4, 4, 4, 4, 5, 5, 5, 5, 5, 5, 5, 5, 5, 5, 5, 5, 5, 5, 5, 5, 6, 6, 6, 6, 6, 6, 6, 6, 6, 6, 6, 6, 6, 6, 6, 6, 6, 6, 6, 6, 6, 6, 6, 6, 6, 6,
                                    6, 6, 6, 6, 6, 6]
                                  [7, 7, 7, 7, 7, 7, 7, 7, 7, 7, 7, 7, 7, 7, 7, 7, 7, 7, 7, 7, 7, 7, 7, 7, 7, 7, 7, 7, 7, 7, 7, 7, 7, 7, 7, 7, 7, 7, 7, 7, 7, 7, 7, 7, 7, 7, 7, 7, 7, 7, 7, 7, 7, 7, 7, 7, 7,
                                    7, 7, 7, 7, 7, 7, 7])
                                (List.append
                                  [8, 8, 8, 8, 8, 8, 8, 8, 8, 8, 8, 8, 8, 8, 8, 8, 8, 8, 8, 8, 8, 8, 8, 8, 8, 8, 8, 8, 8, 8, 8, 8, 8, 8, 8, 8, 8, 8, 8, 8, 8, 8, 8, 8, 8, 8, 8, 8, 8, 8, 8, 8, 8, 8, 8, 8, 8,
                                    8, 8, 8, 8, 8, 8, 8]
                                  [8, 8, 8, 8, 8, 8, 8, 8, 8, 8, 8, 8, 8, 8, 8, 8, 8, 8, 8, 8, 8, 8, 8, 8, 8, 8, 8, 8, 8, 8, 8, 8, 8, 8, 8, 8, 8, 8, 8, 8, 8, 8, 8, 8, 8, 8, 8, 8, 8, 8, 8, 8, 8, 8, 8, 8, 8,
                                    8, 8, 8, 8, 8, 8, 8]))))
                        (W.toNat (W.wrap IntKind.u8 (W.shr IntKind.u64 x0 16))))))))
              none))
          (br (W.ge x0 256)
            (br (W.and2 (W.le 0 (W.wrap IntKind.u8 (W.shr IntKind.u64 x0 8))) (W.lt (W.wrap IntKind.u8 (W.shr IntKind.u64 x0 8)) 256))
              (k
                (W.wrap IntKind.i64
                  (W.add 8
                    (W.wrap IntKind.i64
                      (W.byte
                        (ByteArray.mk
                          (Array.mk
                            (0 ::
                              List.append
                                (List.append
                                  [1, 2, 2, 3, 3, 3, 3, 4, 4, 4, 4, 4, 4, 4, 4, 5, 5, 5, 5, 5, 5, 5, 5, 5, 5, 5, 5, 5, 5, 5, 5, 6, 6, 6, 6, 6, 6, 6, 6, 6, 6, 6, 6, 6, 6, 6, 6, 6, 6, 6, 6, 6, 6, 6, 6, 6, 6,
                                    6, 6, 6, 6, 6, 6]
                                  [7, 7, 7, 7, 7, 7, 7, 7, 7, 7, 7, 7, 7, 7, 7, 7, 7, 7, 7, 7, 7, 7, 7, 7, 7, 7, 7, 7, 7, 7, 7, 7, 7, 7, 7, 7, 7, 7, 7, 7, 7, 7, 7, 7, 7, 7, 7, 7, 7, 7, 7, 7, 7, 7, 7, 7, 7,
                                    7, 7, 7, 7, 7, 7, 7])
                                (List.append
                                  [8, 8, 8, 8, 8, 8, 8, 8, 8, 8, 8, 8, 8, 8, 8, 8, 8, 8, 8, 8, 8, 8, 8, 8, 8, 8, 8, 8, 8, 8, 8, 8, 8, 8, 8, 8, 8, 8, 8, 8, 8, 8, 8, 8, 8, 8, 8, 8, 8, 8, 8, 8, 8, 8, 8, 8, 8,
                                    8, 8, 8, 8, 8, 8, 8]
                                  [8, 8, 8, 8, 8, 8, 8, 8, 8, 8, 8, 8, 8, 8, 8, 8, 8, 8, 8, 8, 8, 8, 8, 8, 8, 8, 8, 8, 8, 8, 8, 8, 8, 8, 8, 8, 8, 8, 8, 8, 8, 8, 8, 8, 8, 8, 8, 8, 8, 8, 8, 8, 8, 8, 8, 8, 8,
                                    8, 8, 8, 8, 8, 8, 8]))))
                        (W.toNat (W.wrap IntKind.u8 (W.shr IntKind.u64 x0 8))))))))
              none)
            (br (W.and2 (W.le 0 (W.wrap IntKind.u8 x0)) (W.lt (W.wrap IntKind.u8 x0) 256))
              (k
                (W.wrap IntKind.i64
                  (W.add 0
                    (W.wrap IntKind.i64
                      (W.byte
                        (ByteArray.mk
                          (Array.mk
                            (0 ::
                              List.append
                                (List.append
                                  [1, 2, 2, 3, 3, 3, 3, 4, 4, 4, 4, 4, 4, 4, 4, 5, 5, 5, 5, 5, 5, 5, 5, 5, 5, 5, 5, 5, 5, 5, 5, 6, 6, 6, 6, 6, 6, 6, 6, 6, 6, 6, 6, 6, 6, 6, 6, 6, 6, 6, 6, 6, 6, 6, 6, 6, 6,
                                    6, 6, 6, 6, 6, 6]
                                  [7, 7, 7, 7, 7, 7, 7, 7, 7, 7, 7, 7, 7, 7, 7, 7, 7, 7, 7, 7, 7, 7, 7, 7, 7, 7, 7, 7, 7, 7, 7, 7, 7, 7, 7, 7, 7, 7, 7, 7, 7, 7, 7, 7, 7, 7, 7, 7, 7, 7, 7, 7, 7, 7, 7, 7, 7,
                                    7, 7, 7, 7, 7, 7, 7])
                                (List.append
                                  [8, 8, 8, 8, 8, 8, 8, 8, 8, 8, 8, 8, 8, 8, 8, 8, 8, 8, 8, 8, 8, 8, 8, 8, 8, 8, 8, 8, 8, 8, 8, 8, 8, 8, 8, 8, 8, 8, 8, 8, 8, 8, 8, 8, 8, 8, 8, 8, 8, 8, 8, 8, 8, 8, 8, 8, 8,
                                    8, 8, 8, 8, 8, 8, 8]
                                  [8, 8, 8, 8, 8, 8, 8, 8, 8, 8, 8, 8, 8, 8, 8, 8, 8, 8, 8, 8, 8, 8, 8, 8, 8, 8, 8, 8, 8, 8, 8, 8, 8, 8, 8, 8, 8, 8, 8, 8, 8, 8, 8, 8, 8, 8, 8, 8, 8, 8, 8, 8, 8, 8, 8, 8, 8,
                                    8, 8, 8, 8, 8, 8, 8]))))
                        (W.toNat (W.wrap IntKind.u8 x0)))))))
              none)))
theorem S_bits_Len64   : SpecOk Try.prog 60 (mkS ps_bits_Len64 qs_bits_Len64 (N_bits_Len64 )) :=
  specOk_mk (fl := 10) (d := 12) base (by intro R x0 k; kernel_rfl)
def F_bits_Len64 : FT ps_bits_Len64 qs_bits_Len64 := N_bits_Len64 
theorem ok_bits_Len64 : SpecOk Try.prog 60 (mkS ps_bits_Len64 qs_bits_Len64 F_bits_Len64) := S_bits_Len64 
abbrev ps_tnum_Range : List PT := [.one (.int .u64), .one (.int .u64)]
abbrev qs_tnum_Range : List PT := [.agg ((.prod (.int .u64) (.int .u64)))]
def N_tnum_Range (F_tnum_tidy : FT ps_tnum_tidy qs_tnum_tidy) (F_tnum_Any : FT ps_tnum_Any qs_tnum_Any) (F_bits_Len64 : FT ps_bits_Len64 qs_bits_Len64) : FT ps_tnum_Range qs_tnum_Range := fun R x k => match x with
  | (x0, x1) => 
      F_bits_Len64 R (W.wrap IntKind.u64 (W.xor IntKind.u64 x0 x1)) fun y =>
        br (W.eq y 64) (F_tnum_Any R () fun y => k (y.1, y.2))
          (br (W.lt y 0) none (F_tnum_tidy R (x0, W.wrap IntKind.u64 (W.sub (W.wrap IntKind.u64 (W.shl IntKind.u64 1 y)) 1)) fun y => k (y.1, y.2)))
theorem S_tnum_Range {F_tnum_tidy : FT ps_tnum_tidy qs_tnum_tidy} {F_tnum_Any : FT ps_tnum_Any qs_tnum_Any} {F_bits_Len64 : FT ps_bits_Len64 qs_bits_Len64} (h_tnum_tidy : SpecOk Try.prog 58 (mkS ps_tnum_tidy qs_tnum_tidy F_tnum_tidy)) (h_tnum_Any : SpecOk Try.prog 49 (mkS ps_tnum_Any qs_tnum_Any F_tnum_Any)) (h_bits_Len64 : SpecOk Try.prog 60 (mkS ps_bits_Len64 qs_bits_Len64 F_bits_Len64)) : SpecOk Try.prog 38 (mkS ps_tnum_Range qs_tnum_Range (N_tnum_Range F_tnum_tidy F_tnum_Any F_bits_Len64)) :=
  specOk_mk (fl := 10) (d := 12) (cfgOk_cons (cfgOk_cons (cfgOk_cons base h_bits_Len64) h_tnum_Any) h_tnum_tidy) (by rintro R ⟨x0, x1⟩ k; kernel_rfl)
def F_tnum_Range : FT ps_tnum_Range qs_tnum_Range := N_tnum_Range F_tnum_tidy F_tnum_Any F_bits_Len64
theorem ok_tnum_Range : SpecOk Try.prog 38 (mkS ps_tnum_Range qs_tnum_Range F_tnum_Range) := S_tnum_Range ok_tnum_tidy ok_tnum_Any ok_bits_Len64
abbrev ps_bound_Value : List PT := [.agg ((.prod (.int .u64) (.prod (.int .u64) (.prod (.int .i64) (.prod (.int .i64) ((.prod (.int .u64) (.int .u64))))))))]
abbrev qs_bound_Value : List PT := [.one (.int .u64), .one (.bool)]
def N_bound_Value  : FT ps_bound_Value qs_bound_Value := fun R x k => match x with
  | (x0Umin, x0Umax, x0Smin, x0Smax, (x0Bits_Value, x0Bits_Mask)) => 
      br (W.eq x0Umin x0Umax) (k (x0Umin, true)) (k (0, false))
theorem S_bound_Value   : SpecOk Try.prog 14 (mkS ps_bound_Value qs_bound_Value (N_bound_Value )) :=
  specOk_mk (fl := 10) (d := 12) base (by rintro R ⟨x0Umin, x0Umax, x0Smin, x0Smax, ⟨x0Bits_Value, x0Bits_Mask⟩⟩ k; kernel_rfl)
def F_bound_Value : FT ps_bound_Value qs_bound_Value := N_bound_Value 
theorem ok_bound_Value : SpecOk Try.prog 14 (mkS ps_bound_Value qs_bound_Value F_bound_Value) := S_bound_Value 
abbrev ps_clevislaw08heads : List PT := []
abbrev qs_clevislaw08heads : List PT := [.one (.bool)]
def F_clevislaw08heads : FT ps_clevislaw08heads qs_clevislaw08heads := fun R x k => k true
theorem ok_clevislaw08heads : SpecOk Try.prog 11 (mkS ps_clevislaw08heads qs_clevislaw08heads F_clevislaw08heads) :=
  specOk_mk (fl := 100) (d := 12) (cfgOk_cons (cfgOk_cons (cfgOk_cons (cfgOk_cons (cfgOk_cons (cfgOk_cons (cfgOk_cons (cfgOk_cons (cfgOk_cons (cfgOk_cons base ok_tnum_tidy) ok_bound_Const) ok_bound_Any) ok_bound_Size) ok_clevisref08Any) ok_bound_empty) ok_tnum_Meet) ok_tnum_Range) ok_bound_Value) ok_bound_In) (by intro R x k; kernel_rfl)
abbrev ps_clevislaw08BoundHolds : List PT := [.agg ((.prod (.int .u64) (.prod (.int .u64) (.prod (.int .i64) (.prod (.int .i64) ((.prod (.int .u64) (.int .u64)))))))), .agg ((.prod (.int .u64) (.prod (.int .u64) (.prod (.int .i64) (.prod (.int .i64) ((.prod (.int .u64) (.int .u64)))))))), .one (.int .u64)]
def L_clevislaw08BoundHolds (F_bound_Check : FT ps_bound_Check qs_bound_Check) (F_bound_In : FT ps_bound_In qs_bound_In) (F_clevislaw08heads : FT ps_clevislaw08heads qs_clevislaw08heads) (F_bound_Within : FT ps_bound_Within qs_bound_Within) (x : PTs.D ps_clevislaw08BoundHolds) : Option Unit := match x with
  | ((x0Umin, x0Umax, x0Smin, x0Smax, (x0Bits_Value, x0Bits_Mask)), (x1Umin, x1Umax, x1Smin, x1Smax, (x1Bits_Value, x1Bits_Mask)), x2) => 
      F_bound_Check Unit (x0Umin, x0Umax, x0Smin, x0Smax, x0Bits_Value, x0Bits_Mask) fun y =>
        br (W.not (W.not y))
          (F_bound_Check Unit (x1Umin, x1Umax, x1Smin, x1Smax, x1Bits_Value, x1Bits_Mask) fun y =>
            br (W.not (W.pick false true (W.not y)))
              (F_bound_Within Unit ((x0Umin, x0Umax, x0Smin, x0Smax, x0Bits_Value, x0Bits_Mask), x1Umin, x1Umax, x1Smin, x1Smax, x1Bits_Value, x1Bits_Mask) fun y =>
                br (W.not (W.pick false true (W.not y)))
                  (F_bound_In Unit ((x1Umin, x1Umax, x1Smin, x1Smax, x1Bits_Value, x1Bits_Mask), x2) fun y =>
                    br (W.pick false true (W.not y)) (F_clevislaw08heads Unit () fun y => br y (some ()) none)
                      (F_bound_In Unit ((x0Umin, x0Umax, x0Smin, x0Smax, x0Bits_Value, x0Bits_Mask), x2) fun y =>
                        br y (F_clevislaw08heads Unit () fun y => br (W.pick true y false) (some ()) none) none))
                  (F_clevislaw08heads Unit () fun y => br y (some ()) none))
              (F_clevislaw08heads Unit () fun y => br y (some ()) none))
          (F_clevislaw08heads Unit () fun y => br y (some ()) none)
theorem E_clevislaw08BoundHolds {F_bound_Check : FT ps_bound_Check qs_bound_Check} {F_bound_In : FT ps_bound_In qs_bound_In} {F_clevislaw08heads : FT ps_clevislaw08heads qs_clevislaw08heads} {F_bound_Within : FT ps_bound_Within qs_bound_Within} (h_bound_Check : SpecOk Try.prog 10 (mkS ps_bound_Check qs_bound_Check F_bound_Check)) (h_bound_In : SpecOk Try.prog 13 (mkS ps_bound_In qs_bound_In F_bound_In)) (h_clevislaw08heads : SpecOk Try.prog 11 (mkS ps_clevislaw08heads qs_clevislaw08heads F_clevislaw08heads)) (h_bound_Within : SpecOk Try.prog 18 (mkS ps_bound_Within qs_bound_Within F_bound_Within)) (x : PTs.D ps_clevislaw08BoundHolds) (hL : L_clevislaw08BoundHolds F_bound_Check F_bound_In F_clevislaw08heads F_bound_Within x = some ()) :
    ∃ (C : Cfg) (fl d : Nat), CfgOk C ∧ C.P = Try.prog ∧ call C fl d 5 (encL ps_clevislaw08BoundHolds x) [] (fun v _ => match v with | .bool b => br b (some ()) none | _ => none) = some () :=
  ⟨_, 10, 12, (cfgOk_cons (cfgOk_cons (cfgOk_cons (cfgOk_cons base h_bound_Within) h_clevislaw08heads) h_bound_In) h_bound_Check), rfl, (show _ = L_clevislaw08BoundHolds F_bound_Check F_bound_In F_clevislaw08heads F_bound_Within x by obtain ⟨⟨x0Umin, x0Umax, x0Smin, x0Smax, ⟨x0Bits_Value, x0Bits_Mask⟩⟩, ⟨x1Umin, x1Umax, x1Smin, x1Smax, ⟨x1Bits_Value, x1Bits_Mask⟩⟩, x2⟩ := x; kernel_rfl).trans hL⟩
end Go.Proofs.Ytflkcceicgaipaa
