import Derived.Test.YtflkcceicgaipaaProg
import Derived.Test.YtflkcceicgaipaaEngO
import Derived.KernelRfl
set_option maxHeartbeats 0
set_option maxRecDepth 1000000
set_option linter.unusedVariables false
namespace Go.Proofs.Ytflkcceicgaipaa
open Go Go.Eng
theorem base : CfgOk (Cw Try.prog []) := cfgOk_nil (noGo_of (by kernel_rfl)) (by kernel_rfl)

abbrev ps_tnum_tidy : List PT := [.one (.int .u64), .one (.int .u64)]
abbrev qs_tnum_tidy : List PT := [.agg ((.prod (.int .u64) (.int .u64)))]
def N_tnum_tidy  : FT ps_tnum_tidy qs_tnum_tidy := fun R x k => match x with
  | (x0, x1) => 
      k (W.wrap IntKind.u64 (W.andNot IntKind.u64 x0 x1), x1)
theorem S_tnum_tidy   : SpecOk Try.prog 58 (mkS ps_tnum_tidy qs_tnum_tidy (N_tnum_tidy )) :=
  specOk_mk (fl := 10) (d := 12) base (by rintro R ⟨x0, x1⟩ k; kernel_rfl)
def F_tnum_tidy : FT ps_tnum_tidy qs_tnum_tidy := N_tnum_tidy 
theorem ok_tnum_tidy : SpecOk Try.prog 58 (mkS ps_tnum_tidy qs_tnum_tidy F_tnum_tidy) := S_tnum_tidy 
abbrev ps_tnum_Check : List PT := [.agg ((.prod (.int .u64) (.int .u64)))]
abbrev qs_tnum_Check : List PT := [.one (.bool)]
def N_tnum_Check (F_tnum_tidy : FT ps_tnum_tidy qs_tnum_tidy) : FT ps_tnum_Check qs_tnum_Check := fun R x k => match x with
  | (x0Value, x0Mask) => 
      F_tnum_tidy R (x0Value, x0Mask) fun y => k (W.and2 (W.eq x0Value y.1) (W.and2 (W.eq x0Mask y.2) true))
theorem S_tnum_Check {F_tnum_tidy : FT ps_tnum_tidy qs_tnum_tidy} (h_tnum_tidy : SpecOk Try.prog 58 (mkS ps_tnum_tidy qs_tnum_tidy F_tnum_tidy)) : SpecOk Try.prog 32 (mkS ps_tnum_Check qs_tnum_Check (N_tnum_Check F_tnum_tidy)) :=
  specOk_mk (fl := 10) (d := 12) (cfgOk_cons base h_tnum_tidy) (by rintro R ⟨x0Value, x0Mask⟩ k; kernel_rfl)
def F_tnum_Check : FT ps_tnum_Check qs_tnum_Check := N_tnum_Check F_tnum_tidy
theorem ok_tnum_Check : SpecOk Try.prog 32 (mkS ps_tnum_Check qs_tnum_Check F_tnum_Check) := S_tnum_Check ok_tnum_tidy
abbrev ps_bound_Check : List PT := [.agg ((.prod (.int .u64) (.prod (.int .u64) (.prod (.int .i64) (.prod (.int .i64) ((.prod (.int .u64) (.int .u64))))))))]
abbrev qs_bound_Check : List PT := [.one (.bool)]
def N_bound_Check (F_tnum_Check : FT ps_tnum_Check qs_tnum_Check) : FT ps_bound_Check qs_bound_Check := fun R x k => match x with
  | (x0Umin, x0Umax, x0Smin, x0Smax, (x0Bits_Value, x0Bits_Mask)) => 
      br (W.pick (W.le x0Umin x0Umax) (W.le x0Smin x0Smax) false) (F_tnum_Check R (x0Bits_Value, x0Bits_Mask) fun y => k (W.pick true y false)) (k false)
theorem S_bound_Check {F_tnum_Check : FT ps_tnum_Check qs_tnum_Check} (h_tnum_Check : SpecOk Try.prog 32 (mkS ps_tnum_Check qs_tnum_Check F_tnum_Check)) : SpecOk Try.prog 10 (mkS ps_bound_Check qs_bound_Check (N_bound_Check F_tnum_Check)) :=
  specOk_mk (fl := 10) (d := 12) (cfgOk_cons base h_tnum_Check) (by rintro R ⟨x0Umin, x0Umax, x0Smin, x0Smax, ⟨x0Bits_Value, x0Bits_Mask⟩⟩ k; kernel_rfl)
def F_bound_Check : FT ps_bound_Check qs_bound_Check := N_bound_Check F_tnum_Check
theorem ok_bound_Check : SpecOk Try.prog 10 (mkS ps_bound_Check qs_bound_Check F_bound_Check) := S_bound_Check ok_tnum_Check
abbrev ps_bound_among_uint64 : List PT := [.one (.int .u64), .one (.int .u64), .one (.int .u64)]
abbrev qs_bound_among_uint64 : List PT := [.one (.bool)]
def N_bound_among_uint64  : FT ps_bound_among_uint64 qs_bound_among_uint64 := fun R x k => match x with
  | (x0, x1, x2) => 
      k (W.pick (W.le x1 x0) (W.le x0 x2) false)
theorem S_bound_among_uint64   : SpecOk Try.prog 39 (mkS ps_bound_among_uint64 qs_bound_among_uint64 (N_bound_among_uint64 )) :=
  specOk_mk (fl := 10) (d := 12) base (by rintro R ⟨x0, x1, x2⟩ k; kernel_rfl)
def F_bound_among_uint64 : FT ps_bound_among_uint64 qs_bound_among_uint64 := N_bound_among_uint64 
theorem ok_bound_among_uint64 : SpecOk Try.prog 39 (mkS ps_bound_among_uint64 qs_bound_among_uint64 F_bound_among_uint64) := S_bound_among_uint64 
abbrev ps_bound_among_int64 : List PT := [.one (.int .i64), .one (.int .i64), .one (.int .i64)]
abbrev qs_bound_among_int64 : List PT := [.one (.bool)]
def N_bound_among_int64  : FT ps_bound_among_int64 qs_bound_among_int64 := fun R x k => match x with
  | (x0, x1, x2) => 
      k (W.pick (W.le x1 x0) (W.le x0 x2) false)
theorem S_bound_among_int64   : SpecOk Try.prog 40 (mkS ps_bound_among_int64 qs_bound_among_int64 (N_bound_among_int64 )) :=
  specOk_mk (fl := 10) (d := 12) base (by rintro R ⟨x0, x1, x2⟩ k; kernel_rfl)
def F_bound_among_int64 : FT ps_bound_among_int64 qs_bound_among_int64 := N_bound_among_int64 
theorem ok_bound_among_int64 : SpecOk Try.prog 40 (mkS ps_bound_among_int64 qs_bound_among_int64 F_bound_among_int64) := S_bound_among_int64 
abbrev ps_tnum_In : List PT := [.agg ((.prod (.int .u64) (.int .u64))), .one (.int .u64)]
abbrev qs_tnum_In : List PT := [.one (.bool)]
def N_tnum_In (F_tnum_tidy : FT ps_tnum_tidy qs_tnum_tidy) : FT ps_tnum_In qs_tnum_In := fun R x k => match x with
  | ((x0Value, x0Mask), x1) => 
      F_tnum_tidy R (x1, x0Mask) fun y => k (W.and2 (W.eq y.1 x0Value) (W.and2 (W.eq y.2 x0Mask) true))
theorem S_tnum_In {F_tnum_tidy : FT ps_tnum_tidy qs_tnum_tidy} (h_tnum_tidy : SpecOk Try.prog 58 (mkS ps_tnum_tidy qs_tnum_tidy F_tnum_tidy)) : SpecOk Try.prog 41 (mkS ps_tnum_In qs_tnum_In (N_tnum_In F_tnum_tidy)) :=
  specOk_mk (fl := 10) (d := 12) (cfgOk_cons base h_tnum_tidy) (by rintro R ⟨⟨x0Value, x0Mask⟩, x1⟩ k; kernel_rfl)
def F_tnum_In : FT ps_tnum_In qs_tnum_In := N_tnum_In F_tnum_tidy
theorem ok_tnum_In : SpecOk Try.prog 41 (mkS ps_tnum_In qs_tnum_In F_tnum_In) := S_tnum_In ok_tnum_tidy
abbrev ps_bound_In : List PT := [.agg ((.prod (.int .u64) (.prod (.int .u64) (.prod (.int .i64) (.prod (.int .i64) ((.prod (.int .u64) (.int .u64)))))))), .one (.int .u64)]
abbrev qs_bound_In : List PT := [.one (.bool)]
def N_bound_In (F_bound_among_uint64 : FT ps_bound_among_uint64 qs_bound_among_uint64) (F_bound_among_int64 : FT ps_bound_among_int64 qs_bound_among_int64) (F_tnum_In : FT ps_tnum_In qs_tnum_In) : FT ps_bound_In qs_bound_In := fun R x k => match x with
  | ((x0Umin, x0Umax, x0Smin, x0Smax, (x0Bits_Value, x0Bits_Mask)), x1) => 
      F_bound_among_uint64 R (x1, x0Umin, x0Umax) fun y =>
        br y (F_bound_among_int64 R (W.wrap IntKind.i64 x1, x0Smin, x0Smax) fun y => br (W.pick true y false) (F_tnum_In R ((x0Bits_Value, x0Bits_Mask), x1) fun y => k (W.pick true y false)) (k false))
          (k false)
theorem S_bound_In {F_bound_among_uint64 : FT ps_bound_among_uint64 qs_bound_among_uint64} {F_bound_among_int64 : FT ps_bound_among_int64 qs_bound_among_int64} {F_tnum_In : FT ps_tnum_In qs_tnum_In} (h_bound_among_uint64 : SpecOk Try.prog 39 (mkS ps_bound_among_uint64 qs_bound_among_uint64 F_bound_among_uint64)) (h_bound_among_int64 : SpecOk Try.prog 40 (mkS ps_bound_among_int64 qs_bound_among_int64 F_bound_among_int64)) (h_tnum_In : SpecOk Try.prog 41 (mkS ps_tnum_In qs_tnum_In F_tnum_In)) : SpecOk Try.prog 13 (mkS ps_bound_In qs_bound_In (N_bound_In F_bound_among_uint64 F_bound_among_int64 F_tnum_In)) :=
  specOk_mk (fl := 10) (d := 12) (cfgOk_cons (cfgOk_cons (cfgOk_cons base h_tnum_In) h_bound_among_int64) h_bound_among_uint64) (by rintro R ⟨⟨x0Umin, x0Umax, x0Smin, x0Smax, ⟨x0Bits_Value, x0Bits_Mask⟩⟩, x1⟩ k; kernel_rfl)
def F_bound_In : FT ps_bound_In qs_bound_In := N_bound_In F_bound_among_uint64 F_bound_among_int64 F_tnum_In
theorem ok_bound_In : SpecOk Try.prog 13 (mkS ps_bound_In qs_bound_In F_bound_In) := S_bound_In ok_bound_among_uint64 ok_bound_among_int64 ok_tnum_In
abbrev ps_tnum_Within : List PT := [.agg ((.prod (.int .u64) (.int .u64))), .agg ((.prod (.int .u64) (.int .u64)))]
abbrev qs_tnum_Within : List PT := [.one (.bool)]
def N_tnum_Within (F_tnum_In : FT ps_tnum_In qs_tnum_In) : FT ps_tnum_Within qs_tnum_Within := fun R x k => match x with
  | ((x0Value, x0Mask), (x1Value, x1Mask)) => 
      br (W.eq (W.wrap IntKind.u64 (W.or IntKind.u64 x1Mask x0Mask)) x0Mask) (F_tnum_In R ((x0Value, x0Mask), x1Value) fun y => k (W.pick true y false)) (k false)
theorem S_tnum_Within {F_tnum_In : FT ps_tnum_In qs_tnum_In} (h_tnum_In : SpecOk Try.prog 41 (mkS ps_tnum_In qs_tnum_In F_tnum_In)) : SpecOk Try.prog 44 (mkS ps_tnum_Within qs_tnum_Within (N_tnum_Within F_tnum_In)) :=
  specOk_mk (fl := 10) (d := 12) (cfgOk_cons base h_tnum_In) (by rintro R ⟨⟨x0Value, x0Mask⟩, ⟨x1Value, x1Mask⟩⟩ k; kernel_rfl)
def F_tnum_Within : FT ps_tnum_Within qs_tnum_Within := N_tnum_Within F_tnum_In
theorem ok_tnum_Within : SpecOk Try.prog 44 (mkS ps_tnum_Within qs_tnum_Within F_tnum_Within) := S_tnum_Within ok_tnum_In
abbrev ps_bound_Within : List PT := [.agg ((.prod (.int .u64) (.prod (.int .u64) (.prod (.int .i64) (.prod (.int .i64) ((.prod (.int .u64) (.int .u64)))))))), .agg ((.prod (.int .u64) (.prod (.int .u64) (.prod (.int .i64) (.prod (.int .i64) ((.prod (.int .u64) (.int .u64))))))))]
abbrev qs_bound_Within : List PT := [.one (.bool)]
def N_bound_Within (F_bound_among_uint64 : FT ps_bound_among_uint64 qs_bound_among_uint64) (F_bound_among_int64 : FT ps_bound_among_int64 qs_bound_among_int64) (F_tnum_Within : FT ps_tnum_Within qs_tnum_Within) : FT ps_bound_Within qs_bound_Within := fun R x k => match x with
  | ((x0Umin, x0Umax, x0Smin, x0Smax, (x0Bits_Value, x0Bits_Mask)), (x1Umin, x1Umax, x1Smin, x1Smax, (x1Bits_Value, x1Bits_Mask))) => 
      F_bound_among_uint64 R (x1Umin, x0Umin, x0Umax) fun y =>
        br y
          (F_bound_among_uint64 R (x1Umax, x0Umin, x0Umax) fun y =>
            F_bound_among_int64 R (x1Smin, x0Smin, x0Smax) fun y_1 =>
              br y_1
                (F_bound_among_int64 R (x1Smax, x0Smin, x0Smax) fun y_2 =>
                  br (W.pick (W.pick true y false) (W.pick true y_2 false) false) (F_tnum_Within R ((x0Bits_Value, x0Bits_Mask), x1Bits_Value, x1Bits_Mask) fun y => k (W.pick true y false)) (k false))
                (br (W.pick (W.pick true y false) false false) (F_tnum_Within R ((x0Bits_Value, x0Bits_Mask), x1Bits_Value, x1Bits_Mask) fun y => k (W.pick true y false)) (k false)))
          (F_bound_among_int64 R (x1Smin, x0Smin, x0Smax) fun y =>
            br y
              (F_bound_among_int64 R (x1Smax, x0Smin, x0Smax) fun y =>
                br (W.pick false (W.pick true y false) false) (F_tnum_Within R ((x0Bits_Value, x0Bits_Mask), x1Bits_Value, x1Bits_Mask) fun y => k (W.pick true y false)) (k false))
              (k false))
theorem S_bound_Within {F_bound_among_uint64 : FT ps_bound_among_uint64 qs_bound_among_uint64} {F_bound_among_int64 : FT ps_bound_among_int64 qs_bound_among_int64} {F_tnum_Within : FT ps_tnum_Within qs_tnum_Within} (h_bound_among_uint64 : SpecOk Try.prog 39 (mkS ps_bound_among_uint64 qs_bound_among_uint64 F_bound_among_uint64)) (h_bound_among_int64 : SpecOk Try.prog 40 (mkS ps_bound_among_int64 qs_bound_among_int64 F_bound_among_int64)) (h_tnum_Within : SpecOk Try.prog 44 (mkS ps_tnum_Within qs_tnum_Within F_tnum_Within)) : SpecOk Try.prog 18 (mkS ps_bound_Within qs_bound_Within (N_bound_Within F_bound_among_uint64 F_bound_among_int64 F_tnum_Within)) :=
  specOk_mk (fl := 10) (d := 12) (cfgOk_cons (cfgOk_cons (cfgOk_cons base h_tnum_Within) h_bound_among_int64) h_bound_among_uint64) (by rintro R ⟨⟨x0Umin, x0Umax, x0Smin, x0Smax, ⟨x0Bits_Value, x0Bits_Mask⟩⟩, ⟨x1Umin, x1Umax, x1Smin, x1Smax, ⟨x1Bits_Value, x1Bits_Mask⟩⟩⟩ k; kernel_rfl)
def F_bound_Within : FT ps_bound_Within qs_bound_Within := N_bound_Within F_bound_among_uint64 F_bound_among_int64 F_tnum_Within
theorem ok_bound_Within : SpecOk Try.prog 18 (mkS ps_bound_Within qs_bound_Within F_bound_Within) := S_bound_Within ok_bound_among_uint64 ok_bound_among_int64 ok_tnum_Within
abbrev ps_tnum_Any : List PT := []
abbrev qs_tnum_Any : List PT := [.agg ((.prod (.int .u64) (.int .u64)))]
def N_tnum_Any  : FT ps_tnum_Any qs_tnum_Any := fun R x k => match x with
  | () => 
      k (0, 18446744073709551615)
theorem S_tnum_Any   : SpecOk Try.prog 49 (mkS ps_tnum_Any qs_tnum_Any (N_tnum_Any )) :=
  specOk_mk (fl := 10) (d := 12) base (by intro R x k; kernel_rfl)
def F_tnum_Any : FT ps_tnum_Any qs_tnum_Any := N_tnum_Any 
theorem ok_tnum_Any : SpecOk Try.prog 49 (mkS ps_tnum_Any qs_tnum_Any F_tnum_Any) := S_tnum_Any 
abbrev ps_tnum_Const : List PT := [.one (.int .u64)]
abbrev qs_tnum_Const : List PT := [.agg ((.prod (.int .u64) (.int .u64)))]
def N_tnum_Const  : FT ps_tnum_Const qs_tnum_Const := fun R x k => match x with
  | x0 => 
      k (x0, 0)
theorem S_tnum_Const   : SpecOk Try.prog 46 (mkS ps_tnum_Const qs_tnum_Const (N_tnum_Const )) :=
  specOk_mk (fl := 10) (d := 12) base (by intro R x0 k; kernel_rfl)
def F_tnum_Const : FT ps_tnum_Const qs_tnum_Const := N_tnum_Const 
theorem ok_tnum_Const : SpecOk Try.prog 46 (mkS ps_tnum_Const qs_tnum_Const F_tnum_Const) := S_tnum_Const 
abbrev ps_bound_Const : List PT := [.one (.int .u64)]
abbrev qs_bound_Const : List PT := [.agg ((.prod (.int .u64) (.prod (.int .u64) (.prod (.int .i64) (.prod (.int .i64) ((.prod (.int .u64) (.int .u64))))))))]
def N_bound_Const (F_tnum_Const : FT ps_tnum_Const qs_tnum_Const) : FT ps_bound_Const qs_bound_Const := fun R x k => match x with
  | x0 => 
      F_tnum_Const R x0 fun y => k (x0, x0, W.wrap IntKind.i64 x0, W.wrap IntKind.i64 x0, y.1, y.2)
theorem S_bound_Const {F_tnum_Const : FT ps_tnum_Const qs_tnum_Const} (h_tnum_Const : SpecOk Try.prog 46 (mkS ps_tnum_Const qs_tnum_Const F_tnum_Const)) : SpecOk Try.prog 20 (mkS ps_bound_Const qs_bound_Const (N_bound_Const F_tnum_Const)) :=
  specOk_mk (fl := 10) (d := 12) (cfgOk_cons base h_tnum_Const) (by intro R x0 k; kernel_rfl)
def F_bound_Const : FT ps_bound_Const qs_bound_Const := N_bound_Const F_tnum_Const
theorem ok_bound_Const : SpecOk Try.prog 20 (mkS ps_bound_Const qs_bound_Const F_bound_Const) := S_bound_Const ok_tnum_Const
abbrev ps_bound_Any : List PT := []
abbrev qs_bound_Any : List PT := [.agg ((.prod (.int .u64) (.prod (.int .u64) (.prod (.int .i64) (.prod (.int .i64) ((.prod (.int .u64) (.int .u64))))))))]
def N_bound_Any (F_tnum_Any : FT ps_tnum_Any qs_tnum_Any) : FT ps_bound_Any qs_bound_Any := fun R x k => match x with
  | () => 
      F_tnum_Any R () fun y => k (0, 18446744073709551615, -9223372036854775808, 9223372036854775807, y.1, y.2)
theorem S_bound_Any {F_tnum_Any : FT ps_tnum_Any qs_tnum_Any} (h_tnum_Any : SpecOk Try.prog 49 (mkS ps_tnum_Any qs_tnum_Any F_tnum_Any)) : SpecOk Try.prog 24 (mkS ps_bound_Any qs_bound_Any (N_bound_Any F_tnum_Any)) :=
  specOk_mk (fl := 10) (d := 12) (cfgOk_cons base h_tnum_Any) (by intro R x k; kernel_rfl)
def F_bound_Any : FT ps_bound_Any qs_bound_Any := N_bound_Any F_tnum_Any
theorem ok_bound_Any : SpecOk Try.prog 24 (mkS ps_bound_Any qs_bound_Any F_bound_Any) := S_bound_Any ok_tnum_Any
abbrev ps_bound_Size : List PT := [.one (.int .i64)]
abbrev qs_bound_Size : List PT := [.agg ((.prod (.int .u64) (.prod (.int .u64) (.prod (.int .i64) (.prod (.int .i64) ((.prod (.int .u64) (.int .u64))))))))]
def N_bound_Size (F_bound_Any : FT ps_bound_Any qs_bound_Any) : FT ps_bound_Size qs_bound_Size := fun R x k => match x with
  | x0 => 
      br (W.pick (W.pick (W.ne x0 1) (W.ne x0 2) false) (W.ne x0 4) false)
        (F_bound_Any R () fun y =>
          k (y.1, (Prod.snd y).1, (Prod.snd (Prod.snd y)).1, (Prod.snd (Prod.snd (Prod.snd y))).1, (Prod.snd (Prod.snd (Prod.snd (Prod.snd y)))).1, (Prod.snd (Prod.snd (Prod.snd (Prod.snd y)))).2))
        (br (W.lt (W.wrap IntKind.i64 (W.mul 8 x0)) 0) none
          (k
            (0, W.wrap IntKind.u64 (W.sub (W.wrap IntKind.u64 (W.shl IntKind.u64 1 (W.wrap IntKind.i64 (W.mul 8 x0)))) 1), 0,
              W.wrap IntKind.i64 (W.wrap IntKind.u64 (W.sub (W.wrap IntKind.u64 (W.shl IntKind.u64 1 (W.wrap IntKind.i64 (W.mul 8 x0)))) 1)), 0,
              W.wrap IntKind.u64 (W.sub (W.wrap IntKind.u64 (W.shl IntKind.u64 1 (W.wrap IntKind.i64 (W.mul 8 x0)))) 1))))
theorem S_bound_Size {F_bound_Any : FT ps_bound_Any qs_bound_Any} (h_bound_Any : SpecOk Try.prog 24 (mkS ps_bound_Any qs_bound_Any F_bound_Any)) : SpecOk Try.prog 22 (mkS ps_bound_Size qs_bound_Size (N_bound_Size F_bound_Any)) :=
  specOk_mk (fl := 10) (d := 12) (cfgOk_cons base h_bound_Any) (by intro R x0 k; kernel_rfl)
def F_bound_Size : FT ps_bound_Size qs_bound_Size := N_bound_Size F_bound_Any
theorem ok_bound_Size : SpecOk Try.prog 22 (mkS ps_bound_Size qs_bound_Size F_bound_Size) := S_bound_Size ok_bound_Any
abbrev ps_clevisref07Any : List PT := []
abbrev qs_clevisref07Any : List PT := [.agg ((.prod (.int .u64) (.int .u64)))]
def N_clevisref07Any  : FT ps_clevisref07Any qs_clevisref07Any := fun R x k => match x with
  | () => 
      k (0, 18446744073709551615)
theorem S_clevisref07Any   : SpecOk Try.prog 59 (mkS ps_clevisref07Any qs_clevisref07Any (N_clevisref07Any )) :=
  specOk_mk (fl := 10) (d := 12) base (by intro R x k; kernel_rfl)
def F_clevisref07Any : FT ps_clevisref07Any qs_clevisref07Any := N_clevisref07Any 
theorem ok_clevisref07Any : SpecOk Try.prog 59 (mkS ps_clevisref07Any qs_clevisref07Any F_clevisref07Any) := S_clevisref07Any 
abbrev ps_clevisref08Any : List PT := []
abbrev qs_clevisref08Any : List PT := [.agg ((.prod (.int .u64) (.prod (.int .u64) (.prod (.int .i64) (.prod (.int .i64) ((.prod (.int .u64) (.int .u64))))))))]
def N_clevisref08Any (F_clevisref07Any : FT ps_clevisref07Any qs_clevisref07Any) : FT ps_clevisref08Any qs_clevisref08Any := fun R x k => match x with
  | () => 
      F_clevisref07Any R () fun y => k (0, 18446744073709551615, -9223372036854775808, 9223372036854775807, y.1, y.2)
theorem S_clevisref08Any {F_clevisref07Any : FT ps_clevisref07Any qs_clevisref07Any} (h_clevisref07Any : SpecOk Try.prog 59 (mkS ps_clevisref07Any qs_clevisref07Any F_clevisref07Any)) : SpecOk Try.prog 33 (mkS ps_clevisref08Any qs_clevisref08Any (N_clevisref08Any F_clevisref07Any)) :=
  specOk_mk (fl := 10) (d := 12) (cfgOk_cons base h_clevisref07Any) (by intro R x k; kernel_rfl)
def F_clevisref08Any : FT ps_clevisref08Any qs_clevisref08Any := N_clevisref08Any F_clevisref07Any
theorem ok_clevisref08Any : SpecOk Try.prog 33 (mkS ps_clevisref08Any qs_clevisref08Any F_clevisref08Any) := S_clevisref08Any ok_clevisref07Any
abbrev ps_bound_empty : List PT := [.agg ((.prod (.int .u64) (.prod (.int .u64) (.prod (.int .i64) (.prod (.int .i64) ((.prod (.int .u64) (.int .u64))))))))]
abbrev qs_bound_empty : List PT := [.one (.bool)]
def N_bound_empty  : FT ps_bound_empty qs_bound_empty := fun R x k => match x with
  | (x0Umin, x0Umax, x0Smin, x0Smax, (x0Bits_Value, x0Bits_Mask)) => 
      k (W.pick (W.gt x0Umin x0Umax) true (W.gt x0Smin x0Smax))
theorem S_bound_empty   : SpecOk Try.prog 35 (mkS ps_bound_empty qs_bound_empty (N_bound_empty )) :=
  specOk_mk (fl := 10) (d := 12) base (by rintro R ⟨x0Umin, x0Umax, x0Smin, x0Smax, ⟨x0Bits_Value, x0Bits_Mask⟩⟩ k; kernel_rfl)
def F_bound_empty : FT ps_bound_empty qs_bound_empty := N_bound_empty 
theorem ok_bound_empty : SpecOk Try.prog 35 (mkS ps_bound_empty qs_bound_empty F_bound_empty) := S_bound_empty 
abbrev ps_tnum_Meet : List PT := [.agg ((.prod (.int .u64) (.int .u64))), .agg ((.prod (.int .u64) (.int .u64)))]
abbrev qs_tnum_Meet : List PT := [.agg ((.prod (.int .u64) (.int .u64))), .one (.bool)]
def N_tnum_Meet (F_tnum_tidy : FT ps_tnum_tidy qs_tnum_tidy) : FT ps_tnum_Meet qs_tnum_Meet := fun R x k => match x with
  | ((x0Value, x0Mask), (x1Value, x1Mask)) => 
      F_tnum_tidy R (W.wrap IntKind.u64 (W.or IntKind.u64 x0Value x1Value), W.wrap IntKind.u64 (W.and IntKind.u64 x0Mask x1Mask)) fun y =>
        k ((y.1, y.2), W.eq (W.wrap IntKind.u64 (W.andNot IntKind.u64 (W.wrap IntKind.u64 (W.andNot IntKind.u64 (W.wrap IntKind.u64 (W.xor IntKind.u64 x0Value x1Value)) x0Mask)) x1Mask)) 0)
theorem S_tnum_Meet {F_tnum_tidy : FT ps_tnum_tidy qs_tnum_tidy} (h_tnum_tidy : SpecOk Try.prog 58 (mkS ps_tnum_tidy qs_tnum_tidy F_tnum_tidy)) : SpecOk Try.prog 37 (mkS ps_tnum_Meet qs_tnum_Meet (N_tnum_Meet F_tnum_tidy)) :=
  specOk_mk (fl := 10) (d := 12) (cfgOk_cons base h_tnum_tidy) (by rintro R ⟨⟨x0Value, x0Mask⟩, ⟨x1Value, x1Mask⟩⟩ k; kernel_rfl)
def F_tnum_Meet : FT ps_tnum_Meet qs_tnum_Meet := N_tnum_Meet F_tnum_tidy
theorem ok_tnum_Meet : SpecOk Try.prog 37 (mkS ps_tnum_Meet qs_tnum_Meet F_tnum_Meet) := S_tnum_Meet ok_tnum_tidy
abbrev ps_bits_Len64 : List PT := [.one (.int .u64)]
abbrev qs_bits_Len64 : List PT := [.one (.int .i64)]

def lenTab : ByteArray := ⟨#[0, 1, 2, 2, 3, 3, 3, 3, 4, 4, 4, 4, 4, 4, 4, 4, 5, 5, 5, 5, 5, 5, 5, 5, 5, 5, 5, 5, 5, 5, 5, 5, 6, 6, 6, 6, 6, 6, 6, 6, 6, 6, 6, 6, 6, 6, 6, 6, 6, 6, 6, 6, 6, 6, 6, 6, 6, 6, 6, 6, 6, 6, 6, 6, 7, 7, 7, 7, 7, 7, 7, 7, 7, 7, 7, 7, 7, 7, 7, 7, 7, 7, 7, 7, 7, 7, 7, 7, 7, 7, 7, 7, 7, 7, 7, 7, 7, 7, 7, 7, 7, 7, 7, 7, 7, 7, 7, 7, 7, 7, 7, 7, 7, 7, 7, 7, 7, 7, 7, 7, 7, 7, 7, 7, 7, 7, 7, 7, 8, 8, 8, 8, 8, 8, 8, 8, 8, 8, 8, 8, 8, 8, 8, 8, 8, 8, 8, 8, 8, 8, 8, 8, 8, 8, 8, 8, 8, 8, 8, 8, 8, 8, 8, 8, 8, 8, 8, 8, 8, 8, 8, 8, 8, 8, 8, 8, 8, 8, 8, 8, 8, 8, 8, 8, 8, 8, 8, 8, 8, 8, 8, 8, 8, 8, 8, 8, 8, 8, 8, 8, 8, 8, 8, 8, 8, 8, 8, 8, 8, 8, 8, 8, 8, 8, 8, 8, 8, 8, 8, 8, 8, 8, 8, 8, 8, 8, 8, 8, 8, 8, 8, 8, 8, 8, 8, 8, 8, 8, 8, 8, 8, 8, 8, 8, 8, 8, 8, 8, 8, 8, 8, 8, 8, 8, 8, 8]⟩
def leafK {R : Type} (n y : Int) (k : Int → Option R) : Option R :=
  br (W.and2 (W.le 0 (W.wrap .u8 y)) (W.lt (W.wrap .u8 y) 256)) (k (W.wrap .i64 (W.add n (W.wrap .i64 (W.byte lenTab (W.toNat (W.wrap .u8 y))))))) none
def N_bits_Len64 : FT ps_bits_Len64 qs_bits_Len64 := fun R x k =>
  br (W.ge x 4294967296)
    (br (W.ge (W.shr .u64 x 32) 65536)
      (br (W.ge (W.shr .u64 (W.shr .u64 x 32) 16) 256) (leafK 56 (W.shr .u64 (W.shr .u64 (W.shr .u64 x 32) 16) 8) k) (leafK 48 (W.shr .u64 (W.shr .u64 x 32) 16) k))
      (br (W.ge (W.shr .u64 x 32) 256) (leafK 40 (W.shr .u64 (W.shr .u64 x 32) 8) k) (leafK 32 (W.shr .u64 x 32) k)))
    (br (W.ge x 65536)
      (br (W.ge (W.shr .u64 x 16) 256) (leafK 24 (W.shr .u64 (W.shr .u64 x 16) 8) k) (leafK 16 (W.shr .u64 x 16) k))
      (br (W.ge x 256) (leafK 8 (W.shr .u64 x 8) k) (leafK 0 x k)))
theorem S_bits_Len64 : SpecOk Try.prog 60 (mkS ps_bits_Len64 qs_bits_Len64 N_bits_Len64) := specOk_mk (fl := 10) (d := 12) base (by intro R x k; kernel_rfl)
def F_bits_Len64 : FT ps_bits_Len64 qs_bits_Len64 := N_bits_Len64
theorem ok_bits_Len64 : SpecOk Try.prog 60 (mkS ps_bits_Len64 qs_bits_Len64 F_bits_Len64) := S_bits_Len64
abbrev ps_tnum_Range : List PT := [.one (.int .u64), .one (.int .u64)]
abbrev qs_tnum_Range : List PT := [.agg ((.prod (.int .u64) (.int .u64)))]
def N_tnum_Range (F_tnum_tidy : FT ps_tnum_tidy qs_tnum_tidy) (F_tnum_Any : FT ps_tnum_Any qs_tnum_Any) (F_bits_Len64 : FT ps_bits_Len64 qs_bits_Len64) : FT ps_tnum_Range qs_tnum_Range := fun R x k => match x with
  | (x0, x1) => 
      F_bits_Len64 R (W.wrap IntKind.u64 (W.xor IntKind.u64 x0 x1)) fun y =>
        br (W.eq y 64) (F_tnum_Any R () fun y => k (y.1, y.2))
          (br (W.lt y 0) none (F_tnum_tidy R (x0, W.wrap IntKind.u64 (W.sub (W.wrap IntKind.u64 (W.shl IntKind.u64 1 y)) 1)) fun y => k (y.1, y.2)))
theorem S_tnum_Range {F_tnum_tidy : FT ps_tnum_tidy qs_tnum_tidy} {F_tnum_Any : FT ps_tnum_Any qs_tnum_Any} {F_bits_Len64 : FT ps_bits_Len64 qs_bits_Len64} (h_tnum_tidy : SpecOk Try.prog 58 (mkS ps_tnum_tidy qs_tnum_tidy F_tnum_tidy)) (h_tnum_Any : SpecOk Try.prog 49 (mkS ps_tnum_Any qs_tnum_Any F_tnum_Any)) (h_bits_Len64 : SpecOk Try.prog 60 (mkS ps_bits_Len64 qs_bits_Len64 F_bits_Len64)) : SpecOk Try.prog 38 (mkS ps_tnum_Range qs_tnum_Range (N_tnum_Range F_tnum_tidy F_tnum_Any F_bits_Len64)) :=
  specOk_mk (fl := 10) (d := 12) (cfgOk_cons (cfgOk_cons (cfgOk_cons base h_bits_Len64) h_tnum_Any) h_tnum_tidy) (by rintro R ⟨x0, x1⟩ k; kernel_rfl)
def F_tnum_Range : FT ps_tnum_Range qs_tnum_Range := N_tnum_Range F_tnum_tidy F_tnum_Any F_bits_Len64
theorem ok_tnum_Range : SpecOk Try.prog 38 (mkS ps_tnum_Range qs_tnum_Range F_tnum_Range) := S_tnum_Range ok_tnum_tidy ok_tnum_Any ok_bits_Len64
abbrev ps_bound_Value : List PT := [.agg ((.prod (.int .u64) (.prod (.int .u64) (.prod (.int .i64) (.prod (.int .i64) ((.prod (.int .u64) (.int .u64))))))))]
abbrev qs_bound_Value : List PT := [.one (.int .u64), .one (.bool)]
def N_bound_Value  : FT ps_bound_Value qs_bound_Value := fun R x k => match x with
  | (x0Umin, x0Umax, x0Smin, x0Smax, (x0Bits_Value, x0Bits_Mask)) => 
      br (W.eq x0Umin x0Umax) (k (x0Umin, true)) (k (0, false))
theorem S_bound_Value   : SpecOk Try.prog 14 (mkS ps_bound_Value qs_bound_Value (N_bound_Value )) :=
  specOk_mk (fl := 10) (d := 12) base (by rintro R ⟨x0Umin, x0Umax, x0Smin, x0Smax, ⟨x0Bits_Value, x0Bits_Mask⟩⟩ k; kernel_rfl)
def F_bound_Value : FT ps_bound_Value qs_bound_Value := N_bound_Value 
theorem ok_bound_Value : SpecOk Try.prog 14 (mkS ps_bound_Value qs_bound_Value F_bound_Value) := S_bound_Value 
abbrev ps_bound_Tidy : List PT := [.agg ((.prod (.int .u64) (.prod (.int .u64) (.prod (.int .i64) (.prod (.int .i64) ((.prod (.int .u64) (.int .u64))))))))]
abbrev qs_bound_Tidy : List PT := [.agg ((.prod (.int .u64) (.prod (.int .u64) (.prod (.int .i64) (.prod (.int .i64) ((.prod (.int .u64) (.int .u64)))))))), .one (.bool)]

abbrev Bd := Int × Int × Int × Int × Int × Int
def bitsB (b : Bd) : Bd :=
  let v := b.2.2.2.2.1
  let m := b.2.2.2.2.2
  (W.max b.1 v, W.min b.2.1 (W.wrap .u64 (W.or .u64 v m)), W.max b.2.2.1 (W.wrap .i64 (W.wrap .u64 (W.or .u64 v (W.wrap .u64 (W.and .u64 m 9223372036854775808))))),
    W.min b.2.2.2.1 (W.wrap .i64 (W.wrap .u64 (W.or .u64 v (W.wrap .u64 (W.andNot .u64 m 9223372036854775808))))), v, m)
def signsK {R : Type} (b : Bd) (k : Bd → Option R) : Option R :=
  br (W.pick (W.ge b.2.2.1 0) true (W.lt b.2.2.2.1 0))
    (k (W.max b.1 (W.wrap .u64 b.2.2.1), W.min b.2.1 (W.wrap .u64 b.2.2.2.1), W.wrap .i64 (W.max b.1 (W.wrap .u64 b.2.2.1)), W.wrap .i64 (W.min b.2.1 (W.wrap .u64 b.2.2.2.1)), b.2.2.2.2.1, b.2.2.2.2.2))
    (br (W.ge (W.wrap .i64 b.2.1) 0)
      (k (b.1, W.wrap .u64 (W.min b.2.2.2.1 (W.wrap .i64 b.2.1)), W.wrap .i64 b.1, W.min b.2.2.2.1 (W.wrap .i64 b.2.1), b.2.2.2.2.1, b.2.2.2.2.2))
      (br (W.lt (W.wrap .i64 b.1) 0)
        (k (W.wrap .u64 (W.max b.2.2.1 (W.wrap .i64 b.1)), b.2.1, W.max b.2.2.1 (W.wrap .i64 b.1), W.wrap .i64 b.2.1, b.2.2.2.2.1, b.2.2.2.2.2))
        (k b)))
def roundK (F_bound_empty : FT ps_bound_empty qs_bound_empty) (F_tnum_Meet : FT ps_tnum_Meet qs_tnum_Meet) (F_tnum_Range : FT ps_tnum_Range qs_tnum_Range) {R : Type} (b : Bd) (k0 : Option R) (k : Bd → Option R) : Option R :=
  F_bound_empty R (bitsB b) fun e => br e k0 (signsK (bitsB b) fun d => F_tnum_Range R (d.1, d.2.1) fun t => F_tnum_Meet R ((d.2.2.2.2.1, d.2.2.2.2.2), t.1, t.2) fun u =>
    br (W.not (W.not u.2)) (F_bound_empty R d fun e => br (W.pick false true e) k0 (k (d.1, d.2.1, d.2.2.1, d.2.2.2.1, u.1.1, u.1.2))) k0)

def N_bound_Tidy (F_bound_empty : FT ps_bound_empty qs_bound_empty) (F_tnum_Meet : FT ps_tnum_Meet qs_tnum_Meet) (F_tnum_Range : FT ps_tnum_Range qs_tnum_Range) : FT ps_bound_Tidy qs_bound_Tidy := fun R x k =>
  roundK F_bound_empty F_tnum_Meet F_tnum_Range x (k ((0, 0, 0, 0, 0, 0), false)) fun b => roundK F_bound_empty F_tnum_Meet F_tnum_Range b (k ((0, 0, 0, 0, 0, 0), false)) fun b => k (b, true)
theorem S_bound_Tidy {F_bound_empty : FT ps_bound_empty qs_bound_empty} {F_tnum_Meet : FT ps_tnum_Meet qs_tnum_Meet} {F_tnum_Range : FT ps_tnum_Range qs_tnum_Range} (h_bound_empty : SpecOk Try.prog 35 (mkS ps_bound_empty qs_bound_empty F_bound_empty)) (h_tnum_Meet : SpecOk Try.prog 37 (mkS ps_tnum_Meet qs_tnum_Meet F_tnum_Meet)) (h_tnum_Range : SpecOk Try.prog 38 (mkS ps_tnum_Range qs_tnum_Range F_tnum_Range)) :
    SpecOk Try.prog 12 (mkS ps_bound_Tidy qs_bound_Tidy (N_bound_Tidy F_bound_empty F_tnum_Meet F_tnum_Range)) :=
  specOk_mk (fl := 10) (d := 12) (cfgOk_cons (cfgOk_cons (cfgOk_cons base h_tnum_Range) h_tnum_Meet) h_bound_empty) (by rintro R ⟨x0Umin, x0Umax, x0Smin, x0Smax, x0Bits_Value, x0Bits_Mask⟩ k; kernel_rfl)
def F_bound_Tidy : FT ps_bound_Tidy qs_bound_Tidy := N_bound_Tidy F_bound_empty F_tnum_Meet F_tnum_Range
theorem ok_bound_Tidy : SpecOk Try.prog 12 (mkS ps_bound_Tidy qs_bound_Tidy F_bound_Tidy) := S_bound_Tidy ok_bound_empty ok_tnum_Meet ok_tnum_Range
abbrev ps_bound_Meet : List PT := [.agg ((.prod (.int .u64) (.prod (.int .u64) (.prod (.int .i64) (.prod (.int .i64) ((.prod (.int .u64) (.int .u64)))))))), .agg ((.prod (.int .u64) (.prod (.int .u64) (.prod (.int .i64) (.prod (.int .i64) ((.prod (.int .u64) (.int .u64))))))))]
abbrev qs_bound_Meet : List PT := [.agg ((.prod (.int .u64) (.prod (.int .u64) (.prod (.int .i64) (.prod (.int .i64) ((.prod (.int .u64) (.int .u64)))))))), .one (.bool)]
def N_bound_Meet (F_tnum_Meet : FT ps_tnum_Meet qs_tnum_Meet) (F_bound_Tidy : FT ps_bound_Tidy qs_bound_Tidy) : FT ps_bound_Meet qs_bound_Meet := fun R x k => match x with
  | ((x0Umin, x0Umax, x0Smin, x0Smax, (x0Bits_Value, x0Bits_Mask)), (x1Umin, x1Umax, x1Smin, x1Smax, (x1Bits_Value, x1Bits_Mask))) => 
      F_tnum_Meet R ((x0Bits_Value, x0Bits_Mask), x1Bits_Value, x1Bits_Mask) fun y =>
        br (W.not y.2) (k ((0, 0, 0, 0, 0, 0), false))
          (F_bound_Tidy R (W.max x0Umin x1Umin, W.min x0Umax x1Umax, W.max x0Smin x1Smin, W.min x0Smax x1Smax, (Prod.fst y).1, (Prod.fst y).2) fun y =>
            k
              (((Prod.fst y).1, (Prod.snd (Prod.fst y)).1, (Prod.snd (Prod.snd (Prod.fst y))).1, (Prod.snd (Prod.snd (Prod.snd (Prod.fst y)))).1, (Prod.snd (Prod.snd (Prod.snd (Prod.snd (Prod.fst y))))).1,
                  (Prod.snd (Prod.snd (Prod.snd (Prod.snd (Prod.fst y))))).2),
                y.2))
theorem S_bound_Meet {F_tnum_Meet : FT ps_tnum_Meet qs_tnum_Meet} {F_bound_Tidy : FT ps_bound_Tidy qs_bound_Tidy} (h_tnum_Meet : SpecOk Try.prog 37 (mkS ps_tnum_Meet qs_tnum_Meet F_tnum_Meet)) (h_bound_Tidy : SpecOk Try.prog 12 (mkS ps_bound_Tidy qs_bound_Tidy F_bound_Tidy)) : SpecOk Try.prog 26 (mkS ps_bound_Meet qs_bound_Meet (N_bound_Meet F_tnum_Meet F_bound_Tidy)) :=
  specOk_mk (fl := 10) (d := 12) (cfgOk_cons (cfgOk_cons base h_bound_Tidy) h_tnum_Meet) (by rintro R ⟨⟨x0Umin, x0Umax, x0Smin, x0Smax, ⟨x0Bits_Value, x0Bits_Mask⟩⟩, ⟨x1Umin, x1Umax, x1Smin, x1Smax, ⟨x1Bits_Value, x1Bits_Mask⟩⟩⟩ k; kernel_rfl)
def F_bound_Meet : FT ps_bound_Meet qs_bound_Meet := N_bound_Meet F_tnum_Meet F_bound_Tidy
theorem ok_bound_Meet : SpecOk Try.prog 26 (mkS ps_bound_Meet qs_bound_Meet F_bound_Meet) := S_bound_Meet ok_tnum_Meet ok_bound_Tidy
abbrev ps_clevislaw08heads : List PT := []
abbrev qs_clevislaw08heads : List PT := [.one (.bool)]
def F_clevislaw08heads : FT ps_clevislaw08heads qs_clevislaw08heads := fun R x k => k true
theorem ok_clevislaw08heads : SpecOk Try.prog 11 (mkS ps_clevislaw08heads qs_clevislaw08heads F_clevislaw08heads) :=
  specOk_mk (fl := 100) (d := 12) (cfgOk_cons (cfgOk_cons (cfgOk_cons (cfgOk_cons (cfgOk_cons (cfgOk_cons (cfgOk_cons (cfgOk_cons (cfgOk_cons (cfgOk_cons base ok_tnum_tidy) ok_bound_Const) ok_bound_Any) ok_bound_Size) ok_clevisref08Any) ok_bound_empty) ok_tnum_Meet) ok_tnum_Range) ok_bound_Value) ok_bound_In) (by intro R x k; kernel_rfl)
abbrev ps_tnum_Join : List PT := [.agg ((.prod (.int .u64) (.int .u64))), .agg ((.prod (.int .u64) (.int .u64)))]
abbrev qs_tnum_Join : List PT := [.agg ((.prod (.int .u64) (.int .u64)))]
def N_tnum_Join (F_tnum_tidy : FT ps_tnum_tidy qs_tnum_tidy) : FT ps_tnum_Join qs_tnum_Join := fun R x k => match x with
  | ((x0Value, x0Mask), (x1Value, x1Mask)) => 
      F_tnum_tidy R
        (W.wrap IntKind.u64 (W.and IntKind.u64 x0Value x1Value),
          W.wrap IntKind.u64 (W.or IntKind.u64 (W.wrap IntKind.u64 (W.or IntKind.u64 x0Mask x1Mask)) (W.wrap IntKind.u64 (W.xor IntKind.u64 x0Value x1Value))))
        fun y => k (y.1, y.2)
theorem S_tnum_Join {F_tnum_tidy : FT ps_tnum_tidy qs_tnum_tidy} (h_tnum_tidy : SpecOk Try.prog 58 (mkS ps_tnum_tidy qs_tnum_tidy F_tnum_tidy)) : SpecOk Try.prog 50 (mkS ps_tnum_Join qs_tnum_Join (N_tnum_Join F_tnum_tidy)) :=
  specOk_mk (fl := 10) (d := 12) (cfgOk_cons base h_tnum_tidy) (by rintro R ⟨⟨x0Value, x0Mask⟩, ⟨x1Value, x1Mask⟩⟩ k; kernel_rfl)
def F_tnum_Join : FT ps_tnum_Join qs_tnum_Join := N_tnum_Join F_tnum_tidy
theorem ok_tnum_Join : SpecOk Try.prog 50 (mkS ps_tnum_Join qs_tnum_Join F_tnum_Join) := S_tnum_Join ok_tnum_tidy
abbrev ps_bound_Join : List PT := [.agg ((.prod (.int .u64) (.prod (.int .u64) (.prod (.int .i64) (.prod (.int .i64) ((.prod (.int .u64) (.int .u64)))))))), .agg ((.prod (.int .u64) (.prod (.int .u64) (.prod (.int .i64) (.prod (.int .i64) ((.prod (.int .u64) (.int .u64))))))))]
abbrev qs_bound_Join : List PT := [.agg ((.prod (.int .u64) (.prod (.int .u64) (.prod (.int .i64) (.prod (.int .i64) ((.prod (.int .u64) (.int .u64))))))))]
def N_bound_Join (F_tnum_Join : FT ps_tnum_Join qs_tnum_Join) : FT ps_bound_Join qs_bound_Join := fun R x k => match x with
  | ((x0Umin, x0Umax, x0Smin, x0Smax, (x0Bits_Value, x0Bits_Mask)), (x1Umin, x1Umax, x1Smin, x1Smax, (x1Bits_Value, x1Bits_Mask))) => 
      F_tnum_Join R ((x0Bits_Value, x0Bits_Mask), x1Bits_Value, x1Bits_Mask) fun y => k (W.min x0Umin x1Umin, W.max x0Umax x1Umax, W.min x0Smin x1Smin, W.max x0Smax x1Smax, y.1, y.2)
theorem S_bound_Join {F_tnum_Join : FT ps_tnum_Join qs_tnum_Join} (h_tnum_Join : SpecOk Try.prog 50 (mkS ps_tnum_Join qs_tnum_Join F_tnum_Join)) : SpecOk Try.prog 25 (mkS ps_bound_Join qs_bound_Join (N_bound_Join F_tnum_Join)) :=
  specOk_mk (fl := 10) (d := 12) (cfgOk_cons base h_tnum_Join) (by rintro R ⟨⟨x0Umin, x0Umax, x0Smin, x0Smax, ⟨x0Bits_Value, x0Bits_Mask⟩⟩, ⟨x1Umin, x1Umax, x1Smin, x1Smax, ⟨x1Bits_Value, x1Bits_Mask⟩⟩⟩ k; kernel_rfl)
def F_bound_Join : FT ps_bound_Join qs_bound_Join := N_bound_Join F_tnum_Join
theorem ok_bound_Join : SpecOk Try.prog 25 (mkS ps_bound_Join qs_bound_Join F_bound_Join) := S_bound_Join ok_tnum_Join
abbrev ps_tnum_Low : List PT := [.agg ((.prod (.int .u64) (.int .u64)))]
abbrev qs_tnum_Low : List PT := [.agg ((.prod (.int .u64) (.int .u64)))]
def N_tnum_Low  : FT ps_tnum_Low qs_tnum_Low := fun R x k => match x with
  | (x0Value, x0Mask) => 
      k (W.wrap IntKind.u64 (W.wrap IntKind.u32 x0Value), W.wrap IntKind.u64 (W.wrap IntKind.u32 x0Mask))
theorem S_tnum_Low   : SpecOk Try.prog 51 (mkS ps_tnum_Low qs_tnum_Low (N_tnum_Low )) :=
  specOk_mk (fl := 10) (d := 12) base (by rintro R ⟨x0Value, x0Mask⟩ k; kernel_rfl)
def F_tnum_Low : FT ps_tnum_Low qs_tnum_Low := N_tnum_Low 
theorem ok_tnum_Low : SpecOk Try.prog 51 (mkS ps_tnum_Low qs_tnum_Low F_tnum_Low) := S_tnum_Low 
abbrev ps_bound_Low : List PT := [.agg ((.prod (.int .u64) (.prod (.int .u64) (.prod (.int .i64) (.prod (.int .i64) ((.prod (.int .u64) (.int .u64))))))))]
abbrev qs_bound_Low : List PT := [.agg ((.prod (.int .u64) (.prod (.int .u64) (.prod (.int .i64) (.prod (.int .i64) ((.prod (.int .u64) (.int .u64))))))))]
def N_bound_Low (F_bound_Tidy : FT ps_bound_Tidy qs_bound_Tidy) (F_bound_Size : FT ps_bound_Size qs_bound_Size) (F_tnum_Low : FT ps_tnum_Low qs_tnum_Low) : FT ps_bound_Low qs_bound_Low := fun R x k => match x with
  | (x0Umin, x0Umax, x0Smin, x0Smax, (x0Bits_Value, x0Bits_Mask)) => 
      F_bound_Size R 4 fun y =>
        br (W.le x0Umax (Prod.snd y).1) (k (x0Umin, x0Umax, x0Smin, x0Smax, x0Bits_Value, x0Bits_Mask))
          (F_tnum_Low R (x0Bits_Value, x0Bits_Mask) fun y_1 =>
            F_bound_Tidy R (y.1, (Prod.snd y).1, (Prod.snd (Prod.snd y)).1, (Prod.snd (Prod.snd (Prod.snd y))).1, y_1.1, y_1.2) fun y_2 =>
              br
                (W.pick y_2.2
                  (W.not
                    (W.and2 (W.eq y.1 y.1)
                      (W.and2 (W.eq (Prod.snd y).1 (Prod.snd y).1)
                        (W.and2 (W.eq (Prod.snd (Prod.snd y)).1 (Prod.snd (Prod.snd y)).1)
                          (W.and2 (W.eq (Prod.snd (Prod.snd (Prod.snd y))).1 (Prod.snd (Prod.snd (Prod.snd y))).1)
                            (W.and2 (W.eq y_1.1 (Prod.snd (Prod.snd (Prod.snd (Prod.snd y)))).1) (W.and2 (W.eq y_1.2 (Prod.snd (Prod.snd (Prod.snd (Prod.snd y)))).2) true)))))))
                  false)
                (k
                  ((Prod.fst y_2).1, (Prod.snd (Prod.fst y_2)).1, (Prod.snd (Prod.snd (Prod.fst y_2))).1, (Prod.snd (Prod.snd (Prod.snd (Prod.fst y_2)))).1,
                    (Prod.snd (Prod.snd (Prod.snd (Prod.snd (Prod.fst y_2))))).1, (Prod.snd (Prod.snd (Prod.snd (Prod.snd (Prod.fst y_2))))).2))
                (k (y.1, (Prod.snd y).1, (Prod.snd (Prod.snd y)).1, (Prod.snd (Prod.snd (Prod.snd y))).1, (Prod.snd (Prod.snd (Prod.snd (Prod.snd y)))).1, (Prod.snd (Prod.snd (Prod.snd (Prod.snd y)))).2)))
theorem S_bound_Low {F_bound_Tidy : FT ps_bound_Tidy qs_bound_Tidy} {F_bound_Size : FT ps_bound_Size qs_bound_Size} {F_tnum_Low : FT ps_tnum_Low qs_tnum_Low} (h_bound_Tidy : SpecOk Try.prog 12 (mkS ps_bound_Tidy qs_bound_Tidy F_bound_Tidy)) (h_bound_Size : SpecOk Try.prog 22 (mkS ps_bound_Size qs_bound_Size F_bound_Size)) (h_tnum_Low : SpecOk Try.prog 51 (mkS ps_tnum_Low qs_tnum_Low F_tnum_Low)) : SpecOk Try.prog 27 (mkS ps_bound_Low qs_bound_Low (N_bound_Low F_bound_Tidy F_bound_Size F_tnum_Low)) :=
  specOk_mk (fl := 10) (d := 12) (cfgOk_cons (cfgOk_cons (cfgOk_cons base h_tnum_Low) h_bound_Size) h_bound_Tidy) (by rintro R ⟨x0Umin, x0Umax, x0Smin, x0Smax, ⟨x0Bits_Value, x0Bits_Mask⟩⟩ k; kernel_rfl)
def F_bound_Low : FT ps_bound_Low qs_bound_Low := N_bound_Low F_bound_Tidy F_bound_Size F_tnum_Low
theorem ok_bound_Low : SpecOk Try.prog 27 (mkS ps_bound_Low qs_bound_Low F_bound_Low) := S_bound_Low ok_bound_Tidy ok_bound_Size ok_tnum_Low
abbrev ps_clevislaw08BoundTidies : List PT := [.agg ((.prod (.int .u64) (.prod (.int .u64) (.prod (.int .i64) (.prod (.int .i64) ((.prod (.int .u64) (.int .u64)))))))), .one (.int .u64)]
def L_clevislaw08BoundTidies (F_bound_Check : FT ps_bound_Check qs_bound_Check) (F_bound_Tidy : FT ps_bound_Tidy qs_bound_Tidy) (F_bound_In : FT ps_bound_In qs_bound_In) (F_clevislaw08heads : FT ps_clevislaw08heads qs_clevislaw08heads) (x : PTs.D ps_clevislaw08BoundTidies) : Option Unit := match x with
  | ((x0Umin, x0Umax, x0Smin, x0Smax, (x0Bits_Value, x0Bits_Mask)), x1) => 
      F_bound_Check Unit (x0Umin, x0Umax, x0Smin, x0Smax, x0Bits_Value, x0Bits_Mask) fun y =>
        br (W.not y) (F_clevislaw08heads Unit () fun y => br y (some ()) none)
          (F_bound_Tidy Unit (x0Umin, x0Umax, x0Smin, x0Smax, x0Bits_Value, x0Bits_Mask) fun y =>
            br (W.not y.2)
              (F_bound_In Unit ((x0Umin, x0Umax, x0Smin, x0Smax, x0Bits_Value, x0Bits_Mask), x1) fun y =>
                br (W.not y) (F_clevislaw08heads Unit () fun y => br (W.pick true y false) (some ()) none) none)
              (F_bound_In Unit ((x0Umin, x0Umax, x0Smin, x0Smax, x0Bits_Value, x0Bits_Mask), x1) fun y_1 =>
                F_bound_In Unit
                  (((Prod.fst y).1, (Prod.snd (Prod.fst y)).1, (Prod.snd (Prod.snd (Prod.fst y))).1, (Prod.snd (Prod.snd (Prod.snd (Prod.fst y)))).1,
                      (Prod.snd (Prod.snd (Prod.snd (Prod.snd (Prod.fst y))))).1, (Prod.snd (Prod.snd (Prod.snd (Prod.snd (Prod.fst y))))).2),
                    x1)
                  fun y_2 =>
                  br (W.eqB y_1 y_2)
                    (F_bound_Check Unit
                      ((Prod.fst y).1, (Prod.snd (Prod.fst y)).1, (Prod.snd (Prod.snd (Prod.fst y))).1, (Prod.snd (Prod.snd (Prod.snd (Prod.fst y)))).1,
                        (Prod.snd (Prod.snd (Prod.snd (Prod.snd (Prod.fst y))))).1, (Prod.snd (Prod.snd (Prod.snd (Prod.snd (Prod.fst y))))).2)
                      fun y => br (W.pick true y false) (F_clevislaw08heads Unit () fun y => br (W.pick true y false) (some ()) none) none)
                    none))
theorem E_clevislaw08BoundTidies {F_bound_Check : FT ps_bound_Check qs_bound_Check} {F_bound_Tidy : FT ps_bound_Tidy qs_bound_Tidy} {F_bound_In : FT ps_bound_In qs_bound_In} {F_clevislaw08heads : FT ps_clevislaw08heads qs_clevislaw08heads} (h_bound_Check : SpecOk Try.prog 10 (mkS ps_bound_Check qs_bound_Check F_bound_Check)) (h_bound_Tidy : SpecOk Try.prog 12 (mkS ps_bound_Tidy qs_bound_Tidy F_bound_Tidy)) (h_bound_In : SpecOk Try.prog 13 (mkS ps_bound_In qs_bound_In F_bound_In)) (h_clevislaw08heads : SpecOk Try.prog 11 (mkS ps_clevislaw08heads qs_clevislaw08heads F_clevislaw08heads)) (x : PTs.D ps_clevislaw08BoundTidies) (hL : L_clevislaw08BoundTidies F_bound_Check F_bound_Tidy F_bound_In F_clevislaw08heads x = some ()) :
    ∃ (C : Cfg) (fl d : Nat), CfgOk C ∧ C.P = Try.prog ∧ call C fl d 3 (encL ps_clevislaw08BoundTidies x) [] (fun v _ => match v with | .bool b => br b (some ()) none | _ => none) = some () :=
  ⟨_, 10, 12, (cfgOk_cons (cfgOk_cons (cfgOk_cons (cfgOk_cons base h_clevislaw08heads) h_bound_In) h_bound_Tidy) h_bound_Check), rfl, (show _ = L_clevislaw08BoundTidies F_bound_Check F_bound_Tidy F_bound_In F_clevislaw08heads x by obtain ⟨⟨x0Umin, x0Umax, x0Smin, x0Smax, ⟨x0Bits_Value, x0Bits_Mask⟩⟩, x1⟩ := x; kernel_rfl).trans hL⟩
abbrev ps_clevislaw08BoundHolds : List PT := [.agg ((.prod (.int .u64) (.prod (.int .u64) (.prod (.int .i64) (.prod (.int .i64) ((.prod (.int .u64) (.int .u64)))))))), .agg ((.prod (.int .u64) (.prod (.int .u64) (.prod (.int .i64) (.prod (.int .i64) ((.prod (.int .u64) (.int .u64)))))))), .one (.int .u64)]
def L_clevislaw08BoundHolds (F_bound_Check : FT ps_bound_Check qs_bound_Check) (F_bound_In : FT ps_bound_In qs_bound_In) (F_clevislaw08heads : FT ps_clevislaw08heads qs_clevislaw08heads) (F_bound_Within : FT ps_bound_Within qs_bound_Within) (x : PTs.D ps_clevislaw08BoundHolds) : Option Unit := match x with
  | ((x0Umin, x0Umax, x0Smin, x0Smax, (x0Bits_Value, x0Bits_Mask)), (x1Umin, x1Umax, x1Smin, x1Smax, (x1Bits_Value, x1Bits_Mask)), x2) => 
      F_bound_Check Unit (x0Umin, x0Umax, x0Smin, x0Smax, x0Bits_Value, x0Bits_Mask) fun y =>
        br (W.not (W.not y))
          (F_bound_Check Unit (x1Umin, x1Umax, x1Smin, x1Smax, x1Bits_Value, x1Bits_Mask) fun y =>
            br (W.not (W.pick false true (W.not y)))
              (F_bound_Within Unit ((x0Umin, x0Umax, x0Smin, x0Smax, x0Bits_Value, x0Bits_Mask), x1Umin, x1Umax, x1Smin, x1Smax, x1Bits_Value, x1Bits_Mask) fun y =>
                br (W.not (W.pick false true (W.not y)))
                  (F_bound_In Unit ((x1Umin, x1Umax, x1Smin, x1Smax, x1Bits_Value, x1Bits_Mask), x2) fun y =>
                    br (W.pick false true (W.not y)) (F_clevislaw08heads Unit () fun y => br y (some ()) none)
                      (F_bound_In Unit ((x0Umin, x0Umax, x0Smin, x0Smax, x0Bits_Value, x0Bits_Mask), x2) fun y =>
                        br y (F_clevislaw08heads Unit () fun y => br (W.pick true y false) (some ()) none) none))
                  (F_clevislaw08heads Unit () fun y => br y (some ()) none))
              (F_clevislaw08heads Unit () fun y => br y (some ()) none))
          (F_clevislaw08heads Unit () fun y => br y (some ()) none)
theorem E_clevislaw08BoundHolds {F_bound_Check : FT ps_bound_Check qs_bound_Check} {F_bound_In : FT ps_bound_In qs_bound_In} {F_clevislaw08heads : FT ps_clevislaw08heads qs_clevislaw08heads} {F_bound_Within : FT ps_bound_Within qs_bound_Within} (h_bound_Check : SpecOk Try.prog 10 (mkS ps_bound_Check qs_bound_Check F_bound_Check)) (h_bound_In : SpecOk Try.prog 13 (mkS ps_bound_In qs_bound_In F_bound_In)) (h_clevislaw08heads : SpecOk Try.prog 11 (mkS ps_clevislaw08heads qs_clevislaw08heads F_clevislaw08heads)) (h_bound_Within : SpecOk Try.prog 18 (mkS ps_bound_Within qs_bound_Within F_bound_Within)) (x : PTs.D ps_clevislaw08BoundHolds) (hL : L_clevislaw08BoundHolds F_bound_Check F_bound_In F_clevislaw08heads F_bound_Within x = some ()) :
    ∃ (C : Cfg) (fl d : Nat), CfgOk C ∧ C.P = Try.prog ∧ call C fl d 5 (encL ps_clevislaw08BoundHolds x) [] (fun v _ => match v with | .bool b => br b (some ()) none | _ => none) = some () :=
  ⟨_, 10, 12, (cfgOk_cons (cfgOk_cons (cfgOk_cons (cfgOk_cons base h_bound_Within) h_clevislaw08heads) h_bound_In) h_bound_Check), rfl, (show _ = L_clevislaw08BoundHolds F_bound_Check F_bound_In F_clevislaw08heads F_bound_Within x by obtain ⟨⟨x0Umin, x0Umax, x0Smin, x0Smax, ⟨x0Bits_Value, x0Bits_Mask⟩⟩, ⟨x1Umin, x1Umax, x1Smin, x1Smax, ⟨x1Bits_Value, x1Bits_Mask⟩⟩, x2⟩ := x; kernel_rfl).trans hL⟩
abbrev ps_clevislaw08BoundConst : List PT := [.one (.int .u64), .one (.int .u64)]
def L_clevislaw08BoundConst (F_bound_Tidy : FT ps_bound_Tidy qs_bound_Tidy) (F_bound_In : FT ps_bound_In qs_bound_In) (F_bound_Value : FT ps_bound_Value qs_bound_Value) (F_bound_Const : FT ps_bound_Const qs_bound_Const) (F_bound_Any : FT ps_bound_Any qs_bound_Any) (F_clevislaw08heads : FT ps_clevislaw08heads qs_clevislaw08heads) (F_bound_Within : FT ps_bound_Within qs_bound_Within) (F_bound_Join : FT ps_bound_Join qs_bound_Join) (x : PTs.D ps_clevislaw08BoundConst) : Option Unit := match x with
  | (x0, x1) => 
      F_bound_Const Unit x0 fun y =>
        F_bound_Value Unit
          (y.1, (Prod.snd y).1, (Prod.snd (Prod.snd y)).1, (Prod.snd (Prod.snd (Prod.snd y))).1, (Prod.snd (Prod.snd (Prod.snd (Prod.snd y)))).1, (Prod.snd (Prod.snd (Prod.snd (Prod.snd y)))).2) fun y_1 =>
          F_bound_Tidy Unit
            (y.1, (Prod.snd y).1, (Prod.snd (Prod.snd y)).1, (Prod.snd (Prod.snd (Prod.snd y))).1, (Prod.snd (Prod.snd (Prod.snd (Prod.snd y)))).1, (Prod.snd (Prod.snd (Prod.snd (Prod.snd y)))).2)
            fun y_2 =>
            F_bound_Any Unit () fun y_3 =>
              F_bound_Tidy Unit
                (x0, x0, (Prod.snd (Prod.snd y_3)).1, (Prod.snd (Prod.snd (Prod.snd y_3))).1, (Prod.snd (Prod.snd (Prod.snd (Prod.snd y_3)))).1, (Prod.snd (Prod.snd (Prod.snd (Prod.snd y_3)))).2) fun y_4 =>
                br (W.pick y_1.2 (W.eq y_1.1 x0) false)
                  (F_bound_In Unit
                    ((y.1, (Prod.snd y).1, (Prod.snd (Prod.snd y)).1, (Prod.snd (Prod.snd (Prod.snd y))).1, (Prod.snd (Prod.snd (Prod.snd (Prod.snd y)))).1, (Prod.snd (Prod.snd (Prod.snd (Prod.snd y)))).2),
                      x1)
                    fun y_5 =>
                    br
                      (W.pick
                        (W.pick
                          (W.pick (W.pick (W.pick true (W.eqB y_5 (W.eq x0 x1)) false) y_2.2 false)
                            (W.and2 (W.eq (Prod.fst y_2).1 y.1)
                              (W.and2 (W.eq (Prod.snd (Prod.fst y_2)).1 (Prod.snd y).1)
                                (W.and2 (W.eq (Prod.snd (Prod.snd (Prod.fst y_2))).1 (Prod.snd (Prod.snd y)).1)
                                  (W.and2 (W.eq (Prod.snd (Prod.snd (Prod.snd (Prod.fst y_2)))).1 (Prod.snd (Prod.snd (Prod.snd y))).1)
                                    (W.and2 (W.eq (Prod.snd (Prod.snd (Prod.snd (Prod.snd (Prod.fst y_2))))).1 (Prod.snd (Prod.snd (Prod.snd (Prod.snd y)))).1)
                                      (W.and2 (W.eq (Prod.snd (Prod.snd (Prod.snd (Prod.snd (Prod.fst y_2))))).2 (Prod.snd (Prod.snd (Prod.snd (Prod.snd y)))).2) true))))))
                            false)
                          y_4.2 false)
                        (W.and2 (W.eq (Prod.fst y_4).1 y.1)
                          (W.and2 (W.eq (Prod.snd (Prod.fst y_4)).1 (Prod.snd y).1)
                            (W.and2 (W.eq (Prod.snd (Prod.snd (Prod.fst y_4))).1 (Prod.snd (Prod.snd y)).1)
                              (W.and2 (W.eq (Prod.snd (Prod.snd (Prod.snd (Prod.fst y_4)))).1 (Prod.snd (Prod.snd (Prod.snd y))).1)
                                (W.and2 (W.eq (Prod.snd (Prod.snd (Prod.snd (Prod.snd (Prod.fst y_4))))).1 (Prod.snd (Prod.snd (Prod.snd (Prod.snd y)))).1)
                                  (W.and2 (W.eq (Prod.snd (Prod.snd (Prod.snd (Prod.snd (Prod.fst y_4))))).2 (Prod.snd (Prod.snd (Prod.snd (Prod.snd y)))).2) true))))))
                        false)
                      (F_bound_Any Unit () fun y_6 =>
                        F_bound_Within Unit
                          ((y_6.1, (Prod.snd y_6).1, (Prod.snd (Prod.snd y_6)).1, (Prod.snd (Prod.snd (Prod.snd y_6))).1, (Prod.snd (Prod.snd (Prod.snd (Prod.snd y_6)))).1,
                              (Prod.snd (Prod.snd (Prod.snd (Prod.snd y_6)))).2),
                            y.1, (Prod.snd y).1, (Prod.snd (Prod.snd y)).1, (Prod.snd (Prod.snd (Prod.snd y))).1, (Prod.snd (Prod.snd (Prod.snd (Prod.snd y)))).1,
                            (Prod.snd (Prod.snd (Prod.snd (Prod.snd y)))).2)
                          fun y_7 =>
                          br (W.pick true y_7 false)
                            (F_bound_Join Unit
                              ((y.1, (Prod.snd y).1, (Prod.snd (Prod.snd y)).1, (Prod.snd (Prod.snd (Prod.snd y))).1, (Prod.snd (Prod.snd (Prod.snd (Prod.snd y)))).1,
                                  (Prod.snd (Prod.snd (Prod.snd (Prod.snd y)))).2),
                                y.1, (Prod.snd y).1, (Prod.snd (Prod.snd y)).1, (Prod.snd (Prod.snd (Prod.snd y))).1, (Prod.snd (Prod.snd (Prod.snd (Prod.snd y)))).1,
                                (Prod.snd (Prod.snd (Prod.snd (Prod.snd y)))).2)
                              fun y_8 =>
                              br
                                (W.pick true
                                  (W.and2 (W.eq y_8.1 y.1)
                                    (W.and2 (W.eq (Prod.snd y_8).1 (Prod.snd y).1)
                                      (W.and2 (W.eq (Prod.snd (Prod.snd y_8)).1 (Prod.snd (Prod.snd y)).1)
                                        (W.and2 (W.eq (Prod.snd (Prod.snd (Prod.snd y_8))).1 (Prod.snd (Prod.snd (Prod.snd y))).1)
                                          (W.and2 (W.eq (Prod.snd (Prod.snd (Prod.snd (Prod.snd y_8)))).1 (Prod.snd (Prod.snd (Prod.snd (Prod.snd y)))).1)
                                            (W.and2 (W.eq (Prod.snd (Prod.snd (Prod.snd (Prod.snd y_8)))).2 (Prod.snd (Prod.snd (Prod.snd (Prod.snd y)))).2) true))))))
                                  false)
                                (F_clevislaw08heads Unit () fun y => br (W.pick true y false) (some ()) none) none)
                            none)
                      none)
                  (br
                    (W.pick
                      (W.pick
                        (W.pick (W.pick false y_2.2 false)
                          (W.and2 (W.eq (Prod.fst y_2).1 y.1)
                            (W.and2 (W.eq (Prod.snd (Prod.fst y_2)).1 (Prod.snd y).1)
                              (W.and2 (W.eq (Prod.snd (Prod.snd (Prod.fst y_2))).1 (Prod.snd (Prod.snd y)).1)
                                (W.and2 (W.eq (Prod.snd (Prod.snd (Prod.snd (Prod.fst y_2)))).1 (Prod.snd (Prod.snd (Prod.snd y))).1)
                                  (W.and2 (W.eq (Prod.snd (Prod.snd (Prod.snd (Prod.snd (Prod.fst y_2))))).1 (Prod.snd (Prod.snd (Prod.snd (Prod.snd y)))).1)
                                    (W.and2 (W.eq (Prod.snd (Prod.snd (Prod.snd (Prod.snd (Prod.fst y_2))))).2 (Prod.snd (Prod.snd (Prod.snd (Prod.snd y)))).2) true))))))
                          false)
                        y_4.2 false)
                      (W.and2 (W.eq (Prod.fst y_4).1 y.1)
                        (W.and2 (W.eq (Prod.snd (Prod.fst y_4)).1 (Prod.snd y).1)
                          (W.and2 (W.eq (Prod.snd (Prod.snd (Prod.fst y_4))).1 (Prod.snd (Prod.snd y)).1)
                            (W.and2 (W.eq (Prod.snd (Prod.snd (Prod.snd (Prod.fst y_4)))).1 (Prod.snd (Prod.snd (Prod.snd y))).1)
                              (W.and2 (W.eq (Prod.snd (Prod.snd (Prod.snd (Prod.snd (Prod.fst y_4))))).1 (Prod.snd (Prod.snd (Prod.snd (Prod.snd y)))).1)
                                (W.and2 (W.eq (Prod.snd (Prod.snd (Prod.snd (Prod.snd (Prod.fst y_4))))).2 (Prod.snd (Prod.snd (Prod.snd (Prod.snd y)))).2) true))))))
                      false)
                    (F_bound_Any Unit () fun y_5 =>
                      F_bound_Within Unit
                        ((y_5.1, (Prod.snd y_5).1, (Prod.snd (Prod.snd y_5)).1, (Prod.snd (Prod.snd (Prod.snd y_5))).1, (Prod.snd (Prod.snd (Prod.snd (Prod.snd y_5)))).1,
                            (Prod.snd (Prod.snd (Prod.snd (Prod.snd y_5)))).2),
                          y.1, (Prod.snd y).1, (Prod.snd (Prod.snd y)).1, (Prod.snd (Prod.snd (Prod.snd y))).1, (Prod.snd (Prod.snd (Prod.snd (Prod.snd y)))).1,
                          (Prod.snd (Prod.snd (Prod.snd (Prod.snd y)))).2)
                        fun y_6 =>
                        br (W.pick true y_6 false)
                          (F_bound_Join Unit
                            ((y.1, (Prod.snd y).1, (Prod.snd (Prod.snd y)).1, (Prod.snd (Prod.snd (Prod.snd y))).1, (Prod.snd (Prod.snd (Prod.snd (Prod.snd y)))).1,
                                (Prod.snd (Prod.snd (Prod.snd (Prod.snd y)))).2),
                              y.1, (Prod.snd y).1, (Prod.snd (Prod.snd y)).1, (Prod.snd (Prod.snd (Prod.snd y))).1, (Prod.snd (Prod.snd (Prod.snd (Prod.snd y)))).1,
                              (Prod.snd (Prod.snd (Prod.snd (Prod.snd y)))).2)
                            fun y_7 =>
                            br
                              (W.pick true
                                (W.and2 (W.eq y_7.1 y.1)
                                  (W.and2 (W.eq (Prod.snd y_7).1 (Prod.snd y).1)
                                    (W.and2 (W.eq (Prod.snd (Prod.snd y_7)).1 (Prod.snd (Prod.snd y)).1)
                                      (W.and2 (W.eq (Prod.snd (Prod.snd (Prod.snd y_7))).1 (Prod.snd (Prod.snd (Prod.snd y))).1)
                                        (W.and2 (W.eq (Prod.snd (Prod.snd (Prod.snd (Prod.snd y_7)))).1 (Prod.snd (Prod.snd (Prod.snd (Prod.snd y)))).1)
                                          (W.and2 (W.eq (Prod.snd (Prod.snd (Prod.snd (Prod.snd y_7)))).2 (Prod.snd (Prod.snd (Prod.snd (Prod.snd y)))).2) true))))))
                                false)
                              (F_clevislaw08heads Unit () fun y => br (W.pick true y false) (some ()) none) none)
                          none)
                    none)
theorem E_clevislaw08BoundConst {F_bound_Tidy : FT ps_bound_Tidy qs_bound_Tidy} {F_bound_In : FT ps_bound_In qs_bound_In} {F_bound_Value : FT ps_bound_Value qs_bound_Value} {F_bound_Const : FT ps_bound_Const qs_bound_Const} {F_bound_Any : FT ps_bound_Any qs_bound_Any} {F_clevislaw08heads : FT ps_clevislaw08heads qs_clevislaw08heads} {F_bound_Within : FT ps_bound_Within qs_bound_Within} {F_bound_Join : FT ps_bound_Join qs_bound_Join} (h_bound_Tidy : SpecOk Try.prog 12 (mkS ps_bound_Tidy qs_bound_Tidy F_bound_Tidy)) (h_bound_In : SpecOk Try.prog 13 (mkS ps_bound_In qs_bound_In F_bound_In)) (h_bound_Value : SpecOk Try.prog 14 (mkS ps_bound_Value qs_bound_Value F_bound_Value)) (h_bound_Const : SpecOk Try.prog 20 (mkS ps_bound_Const qs_bound_Const F_bound_Const)) (h_bound_Any : SpecOk Try.prog 24 (mkS ps_bound_Any qs_bound_Any F_bound_Any)) (h_clevislaw08heads : SpecOk Try.prog 11 (mkS ps_clevislaw08heads qs_clevislaw08heads F_clevislaw08heads)) (h_bound_Within : SpecOk Try.prog 18 (mkS ps_bound_Within qs_bound_Within F_bound_Within)) (h_bound_Join : SpecOk Try.prog 25 (mkS ps_bound_Join qs_bound_Join F_bound_Join)) (x : PTs.D ps_clevislaw08BoundConst) (hL : L_clevislaw08BoundConst F_bound_Tidy F_bound_In F_bound_Value F_bound_Const F_bound_Any F_clevislaw08heads F_bound_Within F_bound_Join x = some ()) :
    ∃ (C : Cfg) (fl d : Nat), CfgOk C ∧ C.P = Try.prog ∧ call C fl d 6 (encL ps_clevislaw08BoundConst x) [] (fun v _ => match v with | .bool b => br b (some ()) none | _ => none) = some () :=
  ⟨_, 10, 12, (cfgOk_cons (cfgOk_cons (cfgOk_cons (cfgOk_cons (cfgOk_cons (cfgOk_cons (cfgOk_cons (cfgOk_cons base h_bound_Join) h_bound_Within) h_clevislaw08heads) h_bound_Any) h_bound_Const) h_bound_Value) h_bound_In) h_bound_Tidy), rfl, (show _ = L_clevislaw08BoundConst F_bound_Tidy F_bound_In F_bound_Value F_bound_Const F_bound_Any F_clevislaw08heads F_bound_Within F_bound_Join x by obtain ⟨x0, x1⟩ := x; kernel_rfl).trans hL⟩
abbrev ps_clevislaw08BoundMeets : List PT := [.agg ((.prod (.int .u64) (.prod (.int .u64) (.prod (.int .i64) (.prod (.int .i64) ((.prod (.int .u64) (.int .u64)))))))), .agg ((.prod (.int .u64) (.prod (.int .u64) (.prod (.int .i64) (.prod (.int .i64) ((.prod (.int .u64) (.int .u64)))))))), .one (.int .u64)]
def L_clevislaw08BoundMeets (F_bound_Check : FT ps_bound_Check qs_bound_Check) (F_bound_In : FT ps_bound_In qs_bound_In) (F_bound_Meet : FT ps_bound_Meet qs_bound_Meet) (F_clevislaw08heads : FT ps_clevislaw08heads qs_clevislaw08heads) (F_bound_Within : FT ps_bound_Within qs_bound_Within) (F_bound_Join : FT ps_bound_Join qs_bound_Join) (x : PTs.D ps_clevislaw08BoundMeets) : Option Unit := match x with
  | ((x0Umin, x0Umax, x0Smin, x0Smax, (x0Bits_Value, x0Bits_Mask)), (x1Umin, x1Umax, x1Smin, x1Smax, (x1Bits_Value, x1Bits_Mask)), x2) => 
      F_bound_Check Unit (x0Umin, x0Umax, x0Smin, x0Smax, x0Bits_Value, x0Bits_Mask) fun y =>
        br (W.not (W.not y))
          (F_bound_Check Unit (x1Umin, x1Umax, x1Smin, x1Smax, x1Bits_Value, x1Bits_Mask) fun y =>
            br (W.pick false true (W.not y)) (F_clevislaw08heads Unit () fun y => br y (some ()) none)
              (F_bound_Meet Unit ((x0Umin, x0Umax, x0Smin, x0Smax, x0Bits_Value, x0Bits_Mask), x1Umin, x1Umax, x1Smin, x1Smax, x1Bits_Value, x1Bits_Mask) fun y =>
                F_bound_In Unit ((x0Umin, x0Umax, x0Smin, x0Smax, x0Bits_Value, x0Bits_Mask), x2) fun y_1 =>
                  F_bound_In Unit ((x1Umin, x1Umax, x1Smin, x1Smax, x1Bits_Value, x1Bits_Mask), x2) fun y_2 =>
                    br (W.and2 (W.pick y_1 y_2 false) y.2)
                      (F_bound_In Unit
                        (((Prod.fst y).1, (Prod.snd (Prod.fst y)).1, (Prod.snd (Prod.snd (Prod.fst y))).1, (Prod.snd (Prod.snd (Prod.snd (Prod.fst y)))).1,
                            (Prod.snd (Prod.snd (Prod.snd (Prod.snd (Prod.fst y))))).1, (Prod.snd (Prod.snd (Prod.snd (Prod.snd (Prod.fst y))))).2),
                          x2)
                        fun y_3 =>
                        br (W.and2 (W.not (W.pick (W.pick y_1 y_2 false) (W.not (W.pick y.2 y_3 false)) false)) y.2)
                          (F_bound_In Unit
                            (((Prod.fst y).1, (Prod.snd (Prod.fst y)).1, (Prod.snd (Prod.snd (Prod.fst y))).1, (Prod.snd (Prod.snd (Prod.snd (Prod.fst y)))).1,
                                (Prod.snd (Prod.snd (Prod.snd (Prod.snd (Prod.fst y))))).1, (Prod.snd (Prod.snd (Prod.snd (Prod.snd (Prod.fst y))))).2),
                              x2)
                            fun y_4 =>
                            br (W.pick (W.pick (W.pick y_1 y_2 false) (W.not (W.pick y.2 y_3 false)) false) true (W.pick (W.pick y.2 y_4 false) (W.not (W.pick y_1 y_2 false)) false)) none
                              (F_bound_Join Unit ((x0Umin, x0Umax, x0Smin, x0Smax, x0Bits_Value, x0Bits_Mask), x1Umin, x1Umax, x1Smin, x1Smax, x1Bits_Value, x1Bits_Mask) fun y =>
                                br (W.not (W.not (W.pick y_1 true y_2)))
                                  (F_bound_In Unit
                                    ((y.1, (Prod.snd y).1, (Prod.snd (Prod.snd y)).1, (Prod.snd (Prod.snd (Prod.snd y))).1, (Prod.snd (Prod.snd (Prod.snd (Prod.snd y)))).1,
                                        (Prod.snd (Prod.snd (Prod.snd (Prod.snd y)))).2),
                                      x2)
                                    fun y_5 =>
                                    br (W.pick false true y_5)
                                      (F_bound_Within Unit
                                        ((y.1, (Prod.snd y).1, (Prod.snd (Prod.snd y)).1, (Prod.snd (Prod.snd (Prod.snd y))).1, (Prod.snd (Prod.snd (Prod.snd (Prod.snd y)))).1,
                                            (Prod.snd (Prod.snd (Prod.snd (Prod.snd y)))).2),
                                          x0Umin, x0Umax, x0Smin, x0Smax, x0Bits_Value, x0Bits_Mask)
                                        fun y_6 =>
                                        br (W.pick true y_6 false)
                                          (F_bound_Within Unit
                                            ((y.1, (Prod.snd y).1, (Prod.snd (Prod.snd y)).1, (Prod.snd (Prod.snd (Prod.snd y))).1, (Prod.snd (Prod.snd (Prod.snd (Prod.snd y)))).1,
                                                (Prod.snd (Prod.snd (Prod.snd (Prod.snd y)))).2),
                                              x1Umin, x1Umax, x1Smin, x1Smax, x1Bits_Value, x1Bits_Mask)
                                            fun y => br (W.pick true y false) (F_clevislaw08heads Unit () fun y => br (W.pick true y false) (some ()) none) none)
                                          none)
                                      none)
                                  (F_bound_Within Unit
                                    ((y.1, (Prod.snd y).1, (Prod.snd (Prod.snd y)).1, (Prod.snd (Prod.snd (Prod.snd y))).1, (Prod.snd (Prod.snd (Prod.snd (Prod.snd y)))).1,
                                        (Prod.snd (Prod.snd (Prod.snd (Prod.snd y)))).2),
                                      x0Umin, x0Umax, x0Smin, x0Smax, x0Bits_Value, x0Bits_Mask)
                                    fun y_5 =>
                                    br (W.pick true y_5 false)
                                      (F_bound_Within Unit
                                        ((y.1, (Prod.snd y).1, (Prod.snd (Prod.snd y)).1, (Prod.snd (Prod.snd (Prod.snd y))).1, (Prod.snd (Prod.snd (Prod.snd (Prod.snd y)))).1,
                                            (Prod.snd (Prod.snd (Prod.snd (Prod.snd y)))).2),
                                          x1Umin, x1Umax, x1Smin, x1Smax, x1Bits_Value, x1Bits_Mask)
                                        fun y => br (W.pick true y false) (F_clevislaw08heads Unit () fun y => br (W.pick true y false) (some ()) none) none)
                                      none)))
                          (br (W.not (W.pick (W.pick y_1 y_2 false) (W.not (W.pick y.2 y_3 false)) false))
                            (br y.2 none
                              (br (W.pick false true (W.pick false (W.not (W.pick y_1 y_2 false)) false)) none
                                (F_bound_Join Unit ((x0Umin, x0Umax, x0Smin, x0Smax, x0Bits_Value, x0Bits_Mask), x1Umin, x1Umax, x1Smin, x1Smax, x1Bits_Value, x1Bits_Mask) fun y =>
                                  br (W.not (W.not (W.pick y_1 true y_2)))
                                    (F_bound_In Unit
                                      ((y.1, (Prod.snd y).1, (Prod.snd (Prod.snd y)).1, (Prod.snd (Prod.snd (Prod.snd y))).1, (Prod.snd (Prod.snd (Prod.snd (Prod.snd y)))).1,
                                          (Prod.snd (Prod.snd (Prod.snd (Prod.snd y)))).2),
                                        x2)
                                      fun y_4 =>
                                      br (W.pick false true y_4)
                                        (F_bound_Within Unit
                                          ((y.1, (Prod.snd y).1, (Prod.snd (Prod.snd y)).1, (Prod.snd (Prod.snd (Prod.snd y))).1, (Prod.snd (Prod.snd (Prod.snd (Prod.snd y)))).1,
                                              (Prod.snd (Prod.snd (Prod.snd (Prod.snd y)))).2),
                                            x0Umin, x0Umax, x0Smin, x0Smax, x0Bits_Value, x0Bits_Mask)
                                          fun y_5 =>
                                          br (W.pick true y_5 false)
                                            (F_bound_Within Unit
                                              ((y.1, (Prod.snd y).1, (Prod.snd (Prod.snd y)).1, (Prod.snd (Prod.snd (Prod.snd y))).1, (Prod.snd (Prod.snd (Prod.snd (Prod.snd y)))).1,
                                                  (Prod.snd (Prod.snd (Prod.snd (Prod.snd y)))).2),
                                                x1Umin, x1Umax, x1Smin, x1Smax, x1Bits_Value, x1Bits_Mask)
                                              fun y => br (W.pick true y false) (F_clevislaw08heads Unit () fun y => br (W.pick true y false) (some ()) none) none)
                                            none)
                                        none)
                                    (F_bound_Within Unit
                                      ((y.1, (Prod.snd y).1, (Prod.snd (Prod.snd y)).1, (Prod.snd (Prod.snd (Prod.snd y))).1, (Prod.snd (Prod.snd (Prod.snd (Prod.snd y)))).1,
                                          (Prod.snd (Prod.snd (Prod.snd (Prod.snd y)))).2),
                                        x0Umin, x0Umax, x0Smin, x0Smax, x0Bits_Value, x0Bits_Mask)
                                      fun y_4 =>
                                      br (W.pick true y_4 false)
                                        (F_bound_Within Unit
                                          ((y.1, (Prod.snd y).1, (Prod.snd (Prod.snd y)).1, (Prod.snd (Prod.snd (Prod.snd y))).1, (Prod.snd (Prod.snd (Prod.snd (Prod.snd y)))).1,
                                              (Prod.snd (Prod.snd (Prod.snd (Prod.snd y)))).2),
                                            x1Umin, x1Umax, x1Smin, x1Smax, x1Bits_Value, x1Bits_Mask)
                                          fun y => br (W.pick true y false) (F_clevislaw08heads Unit () fun y => br (W.pick true y false) (some ()) none) none)
                                        none))))
                            none))
                      (br (W.pick y_1 y_2 false)
                        (br y.2 none
                          (br (W.and2 false y.2)
                            (F_bound_In Unit
                              (((Prod.fst y).1, (Prod.snd (Prod.fst y)).1, (Prod.snd (Prod.snd (Prod.fst y))).1, (Prod.snd (Prod.snd (Prod.snd (Prod.fst y)))).1,
                                  (Prod.snd (Prod.snd (Prod.snd (Prod.snd (Prod.fst y))))).1, (Prod.snd (Prod.snd (Prod.snd (Prod.snd (Prod.fst y))))).2),
                                x2)
                              fun y_3 =>
                              br (W.pick true true (W.pick (W.pick y.2 y_3 false) (W.not (W.pick y_1 y_2 false)) false)) none
                                (F_bound_Join Unit ((x0Umin, x0Umax, x0Smin, x0Smax, x0Bits_Value, x0Bits_Mask), x1Umin, x1Umax, x1Smin, x1Smax, x1Bits_Value, x1Bits_Mask) fun y =>
                                  br (W.not (W.not (W.pick y_1 true y_2)))
                                    (F_bound_In Unit
                                      ((y.1, (Prod.snd y).1, (Prod.snd (Prod.snd y)).1, (Prod.snd (Prod.snd (Prod.snd y))).1, (Prod.snd (Prod.snd (Prod.snd (Prod.snd y)))).1,
                                          (Prod.snd (Prod.snd (Prod.snd (Prod.snd y)))).2),
                                        x2)
                                      fun y_4 =>
                                      br (W.pick false true y_4)
                                        (F_bound_Within Unit
                                          ((y.1, (Prod.snd y).1, (Prod.snd (Prod.snd y)).1, (Prod.snd (Prod.snd (Prod.snd y))).1, (Prod.snd (Prod.snd (Prod.snd (Prod.snd y)))).1,
                                              (Prod.snd (Prod.snd (Prod.snd (Prod.snd y)))).2),
                                            x0Umin, x0Umax, x0Smin, x0Smax, x0Bits_Value, x0Bits_Mask)
                                          fun y_5 =>
                                          br (W.pick true y_5 false)
                                            (F_bound_Within Unit
                                              ((y.1, (Prod.snd y).1, (Prod.snd (Prod.snd y)).1, (Prod.snd (Prod.snd (Prod.snd y))).1, (Prod.snd (Prod.snd (Prod.snd (Prod.snd y)))).1,
                                                  (Prod.snd (Prod.snd (Prod.snd (Prod.snd y)))).2),
                                                x1Umin, x1Umax, x1Smin, x1Smax, x1Bits_Value, x1Bits_Mask)
                                              fun y => br (W.pick true y false) (F_clevislaw08heads Unit () fun y => br (W.pick true y false) (some ()) none) none)
                                            none)
                                        none)
                                    (F_bound_Within Unit
                                      ((y.1, (Prod.snd y).1, (Prod.snd (Prod.snd y)).1, (Prod.snd (Prod.snd (Prod.snd y))).1, (Prod.snd (Prod.snd (Prod.snd (Prod.snd y)))).1,
                                          (Prod.snd (Prod.snd (Prod.snd (Prod.snd y)))).2),
                                        x0Umin, x0Umax, x0Smin, x0Smax, x0Bits_Value, x0Bits_Mask)
                                      fun y_4 =>
                                      br (W.pick true y_4 false)
                                        (F_bound_Within Unit
                                          ((y.1, (Prod.snd y).1, (Prod.snd (Prod.snd y)).1, (Prod.snd (Prod.snd (Prod.snd y))).1, (Prod.snd (Prod.snd (Prod.snd (Prod.snd y)))).1,
                                              (Prod.snd (Prod.snd (Prod.snd (Prod.snd y)))).2),
                                            x1Umin, x1Umax, x1Smin, x1Smax, x1Bits_Value, x1Bits_Mask)
                                          fun y => br (W.pick true y false) (F_clevislaw08heads Unit () fun y => br (W.pick true y false) (some ()) none) none)
                                        none)))
                            none))
                        (br (W.and2 true y.2)
                          (F_bound_In Unit
                            (((Prod.fst y).1, (Prod.snd (Prod.fst y)).1, (Prod.snd (Prod.snd (Prod.fst y))).1, (Prod.snd (Prod.snd (Prod.snd (Prod.fst y)))).1,
                                (Prod.snd (Prod.snd (Prod.snd (Prod.snd (Prod.fst y))))).1, (Prod.snd (Prod.snd (Prod.snd (Prod.snd (Prod.fst y))))).2),
                              x2)
                            fun y_3 =>
                            br (W.pick false true (W.pick (W.pick y.2 y_3 false) (W.not (W.pick y_1 y_2 false)) false)) none
                              (F_bound_Join Unit ((x0Umin, x0Umax, x0Smin, x0Smax, x0Bits_Value, x0Bits_Mask), x1Umin, x1Umax, x1Smin, x1Smax, x1Bits_Value, x1Bits_Mask) fun y =>
                                br (W.not (W.not (W.pick y_1 true y_2)))
                                  (F_bound_In Unit
                                    ((y.1, (Prod.snd y).1, (Prod.snd (Prod.snd y)).1, (Prod.snd (Prod.snd (Prod.snd y))).1, (Prod.snd (Prod.snd (Prod.snd (Prod.snd y)))).1,
                                        (Prod.snd (Prod.snd (Prod.snd (Prod.snd y)))).2),
                                      x2)
                                    fun y_4 =>
                                    br (W.pick false true y_4)
                                      (F_bound_Within Unit
                                        ((y.1, (Prod.snd y).1, (Prod.snd (Prod.snd y)).1, (Prod.snd (Prod.snd (Prod.snd y))).1, (Prod.snd (Prod.snd (Prod.snd (Prod.snd y)))).1,
                                            (Prod.snd (Prod.snd (Prod.snd (Prod.snd y)))).2),
                                          x0Umin, x0Umax, x0Smin, x0Smax, x0Bits_Value, x0Bits_Mask)
                                        fun y_5 =>
                                        br (W.pick true y_5 false)
                                          (F_bound_Within Unit
                                            ((y.1, (Prod.snd y).1, (Prod.snd (Prod.snd y)).1, (Prod.snd (Prod.snd (Prod.snd y))).1, (Prod.snd (Prod.snd (Prod.snd (Prod.snd y)))).1,
                                                (Prod.snd (Prod.snd (Prod.snd (Prod.snd y)))).2),
                                              x1Umin, x1Umax, x1Smin, x1Smax, x1Bits_Value, x1Bits_Mask)
                                            fun y => br (W.pick true y false) (F_clevislaw08heads Unit () fun y => br (W.pick true y false) (some ()) none) none)
                                          none)
                                      none)
                                  (F_bound_Within Unit
                                    ((y.1, (Prod.snd y).1, (Prod.snd (Prod.snd y)).1, (Prod.snd (Prod.snd (Prod.snd y))).1, (Prod.snd (Prod.snd (Prod.snd (Prod.snd y)))).1,
                                        (Prod.snd (Prod.snd (Prod.snd (Prod.snd y)))).2),
                                      x0Umin, x0Umax, x0Smin, x0Smax, x0Bits_Value, x0Bits_Mask)
                                    fun y_4 =>
                                    br (W.pick true y_4 false)
                                      (F_bound_Within Unit
                                        ((y.1, (Prod.snd y).1, (Prod.snd (Prod.snd y)).1, (Prod.snd (Prod.snd (Prod.snd y))).1, (Prod.snd (Prod.snd (Prod.snd (Prod.snd y)))).1,
                                            (Prod.snd (Prod.snd (Prod.snd (Prod.snd y)))).2),
                                          x1Umin, x1Umax, x1Smin, x1Smax, x1Bits_Value, x1Bits_Mask)
                                        fun y => br (W.pick true y false) (F_clevislaw08heads Unit () fun y => br (W.pick true y false) (some ()) none) none)
                                      none)))
                          (br y.2 none
                            (br (W.pick false true (W.pick false (W.not (W.pick y_1 y_2 false)) false)) none
                              (F_bound_Join Unit ((x0Umin, x0Umax, x0Smin, x0Smax, x0Bits_Value, x0Bits_Mask), x1Umin, x1Umax, x1Smin, x1Smax, x1Bits_Value, x1Bits_Mask) fun y =>
                                br (W.not (W.not (W.pick y_1 true y_2)))
                                  (F_bound_In Unit
                                    ((y.1, (Prod.snd y).1, (Prod.snd (Prod.snd y)).1, (Prod.snd (Prod.snd (Prod.snd y))).1, (Prod.snd (Prod.snd (Prod.snd (Prod.snd y)))).1,
                                        (Prod.snd (Prod.snd (Prod.snd (Prod.snd y)))).2),
                                      x2)
                                    fun y_3 =>
                                    br (W.pick false true y_3)
                                      (F_bound_Within Unit
                                        ((y.1, (Prod.snd y).1, (Prod.snd (Prod.snd y)).1, (Prod.snd (Prod.snd (Prod.snd y))).1, (Prod.snd (Prod.snd (Prod.snd (Prod.snd y)))).1,
                                            (Prod.snd (Prod.snd (Prod.snd (Prod.snd y)))).2),
                                          x0Umin, x0Umax, x0Smin, x0Smax, x0Bits_Value, x0Bits_Mask)
                                        fun y_4 =>
                                        br (W.pick true y_4 false)
                                          (F_bound_Within Unit
                                            ((y.1, (Prod.snd y).1, (Prod.snd (Prod.snd y)).1, (Prod.snd (Prod.snd (Prod.snd y))).1, (Prod.snd (Prod.snd (Prod.snd (Prod.snd y)))).1,
                                                (Prod.snd (Prod.snd (Prod.snd (Prod.snd y)))).2),
                                              x1Umin, x1Umax, x1Smin, x1Smax, x1Bits_Value, x1Bits_Mask)
                                            fun y => br (W.pick true y false) (F_clevislaw08heads Unit () fun y => br (W.pick true y false) (some ()) none) none)
                                          none)
                                      none)
                                  (F_bound_Within Unit
                                    ((y.1, (Prod.snd y).1, (Prod.snd (Prod.snd y)).1, (Prod.snd (Prod.snd (Prod.snd y))).1, (Prod.snd (Prod.snd (Prod.snd (Prod.snd y)))).1,
                                        (Prod.snd (Prod.snd (Prod.snd (Prod.snd y)))).2),
                                      x0Umin, x0Umax, x0Smin, x0Smax, x0Bits_Value, x0Bits_Mask)
                                    fun y_3 =>
                                    br (W.pick true y_3 false)
                                      (F_bound_Within Unit
                                        ((y.1, (Prod.snd y).1, (Prod.snd (Prod.snd y)).1, (Prod.snd (Prod.snd (Prod.snd y))).1, (Prod.snd (Prod.snd (Prod.snd (Prod.snd y)))).1,
                                            (Prod.snd (Prod.snd (Prod.snd (Prod.snd y)))).2),
                                          x1Umin, x1Umax, x1Smin, x1Smax, x1Bits_Value, x1Bits_Mask)
                                        fun y => br (W.pick true y false) (F_clevislaw08heads Unit () fun y => br (W.pick true y false) (some ()) none) none)
                                      none))))))))
          (F_clevislaw08heads Unit () fun y => br y (some ()) none)
theorem E_clevislaw08BoundMeets {F_bound_Check : FT ps_bound_Check qs_bound_Check} {F_bound_In : FT ps_bound_In qs_bound_In} {F_bound_Meet : FT ps_bound_Meet qs_bound_Meet} {F_clevislaw08heads : FT ps_clevislaw08heads qs_clevislaw08heads} {F_bound_Within : FT ps_bound_Within qs_bound_Within} {F_bound_Join : FT ps_bound_Join qs_bound_Join} (h_bound_Check : SpecOk Try.prog 10 (mkS ps_bound_Check qs_bound_Check F_bound_Check)) (h_bound_In : SpecOk Try.prog 13 (mkS ps_bound_In qs_bound_In F_bound_In)) (h_bound_Meet : SpecOk Try.prog 26 (mkS ps_bound_Meet qs_bound_Meet F_bound_Meet)) (h_clevislaw08heads : SpecOk Try.prog 11 (mkS ps_clevislaw08heads qs_clevislaw08heads F_clevislaw08heads)) (h_bound_Within : SpecOk Try.prog 18 (mkS ps_bound_Within qs_bound_Within F_bound_Within)) (h_bound_Join : SpecOk Try.prog 25 (mkS ps_bound_Join qs_bound_Join F_bound_Join)) (x : PTs.D ps_clevislaw08BoundMeets) (hL : L_clevislaw08BoundMeets F_bound_Check F_bound_In F_bound_Meet F_clevislaw08heads F_bound_Within F_bound_Join x = some ()) :
    ∃ (C : Cfg) (fl d : Nat), CfgOk C ∧ C.P = Try.prog ∧ call C fl d 7 (encL ps_clevislaw08BoundMeets x) [] (fun v _ => match v with | .bool b => br b (some ()) none | _ => none) = some () :=
  ⟨_, 10, 12, (cfgOk_cons (cfgOk_cons (cfgOk_cons (cfgOk_cons (cfgOk_cons (cfgOk_cons base h_bound_Join) h_bound_Within) h_clevislaw08heads) h_bound_Meet) h_bound_In) h_bound_Check), rfl, (show _ = L_clevislaw08BoundMeets F_bound_Check F_bound_In F_bound_Meet F_clevislaw08heads F_bound_Within F_bound_Join x by obtain ⟨⟨x0Umin, x0Umax, x0Smin, x0Smax, ⟨x0Bits_Value, x0Bits_Mask⟩⟩, ⟨x1Umin, x1Umax, x1Smin, x1Smax, ⟨x1Bits_Value, x1Bits_Mask⟩⟩, x2⟩ := x; kernel_rfl).trans hL⟩
abbrev ps_clevislaw08BoundLows : List PT := [.agg ((.prod (.int .u64) (.prod (.int .u64) (.prod (.int .i64) (.prod (.int .i64) ((.prod (.int .u64) (.int .u64)))))))), .one (.int .u64)]
def L_clevislaw08BoundLows (F_bound_Check : FT ps_bound_Check qs_bound_Check) (F_bound_In : FT ps_bound_In qs_bound_In) (F_clevislaw08heads : FT ps_clevislaw08heads qs_clevislaw08heads) (F_bound_Low : FT ps_bound_Low qs_bound_Low) (x : PTs.D ps_clevislaw08BoundLows) : Option Unit := match x with
  | ((x0Umin, x0Umax, x0Smin, x0Smax, (x0Bits_Value, x0Bits_Mask)), x1) => 
      F_bound_Check Unit (x0Umin, x0Umax, x0Smin, x0Smax, x0Bits_Value, x0Bits_Mask) fun y =>
        br (W.not (W.not y))
          (F_bound_In Unit ((x0Umin, x0Umax, x0Smin, x0Smax, x0Bits_Value, x0Bits_Mask), x1) fun y =>
            br (W.pick false true (W.not y)) (F_clevislaw08heads Unit () fun y => br y (some ()) none)
              (F_bound_Low Unit (x0Umin, x0Umax, x0Smin, x0Smax, x0Bits_Value, x0Bits_Mask) fun y =>
                F_bound_In Unit
                  ((y.1, (Prod.snd y).1, (Prod.snd (Prod.snd y)).1, (Prod.snd (Prod.snd (Prod.snd y))).1, (Prod.snd (Prod.snd (Prod.snd (Prod.snd y)))).1, (Prod.snd (Prod.snd (Prod.snd (Prod.snd y)))).2),
                    W.wrap IntKind.u64 (W.and IntKind.u64 x1 4294967295))
                  fun y_1 => br (W.pick y_1 (W.le (Prod.snd y).1 4294967295) false) (F_clevislaw08heads Unit () fun y => br (W.pick true y false) (some ()) none) none))
          (F_clevislaw08heads Unit () fun y => br y (some ()) none)
theorem E_clevislaw08BoundLows {F_bound_Check : FT ps_bound_Check qs_bound_Check} {F_bound_In : FT ps_bound_In qs_bound_In} {F_clevislaw08heads : FT ps_clevislaw08heads qs_clevislaw08heads} {F_bound_Low : FT ps_bound_Low qs_bound_Low} (h_bound_Check : SpecOk Try.prog 10 (mkS ps_bound_Check qs_bound_Check F_bound_Check)) (h_bound_In : SpecOk Try.prog 13 (mkS ps_bound_In qs_bound_In F_bound_In)) (h_clevislaw08heads : SpecOk Try.prog 11 (mkS ps_clevislaw08heads qs_clevislaw08heads F_clevislaw08heads)) (h_bound_Low : SpecOk Try.prog 27 (mkS ps_bound_Low qs_bound_Low F_bound_Low)) (x : PTs.D ps_clevislaw08BoundLows) (hL : L_clevislaw08BoundLows F_bound_Check F_bound_In F_clevislaw08heads F_bound_Low x = some ()) :
    ∃ (C : Cfg) (fl d : Nat), CfgOk C ∧ C.P = Try.prog ∧ call C fl d 8 (encL ps_clevislaw08BoundLows x) [] (fun v _ => match v with | .bool b => br b (some ()) none | _ => none) = some () :=
  ⟨_, 10, 12, (cfgOk_cons (cfgOk_cons (cfgOk_cons (cfgOk_cons base h_bound_Low) h_clevislaw08heads) h_bound_In) h_bound_Check), rfl, (show _ = L_clevislaw08BoundLows F_bound_Check F_bound_In F_clevislaw08heads F_bound_Low x by obtain ⟨⟨x0Umin, x0Umax, x0Smin, x0Smax, ⟨x0Bits_Value, x0Bits_Mask⟩⟩, x1⟩ := x; kernel_rfl).trans hL⟩
end Go.Proofs.Ytflkcceicgaipaa
