import Derived.Test.YtflkcceicgaipaaProg
import Derived.Test.YtflkcceicgaipaaEnwZ3
import Derived.KernelRfl
set_option maxHeartbeats 0
set_option maxRecDepth 1000000
set_option linter.unusedVariables false
namespace Go.Proofs.Ytflkcceicgaipaa
open Go Go.Eng
theorem base : CfgOk (Cw Try.prog [] noH) := cfgOk_nil (noGo_of (by kernel_rfl)) (by kernel_rfl)
abbrev ps_tnum_tidy : List PT := [.one (.int .u64), .one (.int .u64)]
abbrev qs_tnum_tidy : List PT := [.agg ((.prod (.int .u64) (.int .u64)))]
noncomputable def N_tnum_tidy   : FT ps_tnum_tidy qs_tnum_tidy := fun R x k => match x with
  | (x0, x1) => 
      k (W.wrap IntKind.u64 (W.andNot IntKind.u64 x0 x1), x1)
theorem S_tnum_tidy   : SpecOk Try.prog 58 (mkS ps_tnum_tidy qs_tnum_tidy (N_tnum_tidy )) :=
  specOk_mk (fl := 10) (d := 12) base (by rintro R ⟨x0, x1⟩ k; kernel_rfl)
noncomputable def F_tnum_tidy : FT ps_tnum_tidy qs_tnum_tidy := N_tnum_tidy  
theorem ok_tnum_tidy : SpecOk Try.prog 58 (mkS ps_tnum_tidy qs_tnum_tidy F_tnum_tidy) := S_tnum_tidy 
abbrev ps_tnum_Check : List PT := [.agg ((.prod (.int .u64) (.int .u64)))]
abbrev qs_tnum_Check : List PT := [.one (.bool)]
noncomputable def N_tnum_Check (F_tnum_tidy : FT ps_tnum_tidy qs_tnum_tidy)  : FT ps_tnum_Check qs_tnum_Check := fun R x k => match x with
  | (x0Value, x0Mask) => 
      F_tnum_tidy R (x0Value, x0Mask) fun y => k (W.and2 (W.eq x0Value y.1) (W.and2 (W.eq x0Mask y.2) true))
theorem S_tnum_Check {F_tnum_tidy : FT ps_tnum_tidy qs_tnum_tidy} (h_tnum_tidy : SpecOk Try.prog 58 (mkS ps_tnum_tidy qs_tnum_tidy F_tnum_tidy)) : SpecOk Try.prog 32 (mkS ps_tnum_Check qs_tnum_Check (N_tnum_Check F_tnum_tidy)) :=
  specOk_mk (fl := 10) (d := 12) (cfgOk_cons base h_tnum_tidy) (by rintro R ⟨x0Value, x0Mask⟩ k; kernel_rfl)
noncomputable def F_tnum_Check : FT ps_tnum_Check qs_tnum_Check := N_tnum_Check F_tnum_tidy 
theorem ok_tnum_Check : SpecOk Try.prog 32 (mkS ps_tnum_Check qs_tnum_Check F_tnum_Check) := S_tnum_Check ok_tnum_tidy
abbrev ps_bound_Check : List PT := [.agg ((.prod (.int .u64) (.prod (.int .u64) (.prod (.int .i64) (.prod (.int .i64) ((.prod (.int .u64) (.int .u64))))))))]
abbrev qs_bound_Check : List PT := [.one (.bool)]
noncomputable def N_bound_Check (F_tnum_Check : FT ps_tnum_Check qs_tnum_Check)  : FT ps_bound_Check qs_bound_Check := fun R x k => match x with
  | (x0Umin, x0Umax, x0Smin, x0Smax, (x0Bits_Value, x0Bits_Mask)) => 
      br (W.pick (W.le x0Umin x0Umax) (W.le x0Smin x0Smax) false) (F_tnum_Check R (x0Bits_Value, x0Bits_Mask) fun y => k (W.pick true y false)) (k false)
theorem S_bound_Check {F_tnum_Check : FT ps_tnum_Check qs_tnum_Check} (h_tnum_Check : SpecOk Try.prog 32 (mkS ps_tnum_Check qs_tnum_Check F_tnum_Check)) : SpecOk Try.prog 10 (mkS ps_bound_Check qs_bound_Check (N_bound_Check F_tnum_Check)) :=
  specOk_mk (fl := 10) (d := 12) (cfgOk_cons base h_tnum_Check) (by rintro R ⟨x0Umin, x0Umax, x0Smin, x0Smax, ⟨x0Bits_Value, x0Bits_Mask⟩⟩ k; kernel_rfl)
noncomputable def F_bound_Check : FT ps_bound_Check qs_bound_Check := N_bound_Check F_tnum_Check 
theorem ok_bound_Check : SpecOk Try.prog 10 (mkS ps_bound_Check qs_bound_Check F_bound_Check) := S_bound_Check ok_tnum_Check
abbrev ps_bound_empty : List PT := [.agg ((.prod (.int .u64) (.prod (.int .u64) (.prod (.int .i64) (.prod (.int .i64) ((.prod (.int .u64) (.int .u64))))))))]
abbrev qs_bound_empty : List PT := [.one (.bool)]
noncomputable def N_bound_empty   : FT ps_bound_empty qs_bound_empty := fun R x k => match x with
  | (x0Umin, x0Umax, x0Smin, x0Smax, (x0Bits_Value, x0Bits_Mask)) => 
      k (W.pick (W.gt x0Umin x0Umax) true (W.gt x0Smin x0Smax))
theorem S_bound_empty   : SpecOk Try.prog 35 (mkS ps_bound_empty qs_bound_empty (N_bound_empty )) :=
  specOk_mk (fl := 10) (d := 12) base (by rintro R ⟨x0Umin, x0Umax, x0Smin, x0Smax, ⟨x0Bits_Value, x0Bits_Mask⟩⟩ k; kernel_rfl)
noncomputable def F_bound_empty : FT ps_bound_empty qs_bound_empty := N_bound_empty  
theorem ok_bound_empty : SpecOk Try.prog 35 (mkS ps_bound_empty qs_bound_empty F_bound_empty) := S_bound_empty 
abbrev ps_tnum_Meet : List PT := [.agg ((.prod (.int .u64) (.int .u64))), .agg ((.prod (.int .u64) (.int .u64)))]
abbrev qs_tnum_Meet : List PT := [.agg ((.prod (.int .u64) (.int .u64))), .one (.bool)]
noncomputable def N_tnum_Meet (F_tnum_tidy : FT ps_tnum_tidy qs_tnum_tidy)  : FT ps_tnum_Meet qs_tnum_Meet := fun R x k => match x with
  | ((x0Value, x0Mask), (x1Value, x1Mask)) => 
      F_tnum_tidy R (W.wrap IntKind.u64 (W.or IntKind.u64 x0Value x1Value), W.wrap IntKind.u64 (W.and IntKind.u64 x0Mask x1Mask)) fun y =>
        k ((y.1, y.2), W.eq (W.wrap IntKind.u64 (W.andNot IntKind.u64 (W.wrap IntKind.u64 (W.andNot IntKind.u64 (W.wrap IntKind.u64 (W.xor IntKind.u64 x0Value x1Value)) x0Mask)) x1Mask)) 0)
theorem S_tnum_Meet {F_tnum_tidy : FT ps_tnum_tidy qs_tnum_tidy} (h_tnum_tidy : SpecOk Try.prog 58 (mkS ps_tnum_tidy qs_tnum_tidy F_tnum_tidy)) : SpecOk Try.prog 37 (mkS ps_tnum_Meet qs_tnum_Meet (N_tnum_Meet F_tnum_tidy)) :=
  specOk_mk (fl := 10) (d := 12) (cfgOk_cons base h_tnum_tidy) (by rintro R ⟨⟨x0Value, x0Mask⟩, ⟨x1Value, x1Mask⟩⟩ k; kernel_rfl)
noncomputable def F_tnum_Meet : FT ps_tnum_Meet qs_tnum_Meet := N_tnum_Meet F_tnum_tidy 
theorem ok_tnum_Meet : SpecOk Try.prog 37 (mkS ps_tnum_Meet qs_tnum_Meet F_tnum_Meet) := S_tnum_Meet ok_tnum_tidy
abbrev ps_tnum_Any : List PT := []
abbrev qs_tnum_Any : List PT := [.agg ((.prod (.int .u64) (.int .u64)))]
noncomputable def N_tnum_Any   : FT ps_tnum_Any qs_tnum_Any := fun R x k => match x with
  | () => 
      k (0, 18446744073709551615)
theorem S_tnum_Any   : SpecOk Try.prog 49 (mkS ps_tnum_Any qs_tnum_Any (N_tnum_Any )) :=
  specOk_mk (fl := 10) (d := 12) base (by intro R x k; kernel_rfl)
noncomputable def F_tnum_Any : FT ps_tnum_Any qs_tnum_Any := N_tnum_Any  
theorem ok_tnum_Any : SpecOk Try.prog 49 (mkS ps_tnum_Any qs_tnum_Any F_tnum_Any) := S_tnum_Any 
abbrev ps_bits_Len64 : List PT := [.one (.int .u64)]
abbrev qs_bits_Len64 : List PT := [.one (.int .i64)]
noncomputable def lenTab : ByteArray := ⟨#[0, 1, 2, 2, 3, 3, 3, 3, 4, 4, 4, 4, 4, 4, 4, 4, 5, 5, 5, 5, 5, 5, 5, 5, 5, 5, 5, 5, 5, 5, 5, 5, 6, 6, 6, 6, 6, 6, 6, 6, 6, 6, 6, 6, 6, 6, 6, 6, 6, 6, 6, 6, 6, 6, 6, 6, 6, 6, 6, 6, 6, 6, 6, 6, 7, 7, 7, 7, 7, 7, 7, 7, 7, 7, 7, 7, 7, 7, 7, 7, 7, 7, 7, 7, 7, 7, 7, 7, 7, 7, 7, 7, 7, 7, 7, 7, 7, 7, 7, 7, 7, 7, 7, 7, 7, 7, 7, 7, 7, 7, 7, 7, 7, 7, 7, 7, 7, 7, 7, 7, 7, 7, 7, 7, 7, 7, 7, 7, 8, 8, 8, 8, 8, 8, 8, 8, 8, 8, 8, 8, 8, 8, 8, 8, 8, 8, 8, 8, 8, 8, 8, 8, 8, 8, 8, 8, 8, 8, 8, 8, 8, 8, 8, 8, 8, 8, 8, 8, 8, 8, 8, 8, 8, 8, 8, 8, 8, 8, 8, 8, 8, 8, 8, 8, 8, 8, 8, 8, 8, 8, 8, 8, 8, 8, 8, 8, 8, 8, 8, 8, 8, 8, 8, 8, 8, 8, 8, 8, 8, 8, 8, 8, 8, 8, 8, 8, 8, 8, 8, 8, 8, 8, 8, 8, 8, 8, 8, 8, 8, 8, 8, 8, 8, 8, 8, 8, 8, 8, 8, 8, 8, 8, 8, 8, 8, 8, 8, 8, 8, 8, 8, 8, 8, 8, 8, 8]⟩
noncomputable def leafK {R : Type} (n y : Int) (k : Int → Option R) : Option R :=
  br (W.and2 (W.le 0 (W.wrap .u8 y)) (W.lt (W.wrap .u8 y) 256)) (k (W.wrap .i64 (W.add n (W.wrap .i64 (W.byte lenTab (W.toNat (W.wrap .u8 y))))))) none
noncomputable def N_bits_Len64 : FT ps_bits_Len64 qs_bits_Len64 := fun R x k =>
  br (W.ge x 4294967296)
    (br (W.ge (W.shr .u64 x 32) 65536)
      (br (W.ge (W.shr .u64 (W.shr .u64 x 32) 16) 256) (leafK 56 (W.shr .u64 (W.shr .u64 (W.shr .u64 x 32) 16) 8) k) (leafK 48 (W.shr .u64 (W.shr .u64 x 32) 16) k))
      (br (W.ge (W.shr .u64 x 32) 256) (leafK 40 (W.shr .u64 (W.shr .u64 x 32) 8) k) (leafK 32 (W.shr .u64 x 32) k)))
    (br (W.ge x 65536)
      (br (W.ge (W.shr .u64 x 16) 256) (leafK 24 (W.shr .u64 (W.shr .u64 x 16) 8) k) (leafK 16 (W.shr .u64 x 16) k))
      (br (W.ge x 256) (leafK 8 (W.shr .u64 x 8) k) (leafK 0 x k)))
theorem S_bits_Len64   : SpecOk Try.prog 60 (mkS ps_bits_Len64 qs_bits_Len64 (N_bits_Len64 )) :=
  specOk_mk (fl := 10) (d := 12) base (by intro R x0 k; kernel_rfl)
noncomputable def F_bits_Len64 : FT ps_bits_Len64 qs_bits_Len64 := N_bits_Len64 
theorem ok_bits_Len64 : SpecOk Try.prog 60 (mkS ps_bits_Len64 qs_bits_Len64 F_bits_Len64) := S_bits_Len64 
abbrev ps_tnum_Range : List PT := [.one (.int .u64), .one (.int .u64)]
abbrev qs_tnum_Range : List PT := [.agg ((.prod (.int .u64) (.int .u64)))]
noncomputable def N_tnum_Range (F_tnum_tidy : FT ps_tnum_tidy qs_tnum_tidy) (F_tnum_Any : FT ps_tnum_Any qs_tnum_Any) (F_bits_Len64 : FT ps_bits_Len64 qs_bits_Len64)  : FT ps_tnum_Range qs_tnum_Range := fun R x k => match x with
  | (x0, x1) => 
      F_bits_Len64 R (W.wrap IntKind.u64 (W.xor IntKind.u64 x0 x1)) fun y =>
        br (W.eq y 64) (F_tnum_Any R () fun y => k (y.1, y.2))
          (br (W.lt y 0) none (F_tnum_tidy R (x0, W.wrap IntKind.u64 (W.sub (W.wrap IntKind.u64 (W.shl IntKind.u64 1 y)) 1)) fun y => k (y.1, y.2)))
theorem S_tnum_Range {F_tnum_tidy : FT ps_tnum_tidy qs_tnum_tidy} {F_tnum_Any : FT ps_tnum_Any qs_tnum_Any} {F_bits_Len64 : FT ps_bits_Len64 qs_bits_Len64} (h_tnum_tidy : SpecOk Try.prog 58 (mkS ps_tnum_tidy qs_tnum_tidy F_tnum_tidy)) (h_tnum_Any : SpecOk Try.prog 49 (mkS ps_tnum_Any qs_tnum_Any F_tnum_Any)) (h_bits_Len64 : SpecOk Try.prog 60 (mkS ps_bits_Len64 qs_bits_Len64 F_bits_Len64)) : SpecOk Try.prog 38 (mkS ps_tnum_Range qs_tnum_Range (N_tnum_Range F_tnum_tidy F_tnum_Any F_bits_Len64)) :=
  specOk_mk (fl := 10) (d := 12) (cfgOk_cons (cfgOk_cons (cfgOk_cons base h_bits_Len64) h_tnum_Any) h_tnum_tidy) (by rintro R ⟨x0, x1⟩ k; kernel_rfl)
noncomputable def F_tnum_Range : FT ps_tnum_Range qs_tnum_Range := N_tnum_Range F_tnum_tidy F_tnum_Any F_bits_Len64 
theorem ok_tnum_Range : SpecOk Try.prog 38 (mkS ps_tnum_Range qs_tnum_Range F_tnum_Range) := S_tnum_Range ok_tnum_tidy ok_tnum_Any ok_bits_Len64
abbrev ps_bound_Tidy : List PT := [.agg ((.prod (.int .u64) (.prod (.int .u64) (.prod (.int .i64) (.prod (.int .i64) ((.prod (.int .u64) (.int .u64))))))))]
abbrev qs_bound_Tidy : List PT := [.agg ((.prod (.int .u64) (.prod (.int .u64) (.prod (.int .i64) (.prod (.int .i64) ((.prod (.int .u64) (.int .u64)))))))), .one (.bool)]
abbrev Bd := Int × Int × Int × Int × Int × Int
noncomputable def bitsB (b : Bd) : Bd :=
  let v := b.2.2.2.2.1
  let m := b.2.2.2.2.2
  (W.max b.1 v, W.min b.2.1 (W.wrap .u64 (W.or .u64 v m)), W.max b.2.2.1 (W.wrap .i64 (W.wrap .u64 (W.or .u64 v (W.wrap .u64 (W.and .u64 m 9223372036854775808))))),
    W.min b.2.2.2.1 (W.wrap .i64 (W.wrap .u64 (W.or .u64 v (W.wrap .u64 (W.andNot .u64 m 9223372036854775808))))), v, m)
noncomputable def signsK {R : Type} (b : Bd) (k : Bd → Option R) : Option R :=
  br (W.pick (W.ge b.2.2.1 0) true (W.lt b.2.2.2.1 0))
    (k (W.max b.1 (W.wrap .u64 b.2.2.1), W.min b.2.1 (W.wrap .u64 b.2.2.2.1), W.wrap .i64 (W.max b.1 (W.wrap .u64 b.2.2.1)), W.wrap .i64 (W.min b.2.1 (W.wrap .u64 b.2.2.2.1)), b.2.2.2.2.1, b.2.2.2.2.2))
    (br (W.ge (W.wrap .i64 b.2.1) 0)
      (k (b.1, W.wrap .u64 (W.min b.2.2.2.1 (W.wrap .i64 b.2.1)), W.wrap .i64 b.1, W.min b.2.2.2.1 (W.wrap .i64 b.2.1), b.2.2.2.2.1, b.2.2.2.2.2))
      (br (W.lt (W.wrap .i64 b.1) 0)
        (k (W.wrap .u64 (W.max b.2.2.1 (W.wrap .i64 b.1)), b.2.1, W.max b.2.2.1 (W.wrap .i64 b.1), W.wrap .i64 b.2.1, b.2.2.2.2.1, b.2.2.2.2.2))
        (k b)))
noncomputable def roundK (F_bound_empty : FT ps_bound_empty qs_bound_empty) (F_tnum_Meet : FT ps_tnum_Meet qs_tnum_Meet) (F_tnum_Range : FT ps_tnum_Range qs_tnum_Range) {R : Type} (b : Bd) (k0 : Option R) (k : Bd → Option R) : Option R :=
  F_bound_empty R (bitsB b) fun e => br e k0 (signsK (bitsB b) fun d => F_tnum_Range R (d.1, d.2.1) fun t => F_tnum_Meet R ((d.2.2.2.2.1, d.2.2.2.2.2), t.1, t.2) fun u =>
    br (W.not (W.not u.2)) (F_bound_empty R d fun e => br (W.pick false true e) k0 (k (d.1, d.2.1, d.2.2.1, d.2.2.2.1, u.1.1, u.1.2))) k0)

noncomputable def N_bound_Tidy (F_bound_empty : FT ps_bound_empty qs_bound_empty) (F_tnum_Meet : FT ps_tnum_Meet qs_tnum_Meet) (F_tnum_Range : FT ps_tnum_Range qs_tnum_Range) : FT ps_bound_Tidy qs_bound_Tidy := fun R x k =>
  roundK F_bound_empty F_tnum_Meet F_tnum_Range x (k ((0, 0, 0, 0, 0, 0), false)) fun b => roundK F_bound_empty F_tnum_Meet F_tnum_Range b (k ((0, 0, 0, 0, 0, 0), false)) fun b => k (b, true)
theorem S_bound_Tidy {F_bound_empty : FT ps_bound_empty qs_bound_empty} {F_tnum_Meet : FT ps_tnum_Meet qs_tnum_Meet} {F_tnum_Range : FT ps_tnum_Range qs_tnum_Range} (h_bound_empty : SpecOk Try.prog 35 (mkS ps_bound_empty qs_bound_empty F_bound_empty)) (h_tnum_Meet : SpecOk Try.prog 37 (mkS ps_tnum_Meet qs_tnum_Meet F_tnum_Meet)) (h_tnum_Range : SpecOk Try.prog 38 (mkS ps_tnum_Range qs_tnum_Range F_tnum_Range)) : SpecOk Try.prog 12 (mkS ps_bound_Tidy qs_bound_Tidy (N_bound_Tidy (F_bound_empty := F_bound_empty) (F_tnum_Meet := F_tnum_Meet) (F_tnum_Range := F_tnum_Range))) :=
  specOk_mk (fl := 10) (d := 12) (cfgOk_cons (cfgOk_cons (cfgOk_cons base h_tnum_Range) h_tnum_Meet) h_bound_empty) (by rintro R ⟨x0Umin, x0Umax, x0Smin, x0Smax, ⟨x0Bits_Value, x0Bits_Mask⟩⟩ k; kernel_rfl)
noncomputable def F_bound_Tidy : FT ps_bound_Tidy qs_bound_Tidy := N_bound_Tidy (F_bound_empty := F_bound_empty) (F_tnum_Meet := F_tnum_Meet) (F_tnum_Range := F_tnum_Range)
theorem ok_bound_Tidy : SpecOk Try.prog 12 (mkS ps_bound_Tidy qs_bound_Tidy F_bound_Tidy) := S_bound_Tidy ok_bound_empty ok_tnum_Meet ok_tnum_Range
abbrev ps_bound_among_uint64 : List PT := [.one (.int .u64), .one (.int .u64), .one (.int .u64)]
abbrev qs_bound_among_uint64 : List PT := [.one (.bool)]
noncomputable def N_bound_among_uint64   : FT ps_bound_among_uint64 qs_bound_among_uint64 := fun R x k => match x with
  | (x0, x1, x2) => 
      k (W.pick (W.le x1 x0) (W.le x0 x2) false)
theorem S_bound_among_uint64   : SpecOk Try.prog 39 (mkS ps_bound_among_uint64 qs_bound_among_uint64 (N_bound_among_uint64 )) :=
  specOk_mk (fl := 10) (d := 12) base (by rintro R ⟨x0, x1, x2⟩ k; kernel_rfl)
noncomputable def F_bound_among_uint64 : FT ps_bound_among_uint64 qs_bound_among_uint64 := N_bound_among_uint64  
theorem ok_bound_among_uint64 : SpecOk Try.prog 39 (mkS ps_bound_among_uint64 qs_bound_among_uint64 F_bound_among_uint64) := S_bound_among_uint64 
abbrev ps_bound_among_int64 : List PT := [.one (.int .i64), .one (.int .i64), .one (.int .i64)]
abbrev qs_bound_among_int64 : List PT := [.one (.bool)]
noncomputable def N_bound_among_int64   : FT ps_bound_among_int64 qs_bound_among_int64 := fun R x k => match x with
  | (x0, x1, x2) => 
      k (W.pick (W.le x1 x0) (W.le x0 x2) false)
theorem S_bound_among_int64   : SpecOk Try.prog 40 (mkS ps_bound_among_int64 qs_bound_among_int64 (N_bound_among_int64 )) :=
  specOk_mk (fl := 10) (d := 12) base (by rintro R ⟨x0, x1, x2⟩ k; kernel_rfl)
noncomputable def F_bound_among_int64 : FT ps_bound_among_int64 qs_bound_among_int64 := N_bound_among_int64  
theorem ok_bound_among_int64 : SpecOk Try.prog 40 (mkS ps_bound_among_int64 qs_bound_among_int64 F_bound_among_int64) := S_bound_among_int64 
abbrev ps_tnum_In : List PT := [.agg ((.prod (.int .u64) (.int .u64))), .one (.int .u64)]
abbrev qs_tnum_In : List PT := [.one (.bool)]
noncomputable def N_tnum_In (F_tnum_tidy : FT ps_tnum_tidy qs_tnum_tidy)  : FT ps_tnum_In qs_tnum_In := fun R x k => match x with
  | ((x0Value, x0Mask), x1) => 
      F_tnum_tidy R (x1, x0Mask) fun y => k (W.and2 (W.eq y.1 x0Value) (W.and2 (W.eq y.2 x0Mask) true))
theorem S_tnum_In {F_tnum_tidy : FT ps_tnum_tidy qs_tnum_tidy} (h_tnum_tidy : SpecOk Try.prog 58 (mkS ps_tnum_tidy qs_tnum_tidy F_tnum_tidy)) : SpecOk Try.prog 41 (mkS ps_tnum_In qs_tnum_In (N_tnum_In F_tnum_tidy)) :=
  specOk_mk (fl := 10) (d := 12) (cfgOk_cons base h_tnum_tidy) (by rintro R ⟨⟨x0Value, x0Mask⟩, x1⟩ k; kernel_rfl)
noncomputable def F_tnum_In : FT ps_tnum_In qs_tnum_In := N_tnum_In F_tnum_tidy 
theorem ok_tnum_In : SpecOk Try.prog 41 (mkS ps_tnum_In qs_tnum_In F_tnum_In) := S_tnum_In ok_tnum_tidy
abbrev ps_bound_In : List PT := [.agg ((.prod (.int .u64) (.prod (.int .u64) (.prod (.int .i64) (.prod (.int .i64) ((.prod (.int .u64) (.int .u64)))))))), .one (.int .u64)]
abbrev qs_bound_In : List PT := [.one (.bool)]
noncomputable def N_bound_In (F_bound_among_uint64 : FT ps_bound_among_uint64 qs_bound_among_uint64) (F_bound_among_int64 : FT ps_bound_among_int64 qs_bound_among_int64) (F_tnum_In : FT ps_tnum_In qs_tnum_In)  : FT ps_bound_In qs_bound_In := fun R x k => match x with
  | ((x0Umin, x0Umax, x0Smin, x0Smax, (x0Bits_Value, x0Bits_Mask)), x1) => 
      F_bound_among_uint64 R (x1, x0Umin, x0Umax) fun y =>
        br y (F_bound_among_int64 R (W.wrap IntKind.i64 x1, x0Smin, x0Smax) fun y => br (W.pick true y false) (F_tnum_In R ((x0Bits_Value, x0Bits_Mask), x1) fun y => k (W.pick true y false)) (k false))
          (k false)
theorem S_bound_In {F_bound_among_uint64 : FT ps_bound_among_uint64 qs_bound_among_uint64} {F_bound_among_int64 : FT ps_bound_among_int64 qs_bound_among_int64} {F_tnum_In : FT ps_tnum_In qs_tnum_In} (h_bound_among_uint64 : SpecOk Try.prog 39 (mkS ps_bound_among_uint64 qs_bound_among_uint64 F_bound_among_uint64)) (h_bound_among_int64 : SpecOk Try.prog 40 (mkS ps_bound_among_int64 qs_bound_among_int64 F_bound_among_int64)) (h_tnum_In : SpecOk Try.prog 41 (mkS ps_tnum_In qs_tnum_In F_tnum_In)) : SpecOk Try.prog 13 (mkS ps_bound_In qs_bound_In (N_bound_In F_bound_among_uint64 F_bound_among_int64 F_tnum_In)) :=
  specOk_mk (fl := 10) (d := 12) (cfgOk_cons (cfgOk_cons (cfgOk_cons base h_tnum_In) h_bound_among_int64) h_bound_among_uint64) (by rintro R ⟨⟨x0Umin, x0Umax, x0Smin, x0Smax, ⟨x0Bits_Value, x0Bits_Mask⟩⟩, x1⟩ k; kernel_rfl)
noncomputable def F_bound_In : FT ps_bound_In qs_bound_In := N_bound_In F_bound_among_uint64 F_bound_among_int64 F_tnum_In 
theorem ok_bound_In : SpecOk Try.prog 13 (mkS ps_bound_In qs_bound_In F_bound_In) := S_bound_In ok_bound_among_uint64 ok_bound_among_int64 ok_tnum_In
abbrev ps_bound_Value : List PT := [.agg ((.prod (.int .u64) (.prod (.int .u64) (.prod (.int .i64) (.prod (.int .i64) ((.prod (.int .u64) (.int .u64))))))))]
abbrev qs_bound_Value : List PT := [.one (.int .u64), .one (.bool)]
noncomputable def N_bound_Value   : FT ps_bound_Value qs_bound_Value := fun R x k => match x with
  | (x0Umin, x0Umax, x0Smin, x0Smax, (x0Bits_Value, x0Bits_Mask)) => 
      br (W.eq x0Umin x0Umax) (k (x0Umin, true)) (k (0, false))
theorem S_bound_Value   : SpecOk Try.prog 14 (mkS ps_bound_Value qs_bound_Value (N_bound_Value )) :=
  specOk_mk (fl := 10) (d := 12) base (by rintro R ⟨x0Umin, x0Umax, x0Smin, x0Smax, ⟨x0Bits_Value, x0Bits_Mask⟩⟩ k; kernel_rfl)
noncomputable def F_bound_Value : FT ps_bound_Value qs_bound_Value := N_bound_Value  
theorem ok_bound_Value : SpecOk Try.prog 14 (mkS ps_bound_Value qs_bound_Value F_bound_Value) := S_bound_Value 
abbrev ps_tnum_Const : List PT := [.one (.int .u64)]
abbrev qs_tnum_Const : List PT := [.agg ((.prod (.int .u64) (.int .u64)))]
noncomputable def N_tnum_Const   : FT ps_tnum_Const qs_tnum_Const := fun R x k => match x with
  | x0 => 
      k (x0, 0)
theorem S_tnum_Const   : SpecOk Try.prog 46 (mkS ps_tnum_Const qs_tnum_Const (N_tnum_Const )) :=
  specOk_mk (fl := 10) (d := 12) base (by intro R x0 k; kernel_rfl)
noncomputable def F_tnum_Const : FT ps_tnum_Const qs_tnum_Const := N_tnum_Const  
theorem ok_tnum_Const : SpecOk Try.prog 46 (mkS ps_tnum_Const qs_tnum_Const F_tnum_Const) := S_tnum_Const 
abbrev ps_bound_Const : List PT := [.one (.int .u64)]
abbrev qs_bound_Const : List PT := [.agg ((.prod (.int .u64) (.prod (.int .u64) (.prod (.int .i64) (.prod (.int .i64) ((.prod (.int .u64) (.int .u64))))))))]
noncomputable def N_bound_Const (F_tnum_Const : FT ps_tnum_Const qs_tnum_Const)  : FT ps_bound_Const qs_bound_Const := fun R x k => match x with
  | x0 => 
      F_tnum_Const R x0 fun y => k (x0, x0, W.wrap IntKind.i64 x0, W.wrap IntKind.i64 x0, y.1, y.2)
theorem S_bound_Const {F_tnum_Const : FT ps_tnum_Const qs_tnum_Const} (h_tnum_Const : SpecOk Try.prog 46 (mkS ps_tnum_Const qs_tnum_Const F_tnum_Const)) : SpecOk Try.prog 20 (mkS ps_bound_Const qs_bound_Const (N_bound_Const F_tnum_Const)) :=
  specOk_mk (fl := 10) (d := 12) (cfgOk_cons base h_tnum_Const) (by intro R x0 k; kernel_rfl)
noncomputable def F_bound_Const : FT ps_bound_Const qs_bound_Const := N_bound_Const F_tnum_Const 
theorem ok_bound_Const : SpecOk Try.prog 20 (mkS ps_bound_Const qs_bound_Const F_bound_Const) := S_bound_Const ok_tnum_Const
abbrev ps_bound_Any : List PT := []
abbrev qs_bound_Any : List PT := [.agg ((.prod (.int .u64) (.prod (.int .u64) (.prod (.int .i64) (.prod (.int .i64) ((.prod (.int .u64) (.int .u64))))))))]
noncomputable def N_bound_Any (F_tnum_Any : FT ps_tnum_Any qs_tnum_Any)  : FT ps_bound_Any qs_bound_Any := fun R x k => match x with
  | () => 
      F_tnum_Any R () fun y => k (0, 18446744073709551615, -9223372036854775808, 9223372036854775807, y.1, y.2)
theorem S_bound_Any {F_tnum_Any : FT ps_tnum_Any qs_tnum_Any} (h_tnum_Any : SpecOk Try.prog 49 (mkS ps_tnum_Any qs_tnum_Any F_tnum_Any)) : SpecOk Try.prog 24 (mkS ps_bound_Any qs_bound_Any (N_bound_Any F_tnum_Any)) :=
  specOk_mk (fl := 10) (d := 12) (cfgOk_cons base h_tnum_Any) (by intro R x k; kernel_rfl)
noncomputable def F_bound_Any : FT ps_bound_Any qs_bound_Any := N_bound_Any F_tnum_Any 
theorem ok_bound_Any : SpecOk Try.prog 24 (mkS ps_bound_Any qs_bound_Any F_bound_Any) := S_bound_Any ok_tnum_Any
abbrev ps_bound_Size : List PT := [.one (.int .i64)]
abbrev qs_bound_Size : List PT := [.agg ((.prod (.int .u64) (.prod (.int .u64) (.prod (.int .i64) (.prod (.int .i64) ((.prod (.int .u64) (.int .u64))))))))]
noncomputable def N_bound_Size (F_bound_Any : FT ps_bound_Any qs_bound_Any)  : FT ps_bound_Size qs_bound_Size := fun R x k => match x with
  | x0 => 
      br (W.pick (W.pick (W.ne x0 1) (W.ne x0 2) false) (W.ne x0 4) false) (F_bound_Any R () fun y => k (y.1, y.2.1, y.2.2.1, y.2.2.2.1, y.2.2.2.2.1, y.2.2.2.2.2))
        (br (W.lt (W.wrap IntKind.i64 (W.mul 8 x0)) 0) none
          (k
            (0, W.wrap IntKind.u64 (W.sub (W.wrap IntKind.u64 (W.shl IntKind.u64 1 (W.wrap IntKind.i64 (W.mul 8 x0)))) 1), 0,
              W.wrap IntKind.i64 (W.wrap IntKind.u64 (W.sub (W.wrap IntKind.u64 (W.shl IntKind.u64 1 (W.wrap IntKind.i64 (W.mul 8 x0)))) 1)), 0,
              W.wrap IntKind.u64 (W.sub (W.wrap IntKind.u64 (W.shl IntKind.u64 1 (W.wrap IntKind.i64 (W.mul 8 x0)))) 1))))
theorem S_bound_Size {F_bound_Any : FT ps_bound_Any qs_bound_Any} (h_bound_Any : SpecOk Try.prog 24 (mkS ps_bound_Any qs_bound_Any F_bound_Any)) : SpecOk Try.prog 22 (mkS ps_bound_Size qs_bound_Size (N_bound_Size F_bound_Any)) :=
  specOk_mk (fl := 10) (d := 12) (cfgOk_cons base h_bound_Any) (by intro R x0 k; kernel_rfl)
noncomputable def F_bound_Size : FT ps_bound_Size qs_bound_Size := N_bound_Size F_bound_Any 
theorem ok_bound_Size : SpecOk Try.prog 22 (mkS ps_bound_Size qs_bound_Size F_bound_Size) := S_bound_Size ok_bound_Any
abbrev ps_bound_Meet : List PT := [.agg ((.prod (.int .u64) (.prod (.int .u64) (.prod (.int .i64) (.prod (.int .i64) ((.prod (.int .u64) (.int .u64)))))))), .agg ((.prod (.int .u64) (.prod (.int .u64) (.prod (.int .i64) (.prod (.int .i64) ((.prod (.int .u64) (.int .u64))))))))]
abbrev qs_bound_Meet : List PT := [.agg ((.prod (.int .u64) (.prod (.int .u64) (.prod (.int .i64) (.prod (.int .i64) ((.prod (.int .u64) (.int .u64)))))))), .one (.bool)]
noncomputable def N_bound_Meet (F_tnum_Meet : FT ps_tnum_Meet qs_tnum_Meet) (F_bound_Tidy : FT ps_bound_Tidy qs_bound_Tidy)  : FT ps_bound_Meet qs_bound_Meet := fun R x k => match x with
  | ((x0Umin, x0Umax, x0Smin, x0Smax, (x0Bits_Value, x0Bits_Mask)), (x1Umin, x1Umax, x1Smin, x1Smax, (x1Bits_Value, x1Bits_Mask))) => 
      F_tnum_Meet R ((x0Bits_Value, x0Bits_Mask), x1Bits_Value, x1Bits_Mask) fun y =>
        br (W.not y.2) (k ((0, 0, 0, 0, 0, 0), false))
          (F_bound_Tidy R (W.max x0Umin x1Umin, W.min x0Umax x1Umax, W.max x0Smin x1Smin, W.min x0Smax x1Smax, y.1.1, y.1.2) fun y =>
            k ((y.1.1, y.1.2.1, y.1.2.2.1, y.1.2.2.2.1, y.1.2.2.2.2.1, y.1.2.2.2.2.2), y.2))
theorem S_bound_Meet {F_tnum_Meet : FT ps_tnum_Meet qs_tnum_Meet} {F_bound_Tidy : FT ps_bound_Tidy qs_bound_Tidy} (h_tnum_Meet : SpecOk Try.prog 37 (mkS ps_tnum_Meet qs_tnum_Meet F_tnum_Meet)) (h_bound_Tidy : SpecOk Try.prog 12 (mkS ps_bound_Tidy qs_bound_Tidy F_bound_Tidy)) : SpecOk Try.prog 26 (mkS ps_bound_Meet qs_bound_Meet (N_bound_Meet F_tnum_Meet F_bound_Tidy)) :=
  specOk_mk (fl := 10) (d := 12) (cfgOk_cons (cfgOk_cons base h_bound_Tidy) h_tnum_Meet) (by rintro R ⟨⟨x0Umin, x0Umax, x0Smin, x0Smax, ⟨x0Bits_Value, x0Bits_Mask⟩⟩, ⟨x1Umin, x1Umax, x1Smin, x1Smax, ⟨x1Bits_Value, x1Bits_Mask⟩⟩⟩ k; kernel_rfl)
noncomputable def F_bound_Meet : FT ps_bound_Meet qs_bound_Meet := N_bound_Meet F_tnum_Meet F_bound_Tidy 
theorem ok_bound_Meet : SpecOk Try.prog 26 (mkS ps_bound_Meet qs_bound_Meet F_bound_Meet) := S_bound_Meet ok_tnum_Meet ok_bound_Tidy
abbrev ps_clevisref07Any : List PT := []
abbrev qs_clevisref07Any : List PT := [.agg ((.prod (.int .u64) (.int .u64)))]
noncomputable def N_clevisref07Any   : FT ps_clevisref07Any qs_clevisref07Any := fun R x k => match x with
  | () => 
      k (0, 18446744073709551615)
theorem S_clevisref07Any   : SpecOk Try.prog 59 (mkS ps_clevisref07Any qs_clevisref07Any (N_clevisref07Any )) :=
  specOk_mk (fl := 10) (d := 12) base (by intro R x k; kernel_rfl)
noncomputable def F_clevisref07Any : FT ps_clevisref07Any qs_clevisref07Any := N_clevisref07Any  
theorem ok_clevisref07Any : SpecOk Try.prog 59 (mkS ps_clevisref07Any qs_clevisref07Any F_clevisref07Any) := S_clevisref07Any 
abbrev ps_clevisref08Any : List PT := []
abbrev qs_clevisref08Any : List PT := [.agg ((.prod (.int .u64) (.prod (.int .u64) (.prod (.int .i64) (.prod (.int .i64) ((.prod (.int .u64) (.int .u64))))))))]
noncomputable def N_clevisref08Any (F_clevisref07Any : FT ps_clevisref07Any qs_clevisref07Any)  : FT ps_clevisref08Any qs_clevisref08Any := fun R x k => match x with
  | () => 
      F_clevisref07Any R () fun y => k (0, 18446744073709551615, -9223372036854775808, 9223372036854775807, y.1, y.2)
theorem S_clevisref08Any {F_clevisref07Any : FT ps_clevisref07Any qs_clevisref07Any} (h_clevisref07Any : SpecOk Try.prog 59 (mkS ps_clevisref07Any qs_clevisref07Any F_clevisref07Any)) : SpecOk Try.prog 33 (mkS ps_clevisref08Any qs_clevisref08Any (N_clevisref08Any F_clevisref07Any)) :=
  specOk_mk (fl := 10) (d := 12) (cfgOk_cons base h_clevisref07Any) (by intro R x k; kernel_rfl)
noncomputable def F_clevisref08Any : FT ps_clevisref08Any qs_clevisref08Any := N_clevisref08Any F_clevisref07Any 
theorem ok_clevisref08Any : SpecOk Try.prog 33 (mkS ps_clevisref08Any qs_clevisref08Any F_clevisref08Any) := S_clevisref08Any ok_clevisref07Any
abbrev ps_clevislaw08heads : List PT := []
abbrev qs_clevislaw08heads : List PT := [.one (.bool)]
noncomputable def N_clevislaw08heads (F_bound_Tidy : FT ps_bound_Tidy qs_bound_Tidy) (F_bound_In : FT ps_bound_In qs_bound_In) (F_bound_Value : FT ps_bound_Value qs_bound_Value) (F_bound_Const : FT ps_bound_Const qs_bound_Const) (F_bound_Any : FT ps_bound_Any qs_bound_Any) (F_bound_Size : FT ps_bound_Size qs_bound_Size) (F_bound_Meet : FT ps_bound_Meet qs_bound_Meet) (F_clevisref08Any : FT ps_clevisref08Any qs_clevisref08Any)  : FT ps_clevislaw08heads qs_clevislaw08heads := fun R x k => match x with
  | () => 
      F_bound_Tidy R (0, 5, -3, 9, 0, 18446744073709551615) fun y =>
        F_bound_Const R 1 fun y_1 =>
          F_bound_Const R 2 fun y_2 =>
            F_bound_Meet R ((y_1.1, y_1.2.1, y_1.2.2.1, y_1.2.2.2.1, y_1.2.2.2.2.1, y_1.2.2.2.2.2), y_2.1, y_2.2.1, y_2.2.2.1, y_2.2.2.2.1, y_2.2.2.2.2.1, y_2.2.2.2.2.2) fun y_3 =>
              F_bound_Const R 7 fun y_4 =>
                F_bound_Value R (y_4.1, y_4.2.1, y_4.2.2.1, y_4.2.2.2.1, y_4.2.2.2.2.1, y_4.2.2.2.2.2) fun y_5 =>
                  br
                    (W.pick
                      (W.pick
                        (W.pick
                          (W.pick y.2
                            (W.and2 (W.eq y.1.1 0) (W.and2 (W.eq y.1.2.1 5) (W.and2 (W.eq y.1.2.2.1 0) (W.and2 (W.eq y.1.2.2.2.1 5) (W.and2 (W.eq y.1.2.2.2.2.1 0) (W.and2 (W.eq y.1.2.2.2.2.2 7) true))))))
                            false)
                          (W.not y_3.2) false)
                        (W.eq y_5.1 7) false)
                      y_5.2 false)
                    (F_bound_Any R () fun y =>
                      F_clevisref08Any R () fun y_6 =>
                        br
                          (W.pick true
                            (W.and2 (W.eq y.1 y_6.1)
                              (W.and2 (W.eq y.2.1 y_6.2.1)
                                (W.and2 (W.eq y.2.2.1 y_6.2.2.1) (W.and2 (W.eq y.2.2.2.1 y_6.2.2.2.1) (W.and2 (W.eq y.2.2.2.2.1 y_6.2.2.2.2.1) (W.and2 (W.eq y.2.2.2.2.2 y_6.2.2.2.2.2) true))))))
                            false)
                          (F_bound_Size R 1 fun y =>
                            F_bound_In R ((y.1, y.2.1, y.2.2.1, y.2.2.2.1, y.2.2.2.2.1, y.2.2.2.2.2), 255) fun y =>
                              br (W.pick true y false) (F_bound_Size R 1 fun y => F_bound_In R ((y.1, y.2.1, y.2.2.1, y.2.2.2.1, y.2.2.2.2.1, y.2.2.2.2.2), 256) fun y => k (W.pick true (W.not y) false))
                                (k false))
                          (k false))
                    (k false)
theorem S_clevislaw08heads {F_bound_Tidy : FT ps_bound_Tidy qs_bound_Tidy} {F_bound_In : FT ps_bound_In qs_bound_In} {F_bound_Value : FT ps_bound_Value qs_bound_Value} {F_bound_Const : FT ps_bound_Const qs_bound_Const} {F_bound_Any : FT ps_bound_Any qs_bound_Any} {F_bound_Size : FT ps_bound_Size qs_bound_Size} {F_bound_Meet : FT ps_bound_Meet qs_bound_Meet} {F_clevisref08Any : FT ps_clevisref08Any qs_clevisref08Any} (h_bound_Tidy : SpecOk Try.prog 12 (mkS ps_bound_Tidy qs_bound_Tidy F_bound_Tidy)) (h_bound_In : SpecOk Try.prog 13 (mkS ps_bound_In qs_bound_In F_bound_In)) (h_bound_Value : SpecOk Try.prog 14 (mkS ps_bound_Value qs_bound_Value F_bound_Value)) (h_bound_Const : SpecOk Try.prog 20 (mkS ps_bound_Const qs_bound_Const F_bound_Const)) (h_bound_Any : SpecOk Try.prog 24 (mkS ps_bound_Any qs_bound_Any F_bound_Any)) (h_bound_Size : SpecOk Try.prog 22 (mkS ps_bound_Size qs_bound_Size F_bound_Size)) (h_bound_Meet : SpecOk Try.prog 26 (mkS ps_bound_Meet qs_bound_Meet F_bound_Meet)) (h_clevisref08Any : SpecOk Try.prog 33 (mkS ps_clevisref08Any qs_clevisref08Any F_clevisref08Any)) : SpecOk Try.prog 11 (mkS ps_clevislaw08heads qs_clevislaw08heads (N_clevislaw08heads F_bound_Tidy F_bound_In F_bound_Value F_bound_Const F_bound_Any F_bound_Size F_bound_Meet F_clevisref08Any)) :=
  specOk_mk (fl := 10) (d := 12) (cfgOk_cons (cfgOk_cons (cfgOk_cons (cfgOk_cons (cfgOk_cons (cfgOk_cons (cfgOk_cons (cfgOk_cons base h_clevisref08Any) h_bound_Meet) h_bound_Size) h_bound_Any) h_bound_Const) h_bound_Value) h_bound_In) h_bound_Tidy) (by intro R x k; kernel_rfl)
noncomputable def F_clevislaw08heads : FT ps_clevislaw08heads qs_clevislaw08heads := N_clevislaw08heads F_bound_Tidy F_bound_In F_bound_Value F_bound_Const F_bound_Any F_bound_Size F_bound_Meet F_clevisref08Any 
theorem ok_clevislaw08heads : SpecOk Try.prog 11 (mkS ps_clevislaw08heads qs_clevislaw08heads F_clevislaw08heads) := S_clevislaw08heads ok_bound_Tidy ok_bound_In ok_bound_Value ok_bound_Const ok_bound_Any ok_bound_Size ok_bound_Meet ok_clevisref08Any
abbrev ps_clevislaw08BoundTidies : List PT := [.agg ((.prod (.int .u64) (.prod (.int .u64) (.prod (.int .i64) (.prod (.int .i64) ((.prod (.int .u64) (.int .u64)))))))), .one (.int .u64)]
noncomputable def L_clevislaw08BoundTidies (F_bound_Check : FT ps_bound_Check qs_bound_Check) (F_bound_Tidy : FT ps_bound_Tidy qs_bound_Tidy) (F_bound_In : FT ps_bound_In qs_bound_In) (F_clevislaw08heads : FT ps_clevislaw08heads qs_clevislaw08heads)  (x : PTs.D ps_clevislaw08BoundTidies) : Option Unit := match x with
  | ((x0Umin, x0Umax, x0Smin, x0Smax, (x0Bits_Value, x0Bits_Mask)), x1) => 
      F_bound_Check Unit (x0Umin, x0Umax, x0Smin, x0Smax, x0Bits_Value, x0Bits_Mask) fun y =>
        br (W.not y) (F_clevislaw08heads Unit () fun y => br y (some ()) none)
          (F_bound_Tidy Unit (x0Umin, x0Umax, x0Smin, x0Smax, x0Bits_Value, x0Bits_Mask) fun y =>
            br (W.not y.2)
              (F_bound_In Unit ((x0Umin, x0Umax, x0Smin, x0Smax, x0Bits_Value, x0Bits_Mask), x1) fun y =>
                br (W.not y) (F_clevislaw08heads Unit () fun y => br (W.pick true y false) (some ()) none) none)
              (F_bound_In Unit ((x0Umin, x0Umax, x0Smin, x0Smax, x0Bits_Value, x0Bits_Mask), x1) fun y_1 =>
                F_bound_In Unit ((y.1.1, y.1.2.1, y.1.2.2.1, y.1.2.2.2.1, y.1.2.2.2.2.1, y.1.2.2.2.2.2), x1) fun y_2 =>
                  br (W.eqB y_1 y_2)
                    (F_bound_Check Unit (y.1.1, y.1.2.1, y.1.2.2.1, y.1.2.2.2.1, y.1.2.2.2.2.1, y.1.2.2.2.2.2) fun y =>
                      br (W.pick true y false) (F_clevislaw08heads Unit () fun y => br (W.pick true y false) (some ()) none) none)
                    none))
theorem E_clevislaw08BoundTidies {F_bound_Check : FT ps_bound_Check qs_bound_Check} {F_bound_Tidy : FT ps_bound_Tidy qs_bound_Tidy} {F_bound_In : FT ps_bound_In qs_bound_In} {F_clevislaw08heads : FT ps_clevislaw08heads qs_clevislaw08heads} (h_bound_Check : SpecOk Try.prog 10 (mkS ps_bound_Check qs_bound_Check F_bound_Check)) (h_bound_Tidy : SpecOk Try.prog 12 (mkS ps_bound_Tidy qs_bound_Tidy F_bound_Tidy)) (h_bound_In : SpecOk Try.prog 13 (mkS ps_bound_In qs_bound_In F_bound_In)) (h_clevislaw08heads : SpecOk Try.prog 11 (mkS ps_clevislaw08heads qs_clevislaw08heads F_clevislaw08heads)) (x : PTs.D ps_clevislaw08BoundTidies) (hL : L_clevislaw08BoundTidies F_bound_Check F_bound_Tidy F_bound_In F_clevislaw08heads x = some ()) :
    ∃ (C : Cfg) (fl d : Nat), CfgOk C ∧ C.P = Try.prog ∧ call C fl d 3 (encL false ps_clevislaw08BoundTidies x) [] getL = some () :=
  ⟨_, 10, 12, (cfgOk_cons (cfgOk_cons (cfgOk_cons (cfgOk_cons base h_clevislaw08heads) h_bound_In) h_bound_Tidy) h_bound_Check), rfl, (show _ = L_clevislaw08BoundTidies F_bound_Check F_bound_Tidy F_bound_In F_clevislaw08heads x by obtain ⟨⟨x0Umin, x0Umax, x0Smin, x0Smax, ⟨x0Bits_Value, x0Bits_Mask⟩⟩, x1⟩ := x; kernel_rfl).trans hL⟩
abbrev ps_clevisref08Value : List PT := [.agg ((.prod (.int .u64) (.prod (.int .u64) (.prod (.int .i64) (.prod (.int .i64) ((.prod (.int .u64) (.int .u64))))))))]
abbrev qs_clevisref08Value : List PT := [.one (.int .u64), .one (.bool)]
noncomputable def N_clevisref08Value   : FT ps_clevisref08Value qs_clevisref08Value := fun R x k => match x with
  | (x0Umin, x0Umax, x0Smin, x0Smax, (x0Bits_Value, x0Bits_Mask)) => 
      br (W.ne x0Umin x0Umax) (k (0, false)) (k (x0Umin, true))
theorem S_clevisref08Value   : SpecOk Try.prog 15 (mkS ps_clevisref08Value qs_clevisref08Value (N_clevisref08Value )) :=
  specOk_mk (fl := 10) (d := 12) base (by rintro R ⟨x0Umin, x0Umax, x0Smin, x0Smax, ⟨x0Bits_Value, x0Bits_Mask⟩⟩ k; kernel_rfl)
noncomputable def F_clevisref08Value : FT ps_clevisref08Value qs_clevisref08Value := N_clevisref08Value  
theorem ok_clevisref08Value : SpecOk Try.prog 15 (mkS ps_clevisref08Value qs_clevisref08Value F_clevisref08Value) := S_clevisref08Value 
abbrev ps_clevisref07Check : List PT := [.agg ((.prod (.int .u64) (.int .u64)))]
abbrev qs_clevisref07Check : List PT := [.one (.bool)]
noncomputable def N_clevisref07Check   : FT ps_clevisref07Check qs_clevisref07Check := fun R x k => match x with
  | (x0Value, x0Mask) => 
      k (W.eq (W.wrap IntKind.u64 (W.and IntKind.u64 x0Value x0Mask)) 0)
theorem S_clevisref07Check   : SpecOk Try.prog 42 (mkS ps_clevisref07Check qs_clevisref07Check (N_clevisref07Check )) :=
  specOk_mk (fl := 10) (d := 12) base (by rintro R ⟨x0Value, x0Mask⟩ k; kernel_rfl)
noncomputable def F_clevisref07Check : FT ps_clevisref07Check qs_clevisref07Check := N_clevisref07Check  
theorem ok_clevisref07Check : SpecOk Try.prog 42 (mkS ps_clevisref07Check qs_clevisref07Check F_clevisref07Check) := S_clevisref07Check 
abbrev ps_clevisref08Check : List PT := [.agg ((.prod (.int .u64) (.prod (.int .u64) (.prod (.int .i64) (.prod (.int .i64) ((.prod (.int .u64) (.int .u64))))))))]
abbrev qs_clevisref08Check : List PT := [.one (.bool)]
noncomputable def N_clevisref08Check (F_clevisref07Check : FT ps_clevisref07Check qs_clevisref07Check)  : FT ps_clevisref08Check qs_clevisref08Check := fun R x k => match x with
  | (x0Umin, x0Umax, x0Smin, x0Smax, (x0Bits_Value, x0Bits_Mask)) => 
      br (W.pick (W.le x0Umin x0Umax) (W.le x0Smin x0Smax) false) (F_clevisref07Check R (x0Bits_Value, x0Bits_Mask) fun y => k (W.pick true y false)) (k false)
theorem S_clevisref08Check {F_clevisref07Check : FT ps_clevisref07Check qs_clevisref07Check} (h_clevisref07Check : SpecOk Try.prog 42 (mkS ps_clevisref07Check qs_clevisref07Check F_clevisref07Check)) : SpecOk Try.prog 16 (mkS ps_clevisref08Check qs_clevisref08Check (N_clevisref08Check F_clevisref07Check)) :=
  specOk_mk (fl := 10) (d := 12) (cfgOk_cons base h_clevisref07Check) (by rintro R ⟨x0Umin, x0Umax, x0Smin, x0Smax, ⟨x0Bits_Value, x0Bits_Mask⟩⟩ k; kernel_rfl)
noncomputable def F_clevisref08Check : FT ps_clevisref08Check qs_clevisref08Check := N_clevisref08Check F_clevisref07Check 
theorem ok_clevisref08Check : SpecOk Try.prog 16 (mkS ps_clevisref08Check qs_clevisref08Check F_clevisref08Check) := S_clevisref08Check ok_clevisref07Check
abbrev ps_clevisref07In : List PT := [.agg ((.prod (.int .u64) (.int .u64))), .one (.int .u64)]
abbrev qs_clevisref07In : List PT := [.one (.bool)]
noncomputable def N_clevisref07In   : FT ps_clevisref07In qs_clevisref07In := fun R x k => match x with
  | ((x0Value, x0Mask), x1) => 
      k (W.eq (W.wrap IntKind.u64 (W.andNot IntKind.u64 x1 x0Mask)) x0Value)
theorem S_clevisref07In   : SpecOk Try.prog 43 (mkS ps_clevisref07In qs_clevisref07In (N_clevisref07In )) :=
  specOk_mk (fl := 10) (d := 12) base (by rintro R ⟨⟨x0Value, x0Mask⟩, x1⟩ k; kernel_rfl)
noncomputable def F_clevisref07In : FT ps_clevisref07In qs_clevisref07In := N_clevisref07In  
theorem ok_clevisref07In : SpecOk Try.prog 43 (mkS ps_clevisref07In qs_clevisref07In F_clevisref07In) := S_clevisref07In 
abbrev ps_clevisref08In : List PT := [.agg ((.prod (.int .u64) (.prod (.int .u64) (.prod (.int .i64) (.prod (.int .i64) ((.prod (.int .u64) (.int .u64)))))))), .one (.int .u64)]
abbrev qs_clevisref08In : List PT := [.one (.bool)]
noncomputable def N_clevisref08In (F_clevisref07In : FT ps_clevisref07In qs_clevisref07In)  : FT ps_clevisref08In qs_clevisref08In := fun R x k => match x with
  | ((x0Umin, x0Umax, x0Smin, x0Smax, (x0Bits_Value, x0Bits_Mask)), x1) => 
      br (W.pick (W.pick (W.pick (W.ge x1 x0Umin) (W.le x1 x0Umax) false) (W.ge (W.wrap IntKind.i64 x1) x0Smin) false) (W.le (W.wrap IntKind.i64 x1) x0Smax) false)
        (F_clevisref07In R ((x0Bits_Value, x0Bits_Mask), x1) fun y => k (W.pick true y false)) (k false)
theorem S_clevisref08In {F_clevisref07In : FT ps_clevisref07In qs_clevisref07In} (h_clevisref07In : SpecOk Try.prog 43 (mkS ps_clevisref07In qs_clevisref07In F_clevisref07In)) : SpecOk Try.prog 17 (mkS ps_clevisref08In qs_clevisref08In (N_clevisref08In F_clevisref07In)) :=
  specOk_mk (fl := 10) (d := 12) (cfgOk_cons base h_clevisref07In) (by rintro R ⟨⟨x0Umin, x0Umax, x0Smin, x0Smax, ⟨x0Bits_Value, x0Bits_Mask⟩⟩, x1⟩ k; kernel_rfl)
noncomputable def F_clevisref08In : FT ps_clevisref08In qs_clevisref08In := N_clevisref08In F_clevisref07In 
theorem ok_clevisref08In : SpecOk Try.prog 17 (mkS ps_clevisref08In qs_clevisref08In F_clevisref08In) := S_clevisref08In ok_clevisref07In
abbrev ps_tnum_Within : List PT := [.agg ((.prod (.int .u64) (.int .u64))), .agg ((.prod (.int .u64) (.int .u64)))]
abbrev qs_tnum_Within : List PT := [.one (.bool)]
noncomputable def N_tnum_Within (F_tnum_In : FT ps_tnum_In qs_tnum_In)  : FT ps_tnum_Within qs_tnum_Within := fun R x k => match x with
  | ((x0Value, x0Mask), (x1Value, x1Mask)) => 
      br (W.eq (W.wrap IntKind.u64 (W.or IntKind.u64 x1Mask x0Mask)) x0Mask) (F_tnum_In R ((x0Value, x0Mask), x1Value) fun y => k (W.pick true y false)) (k false)
theorem S_tnum_Within {F_tnum_In : FT ps_tnum_In qs_tnum_In} (h_tnum_In : SpecOk Try.prog 41 (mkS ps_tnum_In qs_tnum_In F_tnum_In)) : SpecOk Try.prog 44 (mkS ps_tnum_Within qs_tnum_Within (N_tnum_Within F_tnum_In)) :=
  specOk_mk (fl := 10) (d := 12) (cfgOk_cons base h_tnum_In) (by rintro R ⟨⟨x0Value, x0Mask⟩, ⟨x1Value, x1Mask⟩⟩ k; kernel_rfl)
noncomputable def F_tnum_Within : FT ps_tnum_Within qs_tnum_Within := N_tnum_Within F_tnum_In 
theorem ok_tnum_Within : SpecOk Try.prog 44 (mkS ps_tnum_Within qs_tnum_Within F_tnum_Within) := S_tnum_Within ok_tnum_In
abbrev ps_bound_Within : List PT := [.agg ((.prod (.int .u64) (.prod (.int .u64) (.prod (.int .i64) (.prod (.int .i64) ((.prod (.int .u64) (.int .u64)))))))), .agg ((.prod (.int .u64) (.prod (.int .u64) (.prod (.int .i64) (.prod (.int .i64) ((.prod (.int .u64) (.int .u64))))))))]
abbrev qs_bound_Within : List PT := [.one (.bool)]
noncomputable def N_bound_Within (F_bound_among_uint64 : FT ps_bound_among_uint64 qs_bound_among_uint64) (F_bound_among_int64 : FT ps_bound_among_int64 qs_bound_among_int64) (F_tnum_Within : FT ps_tnum_Within qs_tnum_Within)  : FT ps_bound_Within qs_bound_Within := fun R x k => match x with
  | ((x0Umin, x0Umax, x0Smin, x0Smax, (x0Bits_Value, x0Bits_Mask)), (x1Umin, x1Umax, x1Smin, x1Smax, (x1Bits_Value, x1Bits_Mask))) => 
      F_bound_among_uint64 R (x1Umin, x0Umin, x0Umax) fun y =>
        br y
          (F_bound_among_uint64 R (x1Umax, x0Umin, x0Umax) fun y =>
            F_bound_among_int64 R (x1Smin, x0Smin, x0Smax) fun y_1 =>
              br y_1
                (F_bound_among_int64 R (x1Smax, x0Smin, x0Smax) fun y_2 =>
                  br (W.pick (W.pick true y false) (W.pick true y_2 false) false) (F_tnum_Within R ((x0Bits_Value, x0Bits_Mask), x1Bits_Value, x1Bits_Mask) fun y => k (W.pick true y false)) (k false))
                (br (W.pick (W.pick true y false) false false) (F_tnum_Within R ((x0Bits_Value, x0Bits_Mask), x1Bits_Value, x1Bits_Mask) fun y => k (W.pick true y false)) (k false)))
          (F_bound_among_int64 R (x1Smin, x0Smin, x0Smax) fun y =>
            br y
              (F_bound_among_int64 R (x1Smax, x0Smin, x0Smax) fun y =>
                br (W.pick false (W.pick true y false) false) (F_tnum_Within R ((x0Bits_Value, x0Bits_Mask), x1Bits_Value, x1Bits_Mask) fun y => k (W.pick true y false)) (k false))
              (k false))
theorem S_bound_Within {F_bound_among_uint64 : FT ps_bound_among_uint64 qs_bound_among_uint64} {F_bound_among_int64 : FT ps_bound_among_int64 qs_bound_among_int64} {F_tnum_Within : FT ps_tnum_Within qs_tnum_Within} (h_bound_among_uint64 : SpecOk Try.prog 39 (mkS ps_bound_among_uint64 qs_bound_among_uint64 F_bound_among_uint64)) (h_bound_among_int64 : SpecOk Try.prog 40 (mkS ps_bound_among_int64 qs_bound_among_int64 F_bound_among_int64)) (h_tnum_Within : SpecOk Try.prog 44 (mkS ps_tnum_Within qs_tnum_Within F_tnum_Within)) : SpecOk Try.prog 18 (mkS ps_bound_Within qs_bound_Within (N_bound_Within F_bound_among_uint64 F_bound_among_int64 F_tnum_Within)) :=
  specOk_mk (fl := 10) (d := 12) (cfgOk_cons (cfgOk_cons (cfgOk_cons base h_tnum_Within) h_bound_among_int64) h_bound_among_uint64) (by rintro R ⟨⟨x0Umin, x0Umax, x0Smin, x0Smax, ⟨x0Bits_Value, x0Bits_Mask⟩⟩, ⟨x1Umin, x1Umax, x1Smin, x1Smax, ⟨x1Bits_Value, x1Bits_Mask⟩⟩⟩ k; kernel_rfl)
noncomputable def F_bound_Within : FT ps_bound_Within qs_bound_Within := N_bound_Within F_bound_among_uint64 F_bound_among_int64 F_tnum_Within 
theorem ok_bound_Within : SpecOk Try.prog 18 (mkS ps_bound_Within qs_bound_Within F_bound_Within) := S_bound_Within ok_bound_among_uint64 ok_bound_among_int64 ok_tnum_Within
abbrev ps_clevisref07Within : List PT := [.agg ((.prod (.int .u64) (.int .u64))), .agg ((.prod (.int .u64) (.int .u64)))]
abbrev qs_clevisref07Within : List PT := [.one (.bool)]
noncomputable def N_clevisref07Within   : FT ps_clevisref07Within qs_clevisref07Within := fun R x k => match x with
  | ((x0Value, x0Mask), (x1Value, x1Mask)) => 
      k (W.pick (W.eq (W.wrap IntKind.u64 (W.andNot IntKind.u64 x1Mask x0Mask)) 0) (W.eq (W.wrap IntKind.u64 (W.andNot IntKind.u64 x1Value x0Mask)) x0Value) false)
theorem S_clevisref07Within   : SpecOk Try.prog 45 (mkS ps_clevisref07Within qs_clevisref07Within (N_clevisref07Within )) :=
  specOk_mk (fl := 10) (d := 12) base (by rintro R ⟨⟨x0Value, x0Mask⟩, ⟨x1Value, x1Mask⟩⟩ k; kernel_rfl)
noncomputable def F_clevisref07Within : FT ps_clevisref07Within qs_clevisref07Within := N_clevisref07Within  
theorem ok_clevisref07Within : SpecOk Try.prog 45 (mkS ps_clevisref07Within qs_clevisref07Within F_clevisref07Within) := S_clevisref07Within 
abbrev ps_clevisref08Within : List PT := [.agg ((.prod (.int .u64) (.prod (.int .u64) (.prod (.int .i64) (.prod (.int .i64) ((.prod (.int .u64) (.int .u64)))))))), .agg ((.prod (.int .u64) (.prod (.int .u64) (.prod (.int .i64) (.prod (.int .i64) ((.prod (.int .u64) (.int .u64))))))))]
abbrev qs_clevisref08Within : List PT := [.one (.bool)]
noncomputable def N_clevisref08Within (F_clevisref07Within : FT ps_clevisref07Within qs_clevisref07Within)  : FT ps_clevisref08Within qs_clevisref08Within := fun R x k => match x with
  | ((x0Umin, x0Umax, x0Smin, x0Smax, (x0Bits_Value, x0Bits_Mask)), (x1Umin, x1Umax, x1Smin, x1Smax, (x1Bits_Value, x1Bits_Mask))) => 
      br
        (W.pick
          (W.pick
            (W.pick (W.pick (W.pick (W.pick (W.pick (W.ge x1Umin x0Umin) (W.le x1Umin x0Umax) false) (W.ge x1Umax x0Umin) false) (W.le x1Umax x0Umax) false) (W.ge x1Smin x0Smin) false)
              (W.le x1Smin x0Smax) false)
            (W.ge x1Smax x0Smin) false)
          (W.le x1Smax x0Smax) false)
        (F_clevisref07Within R ((x0Bits_Value, x0Bits_Mask), x1Bits_Value, x1Bits_Mask) fun y => k (W.pick true y false)) (k false)
theorem S_clevisref08Within {F_clevisref07Within : FT ps_clevisref07Within qs_clevisref07Within} (h_clevisref07Within : SpecOk Try.prog 45 (mkS ps_clevisref07Within qs_clevisref07Within F_clevisref07Within)) : SpecOk Try.prog 19 (mkS ps_clevisref08Within qs_clevisref08Within (N_clevisref08Within F_clevisref07Within)) :=
  specOk_mk (fl := 10) (d := 12) (cfgOk_cons base h_clevisref07Within) (by rintro R ⟨⟨x0Umin, x0Umax, x0Smin, x0Smax, ⟨x0Bits_Value, x0Bits_Mask⟩⟩, ⟨x1Umin, x1Umax, x1Smin, x1Smax, ⟨x1Bits_Value, x1Bits_Mask⟩⟩⟩ k; kernel_rfl)
noncomputable def F_clevisref08Within : FT ps_clevisref08Within qs_clevisref08Within := N_clevisref08Within F_clevisref07Within 
theorem ok_clevisref08Within : SpecOk Try.prog 19 (mkS ps_clevisref08Within qs_clevisref08Within F_clevisref08Within) := S_clevisref08Within ok_clevisref07Within
abbrev ps_clevisref07Const : List PT := [.one (.int .u64)]
abbrev qs_clevisref07Const : List PT := [.agg ((.prod (.int .u64) (.int .u64)))]
noncomputable def N_clevisref07Const   : FT ps_clevisref07Const qs_clevisref07Const := fun R x k => match x with
  | x0 => 
      k (x0, 0)
theorem S_clevisref07Const   : SpecOk Try.prog 47 (mkS ps_clevisref07Const qs_clevisref07Const (N_clevisref07Const )) :=
  specOk_mk (fl := 10) (d := 12) base (by intro R x0 k; kernel_rfl)
noncomputable def F_clevisref07Const : FT ps_clevisref07Const qs_clevisref07Const := N_clevisref07Const  
theorem ok_clevisref07Const : SpecOk Try.prog 47 (mkS ps_clevisref07Const qs_clevisref07Const F_clevisref07Const) := S_clevisref07Const 
abbrev ps_clevisref08Const : List PT := [.one (.int .u64)]
abbrev qs_clevisref08Const : List PT := [.agg ((.prod (.int .u64) (.prod (.int .u64) (.prod (.int .i64) (.prod (.int .i64) ((.prod (.int .u64) (.int .u64))))))))]
noncomputable def N_clevisref08Const (F_clevisref07Const : FT ps_clevisref07Const qs_clevisref07Const)  : FT ps_clevisref08Const qs_clevisref08Const := fun R x k => match x with
  | x0 => 
      F_clevisref07Const R x0 fun y => k (x0, x0, W.wrap IntKind.i64 x0, W.wrap IntKind.i64 x0, y.1, y.2)
theorem S_clevisref08Const {F_clevisref07Const : FT ps_clevisref07Const qs_clevisref07Const} (h_clevisref07Const : SpecOk Try.prog 47 (mkS ps_clevisref07Const qs_clevisref07Const F_clevisref07Const)) : SpecOk Try.prog 21 (mkS ps_clevisref08Const qs_clevisref08Const (N_clevisref08Const F_clevisref07Const)) :=
  specOk_mk (fl := 10) (d := 12) (cfgOk_cons base h_clevisref07Const) (by intro R x0 k; kernel_rfl)
noncomputable def F_clevisref08Const : FT ps_clevisref08Const qs_clevisref08Const := N_clevisref08Const F_clevisref07Const 
theorem ok_clevisref08Const : SpecOk Try.prog 21 (mkS ps_clevisref08Const qs_clevisref08Const F_clevisref08Const) := S_clevisref08Const ok_clevisref07Const
abbrev ps_clevisref08upto : List PT := [.one (.int .u64)]
abbrev qs_clevisref08upto : List PT := [.agg ((.prod (.int .u64) (.prod (.int .u64) (.prod (.int .i64) (.prod (.int .i64) ((.prod (.int .u64) (.int .u64))))))))]
noncomputable def N_clevisref08upto   : FT ps_clevisref08upto qs_clevisref08upto := fun R x k => match x with
  | x0 => 
      k (0, x0, 0, W.wrap IntKind.i64 x0, 0, x0)
theorem S_clevisref08upto   : SpecOk Try.prog 48 (mkS ps_clevisref08upto qs_clevisref08upto (N_clevisref08upto )) :=
  specOk_mk (fl := 10) (d := 12) base (by intro R x0 k; kernel_rfl)
noncomputable def F_clevisref08upto : FT ps_clevisref08upto qs_clevisref08upto := N_clevisref08upto  
theorem ok_clevisref08upto : SpecOk Try.prog 48 (mkS ps_clevisref08upto qs_clevisref08upto F_clevisref08upto) := S_clevisref08upto 
abbrev ps_clevisref08Size : List PT := [.one (.int .i64)]
abbrev qs_clevisref08Size : List PT := [.agg ((.prod (.int .u64) (.prod (.int .u64) (.prod (.int .i64) (.prod (.int .i64) ((.prod (.int .u64) (.int .u64))))))))]
noncomputable def N_clevisref08Size (F_clevisref08Any : FT ps_clevisref08Any qs_clevisref08Any) (F_clevisref08upto : FT ps_clevisref08upto qs_clevisref08upto)  : FT ps_clevisref08Size qs_clevisref08Size := fun R x k => match x with
  | x0 => 
      br (W.eq x0 1) (F_clevisref08upto R 255 fun y => k (y.1, y.2.1, y.2.2.1, y.2.2.2.1, y.2.2.2.2.1, y.2.2.2.2.2))
        (br (W.eq x0 2) (F_clevisref08upto R 65535 fun y => k (y.1, y.2.1, y.2.2.1, y.2.2.2.1, y.2.2.2.2.1, y.2.2.2.2.2))
          (br (W.eq x0 4) (F_clevisref08upto R 4294967295 fun y => k (y.1, y.2.1, y.2.2.1, y.2.2.2.1, y.2.2.2.2.1, y.2.2.2.2.2))
            (F_clevisref08Any R () fun y => k (y.1, y.2.1, y.2.2.1, y.2.2.2.1, y.2.2.2.2.1, y.2.2.2.2.2))))
theorem S_clevisref08Size {F_clevisref08Any : FT ps_clevisref08Any qs_clevisref08Any} {F_clevisref08upto : FT ps_clevisref08upto qs_clevisref08upto} (h_clevisref08Any : SpecOk Try.prog 33 (mkS ps_clevisref08Any qs_clevisref08Any F_clevisref08Any)) (h_clevisref08upto : SpecOk Try.prog 48 (mkS ps_clevisref08upto qs_clevisref08upto F_clevisref08upto)) : SpecOk Try.prog 23 (mkS ps_clevisref08Size qs_clevisref08Size (N_clevisref08Size F_clevisref08Any F_clevisref08upto)) :=
  specOk_mk (fl := 10) (d := 12) (cfgOk_cons (cfgOk_cons base h_clevisref08upto) h_clevisref08Any) (by intro R x0 k; kernel_rfl)
noncomputable def F_clevisref08Size : FT ps_clevisref08Size qs_clevisref08Size := N_clevisref08Size F_clevisref08Any F_clevisref08upto 
theorem ok_clevisref08Size : SpecOk Try.prog 23 (mkS ps_clevisref08Size qs_clevisref08Size F_clevisref08Size) := S_clevisref08Size ok_clevisref08Any ok_clevisref08upto
abbrev ps_clevislaw08BoundAsks : List PT := [.agg ((.prod (.int .u64) (.prod (.int .u64) (.prod (.int .i64) (.prod (.int .i64) ((.prod (.int .u64) (.int .u64)))))))), .agg ((.prod (.int .u64) (.prod (.int .u64) (.prod (.int .i64) (.prod (.int .i64) ((.prod (.int .u64) (.int .u64)))))))), .one (.int .u64), .one (.int .i64)]
noncomputable def L_clevislaw08BoundAsks (F_bound_Check : FT ps_bound_Check qs_bound_Check) (F_bound_In : FT ps_bound_In qs_bound_In) (F_bound_Value : FT ps_bound_Value qs_bound_Value) (F_bound_Const : FT ps_bound_Const qs_bound_Const) (F_bound_Size : FT ps_bound_Size qs_bound_Size) (F_clevislaw08heads : FT ps_clevislaw08heads qs_clevislaw08heads) (F_clevisref08Value : FT ps_clevisref08Value qs_clevisref08Value) (F_clevisref08Check : FT ps_clevisref08Check qs_clevisref08Check) (F_clevisref08In : FT ps_clevisref08In qs_clevisref08In) (F_bound_Within : FT ps_bound_Within qs_bound_Within) (F_clevisref08Within : FT ps_clevisref08Within qs_clevisref08Within) (F_clevisref08Const : FT ps_clevisref08Const qs_clevisref08Const) (F_clevisref08Size : FT ps_clevisref08Size qs_clevisref08Size)  (x : PTs.D ps_clevislaw08BoundAsks) : Option Unit := match x with
  | ((x0Umin, x0Umax, x0Smin, x0Smax, (x0Bits_Value, x0Bits_Mask)), (x1Umin, x1Umax, x1Smin, x1Smax, (x1Bits_Value, x1Bits_Mask)), x2, x3) => 
      F_bound_Value Unit (x0Umin, x0Umax, x0Smin, x0Smax, x0Bits_Value, x0Bits_Mask) fun y =>
        F_clevisref08Value Unit (x0Umin, x0Umax, x0Smin, x0Smax, x0Bits_Value, x0Bits_Mask) fun y_1 =>
          F_bound_Check Unit (x0Umin, x0Umax, x0Smin, x0Smax, x0Bits_Value, x0Bits_Mask) fun y_2 =>
            F_clevisref08Check Unit (x0Umin, x0Umax, x0Smin, x0Smax, x0Bits_Value, x0Bits_Mask) fun y_3 =>
              br (W.eqB y_2 y_3)
                (F_bound_In Unit ((x0Umin, x0Umax, x0Smin, x0Smax, x0Bits_Value, x0Bits_Mask), x2) fun y_4 =>
                  F_clevisref08In Unit ((x0Umin, x0Umax, x0Smin, x0Smax, x0Bits_Value, x0Bits_Mask), x2) fun y_5 =>
                    br (W.pick true (W.eqB y_4 y_5) false)
                      (F_bound_Within Unit ((x0Umin, x0Umax, x0Smin, x0Smax, x0Bits_Value, x0Bits_Mask), x1Umin, x1Umax, x1Smin, x1Smax, x1Bits_Value, x1Bits_Mask) fun y_6 =>
                        F_clevisref08Within Unit ((x0Umin, x0Umax, x0Smin, x0Smax, x0Bits_Value, x0Bits_Mask), x1Umin, x1Umax, x1Smin, x1Smax, x1Bits_Value, x1Bits_Mask) fun y_7 =>
                          br (W.pick (W.pick (W.pick true (W.eqB y_6 y_7) false) (W.eq y.1 y_1.1) false) (W.eqB y.2 y_1.2) false)
                            (F_bound_Const Unit x2 fun y =>
                              F_clevisref08Const Unit x2 fun y_8 =>
                                br
                                  (W.pick true
                                    (W.and2 (W.eq y.1 y_8.1)
                                      (W.and2 (W.eq y.2.1 y_8.2.1)
                                        (W.and2 (W.eq y.2.2.1 y_8.2.2.1) (W.and2 (W.eq y.2.2.2.1 y_8.2.2.2.1) (W.and2 (W.eq y.2.2.2.2.1 y_8.2.2.2.2.1) (W.and2 (W.eq y.2.2.2.2.2 y_8.2.2.2.2.2) true))))))
                                    false)
                                  (F_bound_Size Unit x3 fun y =>
                                    F_clevisref08Size Unit x3 fun y_9 =>
                                      br
                                        (W.pick true
                                          (W.and2 (W.eq y.1 y_9.1)
                                            (W.and2 (W.eq y.2.1 y_9.2.1)
                                              (W.and2 (W.eq y.2.2.1 y_9.2.2.1)
                                                (W.and2 (W.eq y.2.2.2.1 y_9.2.2.2.1) (W.and2 (W.eq y.2.2.2.2.1 y_9.2.2.2.2.1) (W.and2 (W.eq y.2.2.2.2.2 y_9.2.2.2.2.2) true))))))
                                          false)
                                        (F_clevislaw08heads Unit () fun y => br (W.pick true y false) (some ()) none) none)
                                  none)
                            none)
                      (br (W.pick (W.pick false (W.eq y.1 y_1.1) false) (W.eqB y.2 y_1.2) false)
                        (F_bound_Const Unit x2 fun y =>
                          F_clevisref08Const Unit x2 fun y_6 =>
                            br
                              (W.pick true
                                (W.and2 (W.eq y.1 y_6.1)
                                  (W.and2 (W.eq y.2.1 y_6.2.1)
                                    (W.and2 (W.eq y.2.2.1 y_6.2.2.1) (W.and2 (W.eq y.2.2.2.1 y_6.2.2.2.1) (W.and2 (W.eq y.2.2.2.2.1 y_6.2.2.2.2.1) (W.and2 (W.eq y.2.2.2.2.2 y_6.2.2.2.2.2) true))))))
                                false)
                              (F_bound_Size Unit x3 fun y =>
                                F_clevisref08Size Unit x3 fun y_7 =>
                                  br
                                    (W.pick true
                                      (W.and2 (W.eq y.1 y_7.1)
                                        (W.and2 (W.eq y.2.1 y_7.2.1)
                                          (W.and2 (W.eq y.2.2.1 y_7.2.2.1) (W.and2 (W.eq y.2.2.2.1 y_7.2.2.2.1) (W.and2 (W.eq y.2.2.2.2.1 y_7.2.2.2.2.1) (W.and2 (W.eq y.2.2.2.2.2 y_7.2.2.2.2.2) true))))))
                                      false)
                                    (F_clevislaw08heads Unit () fun y => br (W.pick true y false) (some ()) none) none)
                              none)
                        none))
                (br (W.pick (W.pick false (W.eq y.1 y_1.1) false) (W.eqB y.2 y_1.2) false)
                  (F_bound_Const Unit x2 fun y =>
                    F_clevisref08Const Unit x2 fun y_4 =>
                      br
                        (W.pick true
                          (W.and2 (W.eq y.1 y_4.1)
                            (W.and2 (W.eq y.2.1 y_4.2.1)
                              (W.and2 (W.eq y.2.2.1 y_4.2.2.1) (W.and2 (W.eq y.2.2.2.1 y_4.2.2.2.1) (W.and2 (W.eq y.2.2.2.2.1 y_4.2.2.2.2.1) (W.and2 (W.eq y.2.2.2.2.2 y_4.2.2.2.2.2) true))))))
                          false)
                        (F_bound_Size Unit x3 fun y =>
                          F_clevisref08Size Unit x3 fun y_5 =>
                            br
                              (W.pick true
                                (W.and2 (W.eq y.1 y_5.1)
                                  (W.and2 (W.eq y.2.1 y_5.2.1)
                                    (W.and2 (W.eq y.2.2.1 y_5.2.2.1) (W.and2 (W.eq y.2.2.2.1 y_5.2.2.2.1) (W.and2 (W.eq y.2.2.2.2.1 y_5.2.2.2.2.1) (W.and2 (W.eq y.2.2.2.2.2 y_5.2.2.2.2.2) true))))))
                                false)
                              (F_clevislaw08heads Unit () fun y => br (W.pick true y false) (some ()) none) none)
                        none)
                  none)
theorem E_clevislaw08BoundAsks {F_bound_Check : FT ps_bound_Check qs_bound_Check} {F_bound_In : FT ps_bound_In qs_bound_In} {F_bound_Value : FT ps_bound_Value qs_bound_Value} {F_bound_Const : FT ps_bound_Const qs_bound_Const} {F_bound_Size : FT ps_bound_Size qs_bound_Size} {F_clevislaw08heads : FT ps_clevislaw08heads qs_clevislaw08heads} {F_clevisref08Value : FT ps_clevisref08Value qs_clevisref08Value} {F_clevisref08Check : FT ps_clevisref08Check qs_clevisref08Check} {F_clevisref08In : FT ps_clevisref08In qs_clevisref08In} {F_bound_Within : FT ps_bound_Within qs_bound_Within} {F_clevisref08Within : FT ps_clevisref08Within qs_clevisref08Within} {F_clevisref08Const : FT ps_clevisref08Const qs_clevisref08Const} {F_clevisref08Size : FT ps_clevisref08Size qs_clevisref08Size} (h_bound_Check : SpecOk Try.prog 10 (mkS ps_bound_Check qs_bound_Check F_bound_Check)) (h_bound_In : SpecOk Try.prog 13 (mkS ps_bound_In qs_bound_In F_bound_In)) (h_bound_Value : SpecOk Try.prog 14 (mkS ps_bound_Value qs_bound_Value F_bound_Value)) (h_bound_Const : SpecOk Try.prog 20 (mkS ps_bound_Const qs_bound_Const F_bound_Const)) (h_bound_Size : SpecOk Try.prog 22 (mkS ps_bound_Size qs_bound_Size F_bound_Size)) (h_clevislaw08heads : SpecOk Try.prog 11 (mkS ps_clevislaw08heads qs_clevislaw08heads F_clevislaw08heads)) (h_clevisref08Value : SpecOk Try.prog 15 (mkS ps_clevisref08Value qs_clevisref08Value F_clevisref08Value)) (h_clevisref08Check : SpecOk Try.prog 16 (mkS ps_clevisref08Check qs_clevisref08Check F_clevisref08Check)) (h_clevisref08In : SpecOk Try.prog 17 (mkS ps_clevisref08In qs_clevisref08In F_clevisref08In)) (h_bound_Within : SpecOk Try.prog 18 (mkS ps_bound_Within qs_bound_Within F_bound_Within)) (h_clevisref08Within : SpecOk Try.prog 19 (mkS ps_clevisref08Within qs_clevisref08Within F_clevisref08Within)) (h_clevisref08Const : SpecOk Try.prog 21 (mkS ps_clevisref08Const qs_clevisref08Const F_clevisref08Const)) (h_clevisref08Size : SpecOk Try.prog 23 (mkS ps_clevisref08Size qs_clevisref08Size F_clevisref08Size)) (x : PTs.D ps_clevislaw08BoundAsks) (hL : L_clevislaw08BoundAsks F_bound_Check F_bound_In F_bound_Value F_bound_Const F_bound_Size F_clevislaw08heads F_clevisref08Value F_clevisref08Check F_clevisref08In F_bound_Within F_clevisref08Within F_clevisref08Const F_clevisref08Size x = some ()) :
    ∃ (C : Cfg) (fl d : Nat), CfgOk C ∧ C.P = Try.prog ∧ call C fl d 4 (encL false ps_clevislaw08BoundAsks x) [] getL = some () :=
  ⟨_, 10, 12, (cfgOk_cons (cfgOk_cons (cfgOk_cons (cfgOk_cons (cfgOk_cons (cfgOk_cons (cfgOk_cons (cfgOk_cons (cfgOk_cons (cfgOk_cons (cfgOk_cons (cfgOk_cons (cfgOk_cons base h_clevisref08Size) h_clevisref08Const) h_clevisref08Within) h_bound_Within) h_clevisref08In) h_clevisref08Check) h_clevisref08Value) h_clevislaw08heads) h_bound_Size) h_bound_Const) h_bound_Value) h_bound_In) h_bound_Check), rfl, (show _ = L_clevislaw08BoundAsks F_bound_Check F_bound_In F_bound_Value F_bound_Const F_bound_Size F_clevislaw08heads F_clevisref08Value F_clevisref08Check F_clevisref08In F_bound_Within F_clevisref08Within F_clevisref08Const F_clevisref08Size x by obtain ⟨⟨x0Umin, x0Umax, x0Smin, x0Smax, ⟨x0Bits_Value, x0Bits_Mask⟩⟩, ⟨x1Umin, x1Umax, x1Smin, x1Smax, ⟨x1Bits_Value, x1Bits_Mask⟩⟩, x2, x3⟩ := x; kernel_rfl).trans hL⟩
abbrev ps_clevislaw08BoundHolds : List PT := [.agg ((.prod (.int .u64) (.prod (.int .u64) (.prod (.int .i64) (.prod (.int .i64) ((.prod (.int .u64) (.int .u64)))))))), .agg ((.prod (.int .u64) (.prod (.int .u64) (.prod (.int .i64) (.prod (.int .i64) ((.prod (.int .u64) (.int .u64)))))))), .one (.int .u64)]
noncomputable def L_clevislaw08BoundHolds (F_bound_Check : FT ps_bound_Check qs_bound_Check) (F_bound_In : FT ps_bound_In qs_bound_In) (F_clevislaw08heads : FT ps_clevislaw08heads qs_clevislaw08heads) (F_bound_Within : FT ps_bound_Within qs_bound_Within)  (x : PTs.D ps_clevislaw08BoundHolds) : Option Unit := match x with
  | ((x0Umin, x0Umax, x0Smin, x0Smax, (x0Bits_Value, x0Bits_Mask)), (x1Umin, x1Umax, x1Smin, x1Smax, (x1Bits_Value, x1Bits_Mask)), x2) => 
      F_bound_Check Unit (x0Umin, x0Umax, x0Smin, x0Smax, x0Bits_Value, x0Bits_Mask) fun y =>
        br (W.not (W.not y))
          (F_bound_Check Unit (x1Umin, x1Umax, x1Smin, x1Smax, x1Bits_Value, x1Bits_Mask) fun y =>
            br (W.not (W.pick false true (W.not y)))
              (F_bound_Within Unit ((x0Umin, x0Umax, x0Smin, x0Smax, x0Bits_Value, x0Bits_Mask), x1Umin, x1Umax, x1Smin, x1Smax, x1Bits_Value, x1Bits_Mask) fun y =>
                br (W.not (W.pick false true (W.not y)))
                  (F_bound_In Unit ((x1Umin, x1Umax, x1Smin, x1Smax, x1Bits_Value, x1Bits_Mask), x2) fun y =>
                    br (W.pick false true (W.not y)) (F_clevislaw08heads Unit () fun y => br y (some ()) none)
                      (F_bound_In Unit ((x0Umin, x0Umax, x0Smin, x0Smax, x0Bits_Value, x0Bits_Mask), x2) fun y =>
                        br y (F_clevislaw08heads Unit () fun y => br (W.pick true y false) (some ()) none) none))
                  (F_clevislaw08heads Unit () fun y => br y (some ()) none))
              (F_clevislaw08heads Unit () fun y => br y (some ()) none))
          (F_clevislaw08heads Unit () fun y => br y (some ()) none)
theorem E_clevislaw08BoundHolds {F_bound_Check : FT ps_bound_Check qs_bound_Check} {F_bound_In : FT ps_bound_In qs_bound_In} {F_clevislaw08heads : FT ps_clevislaw08heads qs_clevislaw08heads} {F_bound_Within : FT ps_bound_Within qs_bound_Within} (h_bound_Check : SpecOk Try.prog 10 (mkS ps_bound_Check qs_bound_Check F_bound_Check)) (h_bound_In : SpecOk Try.prog 13 (mkS ps_bound_In qs_bound_In F_bound_In)) (h_clevislaw08heads : SpecOk Try.prog 11 (mkS ps_clevislaw08heads qs_clevislaw08heads F_clevislaw08heads)) (h_bound_Within : SpecOk Try.prog 18 (mkS ps_bound_Within qs_bound_Within F_bound_Within)) (x : PTs.D ps_clevislaw08BoundHolds) (hL : L_clevislaw08BoundHolds F_bound_Check F_bound_In F_clevislaw08heads F_bound_Within x = some ()) :
    ∃ (C : Cfg) (fl d : Nat), CfgOk C ∧ C.P = Try.prog ∧ call C fl d 5 (encL false ps_clevislaw08BoundHolds x) [] getL = some () :=
  ⟨_, 10, 12, (cfgOk_cons (cfgOk_cons (cfgOk_cons (cfgOk_cons base h_bound_Within) h_clevislaw08heads) h_bound_In) h_bound_Check), rfl, (show _ = L_clevislaw08BoundHolds F_bound_Check F_bound_In F_clevislaw08heads F_bound_Within x by obtain ⟨⟨x0Umin, x0Umax, x0Smin, x0Smax, ⟨x0Bits_Value, x0Bits_Mask⟩⟩, ⟨x1Umin, x1Umax, x1Smin, x1Smax, ⟨x1Bits_Value, x1Bits_Mask⟩⟩, x2⟩ := x; kernel_rfl).trans hL⟩
abbrev ps_tnum_Join : List PT := [.agg ((.prod (.int .u64) (.int .u64))), .agg ((.prod (.int .u64) (.int .u64)))]
abbrev qs_tnum_Join : List PT := [.agg ((.prod (.int .u64) (.int .u64)))]
noncomputable def N_tnum_Join (F_tnum_tidy : FT ps_tnum_tidy qs_tnum_tidy)  : FT ps_tnum_Join qs_tnum_Join := fun R x k => match x with
  | ((x0Value, x0Mask), (x1Value, x1Mask)) => 
      F_tnum_tidy R
        (W.wrap IntKind.u64 (W.and IntKind.u64 x0Value x1Value),
          W.wrap IntKind.u64 (W.or IntKind.u64 (W.wrap IntKind.u64 (W.or IntKind.u64 x0Mask x1Mask)) (W.wrap IntKind.u64 (W.xor IntKind.u64 x0Value x1Value))))
        fun y => k (y.1, y.2)
theorem S_tnum_Join {F_tnum_tidy : FT ps_tnum_tidy qs_tnum_tidy} (h_tnum_tidy : SpecOk Try.prog 58 (mkS ps_tnum_tidy qs_tnum_tidy F_tnum_tidy)) : SpecOk Try.prog 50 (mkS ps_tnum_Join qs_tnum_Join (N_tnum_Join F_tnum_tidy)) :=
  specOk_mk (fl := 10) (d := 12) (cfgOk_cons base h_tnum_tidy) (by rintro R ⟨⟨x0Value, x0Mask⟩, ⟨x1Value, x1Mask⟩⟩ k; kernel_rfl)
noncomputable def F_tnum_Join : FT ps_tnum_Join qs_tnum_Join := N_tnum_Join F_tnum_tidy 
theorem ok_tnum_Join : SpecOk Try.prog 50 (mkS ps_tnum_Join qs_tnum_Join F_tnum_Join) := S_tnum_Join ok_tnum_tidy
abbrev ps_bound_Join : List PT := [.agg ((.prod (.int .u64) (.prod (.int .u64) (.prod (.int .i64) (.prod (.int .i64) ((.prod (.int .u64) (.int .u64)))))))), .agg ((.prod (.int .u64) (.prod (.int .u64) (.prod (.int .i64) (.prod (.int .i64) ((.prod (.int .u64) (.int .u64))))))))]
abbrev qs_bound_Join : List PT := [.agg ((.prod (.int .u64) (.prod (.int .u64) (.prod (.int .i64) (.prod (.int .i64) ((.prod (.int .u64) (.int .u64))))))))]
noncomputable def N_bound_Join (F_tnum_Join : FT ps_tnum_Join qs_tnum_Join)  : FT ps_bound_Join qs_bound_Join := fun R x k => match x with
  | ((x0Umin, x0Umax, x0Smin, x0Smax, (x0Bits_Value, x0Bits_Mask)), (x1Umin, x1Umax, x1Smin, x1Smax, (x1Bits_Value, x1Bits_Mask))) => 
      F_tnum_Join R ((x0Bits_Value, x0Bits_Mask), x1Bits_Value, x1Bits_Mask) fun y => k (W.min x0Umin x1Umin, W.max x0Umax x1Umax, W.min x0Smin x1Smin, W.max x0Smax x1Smax, y.1, y.2)
theorem S_bound_Join {F_tnum_Join : FT ps_tnum_Join qs_tnum_Join} (h_tnum_Join : SpecOk Try.prog 50 (mkS ps_tnum_Join qs_tnum_Join F_tnum_Join)) : SpecOk Try.prog 25 (mkS ps_bound_Join qs_bound_Join (N_bound_Join F_tnum_Join)) :=
  specOk_mk (fl := 10) (d := 12) (cfgOk_cons base h_tnum_Join) (by rintro R ⟨⟨x0Umin, x0Umax, x0Smin, x0Smax, ⟨x0Bits_Value, x0Bits_Mask⟩⟩, ⟨x1Umin, x1Umax, x1Smin, x1Smax, ⟨x1Bits_Value, x1Bits_Mask⟩⟩⟩ k; kernel_rfl)
noncomputable def F_bound_Join : FT ps_bound_Join qs_bound_Join := N_bound_Join F_tnum_Join 
theorem ok_bound_Join : SpecOk Try.prog 25 (mkS ps_bound_Join qs_bound_Join F_bound_Join) := S_bound_Join ok_tnum_Join
abbrev ps_clevislaw08BoundConst : List PT := [.one (.int .u64), .one (.int .u64)]
noncomputable def L_clevislaw08BoundConst (F_bound_Tidy : FT ps_bound_Tidy qs_bound_Tidy) (F_bound_In : FT ps_bound_In qs_bound_In) (F_bound_Value : FT ps_bound_Value qs_bound_Value) (F_bound_Const : FT ps_bound_Const qs_bound_Const) (F_bound_Any : FT ps_bound_Any qs_bound_Any) (F_clevislaw08heads : FT ps_clevislaw08heads qs_clevislaw08heads) (F_bound_Within : FT ps_bound_Within qs_bound_Within) (F_bound_Join : FT ps_bound_Join qs_bound_Join)  (x : PTs.D ps_clevislaw08BoundConst) : Option Unit := match x with
  | (x0, x1) => 
      F_bound_Const Unit x0 fun y =>
        F_bound_Value Unit (y.1, y.2.1, y.2.2.1, y.2.2.2.1, y.2.2.2.2.1, y.2.2.2.2.2) fun y_1 =>
          F_bound_Tidy Unit (y.1, y.2.1, y.2.2.1, y.2.2.2.1, y.2.2.2.2.1, y.2.2.2.2.2) fun y_2 =>
            F_bound_Any Unit () fun y_3 =>
              F_bound_Tidy Unit (x0, x0, y_3.2.2.1, y_3.2.2.2.1, y_3.2.2.2.2.1, y_3.2.2.2.2.2) fun y_4 =>
                br (W.pick y_1.2 (W.eq y_1.1 x0) false)
                  (F_bound_In Unit ((y.1, y.2.1, y.2.2.1, y.2.2.2.1, y.2.2.2.2.1, y.2.2.2.2.2), x1) fun y_5 =>
                    br
                      (W.pick
                        (W.pick
                          (W.pick (W.pick (W.pick true (W.eqB y_5 (W.eq x0 x1)) false) y_2.2 false)
                            (W.and2 (W.eq y_2.1.1 y.1)
                              (W.and2 (W.eq y_2.1.2.1 y.2.1)
                                (W.and2 (W.eq y_2.1.2.2.1 y.2.2.1) (W.and2 (W.eq y_2.1.2.2.2.1 y.2.2.2.1) (W.and2 (W.eq y_2.1.2.2.2.2.1 y.2.2.2.2.1) (W.and2 (W.eq y_2.1.2.2.2.2.2 y.2.2.2.2.2) true))))))
                            false)
                          y_4.2 false)
                        (W.and2 (W.eq y_4.1.1 y.1)
                          (W.and2 (W.eq y_4.1.2.1 y.2.1)
                            (W.and2 (W.eq y_4.1.2.2.1 y.2.2.1) (W.and2 (W.eq y_4.1.2.2.2.1 y.2.2.2.1) (W.and2 (W.eq y_4.1.2.2.2.2.1 y.2.2.2.2.1) (W.and2 (W.eq y_4.1.2.2.2.2.2 y.2.2.2.2.2) true))))))
                        false)
                      (F_bound_Any Unit () fun y_6 =>
                        F_bound_Within Unit ((y_6.1, y_6.2.1, y_6.2.2.1, y_6.2.2.2.1, y_6.2.2.2.2.1, y_6.2.2.2.2.2), y.1, y.2.1, y.2.2.1, y.2.2.2.1, y.2.2.2.2.1, y.2.2.2.2.2) fun y_7 =>
                          br (W.pick true y_7 false)
                            (F_bound_Join Unit ((y.1, y.2.1, y.2.2.1, y.2.2.2.1, y.2.2.2.2.1, y.2.2.2.2.2), y.1, y.2.1, y.2.2.1, y.2.2.2.1, y.2.2.2.2.1, y.2.2.2.2.2) fun y_8 =>
                              br
                                (W.pick true
                                  (W.and2 (W.eq y_8.1 y.1)
                                    (W.and2 (W.eq y_8.2.1 y.2.1)
                                      (W.and2 (W.eq y_8.2.2.1 y.2.2.1) (W.and2 (W.eq y_8.2.2.2.1 y.2.2.2.1) (W.and2 (W.eq y_8.2.2.2.2.1 y.2.2.2.2.1) (W.and2 (W.eq y_8.2.2.2.2.2 y.2.2.2.2.2) true))))))
                                  false)
                                (F_clevislaw08heads Unit () fun y => br (W.pick true y false) (some ()) none) none)
                            none)
                      none)
                  (br
                    (W.pick
                      (W.pick
                        (W.pick (W.pick false y_2.2 false)
                          (W.and2 (W.eq y_2.1.1 y.1)
                            (W.and2 (W.eq y_2.1.2.1 y.2.1)
                              (W.and2 (W.eq y_2.1.2.2.1 y.2.2.1) (W.and2 (W.eq y_2.1.2.2.2.1 y.2.2.2.1) (W.and2 (W.eq y_2.1.2.2.2.2.1 y.2.2.2.2.1) (W.and2 (W.eq y_2.1.2.2.2.2.2 y.2.2.2.2.2) true))))))
                          false)
                        y_4.2 false)
                      (W.and2 (W.eq y_4.1.1 y.1)
                        (W.and2 (W.eq y_4.1.2.1 y.2.1)
                          (W.and2 (W.eq y_4.1.2.2.1 y.2.2.1) (W.and2 (W.eq y_4.1.2.2.2.1 y.2.2.2.1) (W.and2 (W.eq y_4.1.2.2.2.2.1 y.2.2.2.2.1) (W.and2 (W.eq y_4.1.2.2.2.2.2 y.2.2.2.2.2) true))))))
                      false)
                    (F_bound_Any Unit () fun y_5 =>
                      F_bound_Within Unit ((y_5.1, y_5.2.1, y_5.2.2.1, y_5.2.2.2.1, y_5.2.2.2.2.1, y_5.2.2.2.2.2), y.1, y.2.1, y.2.2.1, y.2.2.2.1, y.2.2.2.2.1, y.2.2.2.2.2) fun y_6 =>
                        br (W.pick true y_6 false)
                          (F_bound_Join Unit ((y.1, y.2.1, y.2.2.1, y.2.2.2.1, y.2.2.2.2.1, y.2.2.2.2.2), y.1, y.2.1, y.2.2.1, y.2.2.2.1, y.2.2.2.2.1, y.2.2.2.2.2) fun y_7 =>
                            br
                              (W.pick true
                                (W.and2 (W.eq y_7.1 y.1)
                                  (W.and2 (W.eq y_7.2.1 y.2.1)
                                    (W.and2 (W.eq y_7.2.2.1 y.2.2.1) (W.and2 (W.eq y_7.2.2.2.1 y.2.2.2.1) (W.and2 (W.eq y_7.2.2.2.2.1 y.2.2.2.2.1) (W.and2 (W.eq y_7.2.2.2.2.2 y.2.2.2.2.2) true))))))
                                false)
                              (F_clevislaw08heads Unit () fun y => br (W.pick true y false) (some ()) none) none)
                          none)
                    none)
theorem E_clevislaw08BoundConst {F_bound_Tidy : FT ps_bound_Tidy qs_bound_Tidy} {F_bound_In : FT ps_bound_In qs_bound_In} {F_bound_Value : FT ps_bound_Value qs_bound_Value} {F_bound_Const : FT ps_bound_Const qs_bound_Const} {F_bound_Any : FT ps_bound_Any qs_bound_Any} {F_clevislaw08heads : FT ps_clevislaw08heads qs_clevislaw08heads} {F_bound_Within : FT ps_bound_Within qs_bound_Within} {F_bound_Join : FT ps_bound_Join qs_bound_Join} (h_bound_Tidy : SpecOk Try.prog 12 (mkS ps_bound_Tidy qs_bound_Tidy F_bound_Tidy)) (h_bound_In : SpecOk Try.prog 13 (mkS ps_bound_In qs_bound_In F_bound_In)) (h_bound_Value : SpecOk Try.prog 14 (mkS ps_bound_Value qs_bound_Value F_bound_Value)) (h_bound_Const : SpecOk Try.prog 20 (mkS ps_bound_Const qs_bound_Const F_bound_Const)) (h_bound_Any : SpecOk Try.prog 24 (mkS ps_bound_Any qs_bound_Any F_bound_Any)) (h_clevislaw08heads : SpecOk Try.prog 11 (mkS ps_clevislaw08heads qs_clevislaw08heads F_clevislaw08heads)) (h_bound_Within : SpecOk Try.prog 18 (mkS ps_bound_Within qs_bound_Within F_bound_Within)) (h_bound_Join : SpecOk Try.prog 25 (mkS ps_bound_Join qs_bound_Join F_bound_Join)) (x : PTs.D ps_clevislaw08BoundConst) (hL : L_clevislaw08BoundConst F_bound_Tidy F_bound_In F_bound_Value F_bound_Const F_bound_Any F_clevislaw08heads F_bound_Within F_bound_Join x = some ()) :
    ∃ (C : Cfg) (fl d : Nat), CfgOk C ∧ C.P = Try.prog ∧ call C fl d 6 (encL false ps_clevislaw08BoundConst x) [] getL = some () :=
  ⟨_, 10, 12, (cfgOk_cons (cfgOk_cons (cfgOk_cons (cfgOk_cons (cfgOk_cons (cfgOk_cons (cfgOk_cons (cfgOk_cons base h_bound_Join) h_bound_Within) h_clevislaw08heads) h_bound_Any) h_bound_Const) h_bound_Value) h_bound_In) h_bound_Tidy), rfl, (show _ = L_clevislaw08BoundConst F_bound_Tidy F_bound_In F_bound_Value F_bound_Const F_bound_Any F_clevislaw08heads F_bound_Within F_bound_Join x by obtain ⟨x0, x1⟩ := x; kernel_rfl).trans hL⟩
abbrev ps_clevislaw08BoundMeets : List PT := [.agg ((.prod (.int .u64) (.prod (.int .u64) (.prod (.int .i64) (.prod (.int .i64) ((.prod (.int .u64) (.int .u64)))))))), .agg ((.prod (.int .u64) (.prod (.int .u64) (.prod (.int .i64) (.prod (.int .i64) ((.prod (.int .u64) (.int .u64)))))))), .one (.int .u64)]
noncomputable def L_clevislaw08BoundMeets (F_bound_Check : FT ps_bound_Check qs_bound_Check) (F_bound_In : FT ps_bound_In qs_bound_In) (F_bound_Meet : FT ps_bound_Meet qs_bound_Meet) (F_clevislaw08heads : FT ps_clevislaw08heads qs_clevislaw08heads) (F_bound_Within : FT ps_bound_Within qs_bound_Within) (F_bound_Join : FT ps_bound_Join qs_bound_Join)  (x : PTs.D ps_clevislaw08BoundMeets) : Option Unit := match x with
  | ((x0Umin, x0Umax, x0Smin, x0Smax, (x0Bits_Value, x0Bits_Mask)), (x1Umin, x1Umax, x1Smin, x1Smax, (x1Bits_Value, x1Bits_Mask)), x2) => 
      F_bound_Check Unit (x0Umin, x0Umax, x0Smin, x0Smax, x0Bits_Value, x0Bits_Mask) fun y =>
        br (W.not (W.not y))
          (F_bound_Check Unit (x1Umin, x1Umax, x1Smin, x1Smax, x1Bits_Value, x1Bits_Mask) fun y =>
            br (W.pick false true (W.not y)) (F_clevislaw08heads Unit () fun y => br y (some ()) none)
              (F_bound_Meet Unit ((x0Umin, x0Umax, x0Smin, x0Smax, x0Bits_Value, x0Bits_Mask), x1Umin, x1Umax, x1Smin, x1Smax, x1Bits_Value, x1Bits_Mask) fun y =>
                F_bound_In Unit ((x0Umin, x0Umax, x0Smin, x0Smax, x0Bits_Value, x0Bits_Mask), x2) fun y_1 =>
                  F_bound_In Unit ((x1Umin, x1Umax, x1Smin, x1Smax, x1Bits_Value, x1Bits_Mask), x2) fun y_2 =>
                    br (W.and2 (W.pick y_1 y_2 false) y.2)
                      (F_bound_In Unit ((y.1.1, y.1.2.1, y.1.2.2.1, y.1.2.2.2.1, y.1.2.2.2.2.1, y.1.2.2.2.2.2), x2) fun y_3 =>
                        br (W.and2 (W.not (W.pick (W.pick y_1 y_2 false) (W.not (W.pick y.2 y_3 false)) false)) y.2)
                          (F_bound_In Unit ((y.1.1, y.1.2.1, y.1.2.2.1, y.1.2.2.2.1, y.1.2.2.2.2.1, y.1.2.2.2.2.2), x2) fun y_4 =>
                            br (W.pick (W.pick (W.pick y_1 y_2 false) (W.not (W.pick y.2 y_3 false)) false) true (W.pick (W.pick y.2 y_4 false) (W.not (W.pick y_1 y_2 false)) false)) none
                              (F_bound_Join Unit ((x0Umin, x0Umax, x0Smin, x0Smax, x0Bits_Value, x0Bits_Mask), x1Umin, x1Umax, x1Smin, x1Smax, x1Bits_Value, x1Bits_Mask) fun y =>
                                br (W.not (W.not (W.pick y_1 true y_2)))
                                  (F_bound_In Unit ((y.1, y.2.1, y.2.2.1, y.2.2.2.1, y.2.2.2.2.1, y.2.2.2.2.2), x2) fun y_5 =>
                                    br (W.pick false true y_5)
                                      (F_bound_Within Unit ((y.1, y.2.1, y.2.2.1, y.2.2.2.1, y.2.2.2.2.1, y.2.2.2.2.2), x0Umin, x0Umax, x0Smin, x0Smax, x0Bits_Value, x0Bits_Mask) fun y_6 =>
                                        br (W.pick true y_6 false)
                                          (F_bound_Within Unit ((y.1, y.2.1, y.2.2.1, y.2.2.2.1, y.2.2.2.2.1, y.2.2.2.2.2), x1Umin, x1Umax, x1Smin, x1Smax, x1Bits_Value, x1Bits_Mask) fun y =>
                                            br (W.pick true y false) (F_clevislaw08heads Unit () fun y => br (W.pick true y false) (some ()) none) none)
                                          none)
                                      none)
                                  (F_bound_Within Unit ((y.1, y.2.1, y.2.2.1, y.2.2.2.1, y.2.2.2.2.1, y.2.2.2.2.2), x0Umin, x0Umax, x0Smin, x0Smax, x0Bits_Value, x0Bits_Mask) fun y_5 =>
                                    br (W.pick true y_5 false)
                                      (F_bound_Within Unit ((y.1, y.2.1, y.2.2.1, y.2.2.2.1, y.2.2.2.2.1, y.2.2.2.2.2), x1Umin, x1Umax, x1Smin, x1Smax, x1Bits_Value, x1Bits_Mask) fun y =>
                                        br (W.pick true y false) (F_clevislaw08heads Unit () fun y => br (W.pick true y false) (some ()) none) none)
                                      none)))
                          (br (W.not (W.pick (W.pick y_1 y_2 false) (W.not (W.pick y.2 y_3 false)) false))
                            (br y.2 none
                              (br (W.pick false true (W.pick false (W.not (W.pick y_1 y_2 false)) false)) none
                                (F_bound_Join Unit ((x0Umin, x0Umax, x0Smin, x0Smax, x0Bits_Value, x0Bits_Mask), x1Umin, x1Umax, x1Smin, x1Smax, x1Bits_Value, x1Bits_Mask) fun y =>
                                  br (W.not (W.not (W.pick y_1 true y_2)))
                                    (F_bound_In Unit ((y.1, y.2.1, y.2.2.1, y.2.2.2.1, y.2.2.2.2.1, y.2.2.2.2.2), x2) fun y_4 =>
                                      br (W.pick false true y_4)
                                        (F_bound_Within Unit ((y.1, y.2.1, y.2.2.1, y.2.2.2.1, y.2.2.2.2.1, y.2.2.2.2.2), x0Umin, x0Umax, x0Smin, x0Smax, x0Bits_Value, x0Bits_Mask) fun y_5 =>
                                          br (W.pick true y_5 false)
                                            (F_bound_Within Unit ((y.1, y.2.1, y.2.2.1, y.2.2.2.1, y.2.2.2.2.1, y.2.2.2.2.2), x1Umin, x1Umax, x1Smin, x1Smax, x1Bits_Value, x1Bits_Mask) fun y =>
                                              br (W.pick true y false) (F_clevislaw08heads Unit () fun y => br (W.pick true y false) (some ()) none) none)
                                            none)
                                        none)
                                    (F_bound_Within Unit ((y.1, y.2.1, y.2.2.1, y.2.2.2.1, y.2.2.2.2.1, y.2.2.2.2.2), x0Umin, x0Umax, x0Smin, x0Smax, x0Bits_Value, x0Bits_Mask) fun y_4 =>
                                      br (W.pick true y_4 false)
                                        (F_bound_Within Unit ((y.1, y.2.1, y.2.2.1, y.2.2.2.1, y.2.2.2.2.1, y.2.2.2.2.2), x1Umin, x1Umax, x1Smin, x1Smax, x1Bits_Value, x1Bits_Mask) fun y =>
                                          br (W.pick true y false) (F_clevislaw08heads Unit () fun y => br (W.pick true y false) (some ()) none) none)
                                        none))))
                            none))
                      (br (W.pick y_1 y_2 false)
                        (br y.2 none
                          (br (W.and2 false y.2)
                            (F_bound_In Unit ((y.1.1, y.1.2.1, y.1.2.2.1, y.1.2.2.2.1, y.1.2.2.2.2.1, y.1.2.2.2.2.2), x2) fun y_3 =>
                              br (W.pick true true (W.pick (W.pick y.2 y_3 false) (W.not (W.pick y_1 y_2 false)) false)) none
                                (F_bound_Join Unit ((x0Umin, x0Umax, x0Smin, x0Smax, x0Bits_Value, x0Bits_Mask), x1Umin, x1Umax, x1Smin, x1Smax, x1Bits_Value, x1Bits_Mask) fun y =>
                                  br (W.not (W.not (W.pick y_1 true y_2)))
                                    (F_bound_In Unit ((y.1, y.2.1, y.2.2.1, y.2.2.2.1, y.2.2.2.2.1, y.2.2.2.2.2), x2) fun y_4 =>
                                      br (W.pick false true y_4)
                                        (F_bound_Within Unit ((y.1, y.2.1, y.2.2.1, y.2.2.2.1, y.2.2.2.2.1, y.2.2.2.2.2), x0Umin, x0Umax, x0Smin, x0Smax, x0Bits_Value, x0Bits_Mask) fun y_5 =>
                                          br (W.pick true y_5 false)
                                            (F_bound_Within Unit ((y.1, y.2.1, y.2.2.1, y.2.2.2.1, y.2.2.2.2.1, y.2.2.2.2.2), x1Umin, x1Umax, x1Smin, x1Smax, x1Bits_Value, x1Bits_Mask) fun y =>
                                              br (W.pick true y false) (F_clevislaw08heads Unit () fun y => br (W.pick true y false) (some ()) none) none)
                                            none)
                                        none)
                                    (F_bound_Within Unit ((y.1, y.2.1, y.2.2.1, y.2.2.2.1, y.2.2.2.2.1, y.2.2.2.2.2), x0Umin, x0Umax, x0Smin, x0Smax, x0Bits_Value, x0Bits_Mask) fun y_4 =>
                                      br (W.pick true y_4 false)
                                        (F_bound_Within Unit ((y.1, y.2.1, y.2.2.1, y.2.2.2.1, y.2.2.2.2.1, y.2.2.2.2.2), x1Umin, x1Umax, x1Smin, x1Smax, x1Bits_Value, x1Bits_Mask) fun y =>
                                          br (W.pick true y false) (F_clevislaw08heads Unit () fun y => br (W.pick true y false) (some ()) none) none)
                                        none)))
                            none))
                        (br (W.and2 true y.2)
                          (F_bound_In Unit ((y.1.1, y.1.2.1, y.1.2.2.1, y.1.2.2.2.1, y.1.2.2.2.2.1, y.1.2.2.2.2.2), x2) fun y_3 =>
                            br (W.pick false true (W.pick (W.pick y.2 y_3 false) (W.not (W.pick y_1 y_2 false)) false)) none
                              (F_bound_Join Unit ((x0Umin, x0Umax, x0Smin, x0Smax, x0Bits_Value, x0Bits_Mask), x1Umin, x1Umax, x1Smin, x1Smax, x1Bits_Value, x1Bits_Mask) fun y =>
                                br (W.not (W.not (W.pick y_1 true y_2)))
                                  (F_bound_In Unit ((y.1, y.2.1, y.2.2.1, y.2.2.2.1, y.2.2.2.2.1, y.2.2.2.2.2), x2) fun y_4 =>
                                    br (W.pick false true y_4)
                                      (F_bound_Within Unit ((y.1, y.2.1, y.2.2.1, y.2.2.2.1, y.2.2.2.2.1, y.2.2.2.2.2), x0Umin, x0Umax, x0Smin, x0Smax, x0Bits_Value, x0Bits_Mask) fun y_5 =>
                                        br (W.pick true y_5 false)
                                          (F_bound_Within Unit ((y.1, y.2.1, y.2.2.1, y.2.2.2.1, y.2.2.2.2.1, y.2.2.2.2.2), x1Umin, x1Umax, x1Smin, x1Smax, x1Bits_Value, x1Bits_Mask) fun y =>
                                            br (W.pick true y false) (F_clevislaw08heads Unit () fun y => br (W.pick true y false) (some ()) none) none)
                                          none)
                                      none)
                                  (F_bound_Within Unit ((y.1, y.2.1, y.2.2.1, y.2.2.2.1, y.2.2.2.2.1, y.2.2.2.2.2), x0Umin, x0Umax, x0Smin, x0Smax, x0Bits_Value, x0Bits_Mask) fun y_4 =>
                                    br (W.pick true y_4 false)
                                      (F_bound_Within Unit ((y.1, y.2.1, y.2.2.1, y.2.2.2.1, y.2.2.2.2.1, y.2.2.2.2.2), x1Umin, x1Umax, x1Smin, x1Smax, x1Bits_Value, x1Bits_Mask) fun y =>
                                        br (W.pick true y false) (F_clevislaw08heads Unit () fun y => br (W.pick true y false) (some ()) none) none)
                                      none)))
                          (br y.2 none
                            (br (W.pick false true (W.pick false (W.not (W.pick y_1 y_2 false)) false)) none
                              (F_bound_Join Unit ((x0Umin, x0Umax, x0Smin, x0Smax, x0Bits_Value, x0Bits_Mask), x1Umin, x1Umax, x1Smin, x1Smax, x1Bits_Value, x1Bits_Mask) fun y =>
                                br (W.not (W.not (W.pick y_1 true y_2)))
                                  (F_bound_In Unit ((y.1, y.2.1, y.2.2.1, y.2.2.2.1, y.2.2.2.2.1, y.2.2.2.2.2), x2) fun y_3 =>
                                    br (W.pick false true y_3)
                                      (F_bound_Within Unit ((y.1, y.2.1, y.2.2.1, y.2.2.2.1, y.2.2.2.2.1, y.2.2.2.2.2), x0Umin, x0Umax, x0Smin, x0Smax, x0Bits_Value, x0Bits_Mask) fun y_4 =>
                                        br (W.pick true y_4 false)
                                          (F_bound_Within Unit ((y.1, y.2.1, y.2.2.1, y.2.2.2.1, y.2.2.2.2.1, y.2.2.2.2.2), x1Umin, x1Umax, x1Smin, x1Smax, x1Bits_Value, x1Bits_Mask) fun y =>
                                            br (W.pick true y false) (F_clevislaw08heads Unit () fun y => br (W.pick true y false) (some ()) none) none)
                                          none)
                                      none)
                                  (F_bound_Within Unit ((y.1, y.2.1, y.2.2.1, y.2.2.2.1, y.2.2.2.2.1, y.2.2.2.2.2), x0Umin, x0Umax, x0Smin, x0Smax, x0Bits_Value, x0Bits_Mask) fun y_3 =>
                                    br (W.pick true y_3 false)
                                      (F_bound_Within Unit ((y.1, y.2.1, y.2.2.1, y.2.2.2.1, y.2.2.2.2.1, y.2.2.2.2.2), x1Umin, x1Umax, x1Smin, x1Smax, x1Bits_Value, x1Bits_Mask) fun y =>
                                        br (W.pick true y false) (F_clevislaw08heads Unit () fun y => br (W.pick true y false) (some ()) none) none)
                                      none))))))))
          (F_clevislaw08heads Unit () fun y => br y (some ()) none)
theorem E_clevislaw08BoundMeets {F_bound_Check : FT ps_bound_Check qs_bound_Check} {F_bound_In : FT ps_bound_In qs_bound_In} {F_bound_Meet : FT ps_bound_Meet qs_bound_Meet} {F_clevislaw08heads : FT ps_clevislaw08heads qs_clevislaw08heads} {F_bound_Within : FT ps_bound_Within qs_bound_Within} {F_bound_Join : FT ps_bound_Join qs_bound_Join} (h_bound_Check : SpecOk Try.prog 10 (mkS ps_bound_Check qs_bound_Check F_bound_Check)) (h_bound_In : SpecOk Try.prog 13 (mkS ps_bound_In qs_bound_In F_bound_In)) (h_bound_Meet : SpecOk Try.prog 26 (mkS ps_bound_Meet qs_bound_Meet F_bound_Meet)) (h_clevislaw08heads : SpecOk Try.prog 11 (mkS ps_clevislaw08heads qs_clevislaw08heads F_clevislaw08heads)) (h_bound_Within : SpecOk Try.prog 18 (mkS ps_bound_Within qs_bound_Within F_bound_Within)) (h_bound_Join : SpecOk Try.prog 25 (mkS ps_bound_Join qs_bound_Join F_bound_Join)) (x : PTs.D ps_clevislaw08BoundMeets) (hL : L_clevislaw08BoundMeets F_bound_Check F_bound_In F_bound_Meet F_clevislaw08heads F_bound_Within F_bound_Join x = some ()) :
    ∃ (C : Cfg) (fl d : Nat), CfgOk C ∧ C.P = Try.prog ∧ call C fl d 7 (encL false ps_clevislaw08BoundMeets x) [] getL = some () :=
  ⟨_, 10, 12, (cfgOk_cons (cfgOk_cons (cfgOk_cons (cfgOk_cons (cfgOk_cons (cfgOk_cons base h_bound_Join) h_bound_Within) h_clevislaw08heads) h_bound_Meet) h_bound_In) h_bound_Check), rfl, (show _ = L_clevislaw08BoundMeets F_bound_Check F_bound_In F_bound_Meet F_clevislaw08heads F_bound_Within F_bound_Join x by obtain ⟨⟨x0Umin, x0Umax, x0Smin, x0Smax, ⟨x0Bits_Value, x0Bits_Mask⟩⟩, ⟨x1Umin, x1Umax, x1Smin, x1Smax, ⟨x1Bits_Value, x1Bits_Mask⟩⟩, x2⟩ := x; kernel_rfl).trans hL⟩
abbrev ps_tnum_Low : List PT := [.agg ((.prod (.int .u64) (.int .u64)))]
abbrev qs_tnum_Low : List PT := [.agg ((.prod (.int .u64) (.int .u64)))]
noncomputable def N_tnum_Low   : FT ps_tnum_Low qs_tnum_Low := fun R x k => match x with
  | (x0Value, x0Mask) => 
      k (W.wrap IntKind.u64 (W.wrap IntKind.u32 x0Value), W.wrap IntKind.u64 (W.wrap IntKind.u32 x0Mask))
theorem S_tnum_Low   : SpecOk Try.prog 51 (mkS ps_tnum_Low qs_tnum_Low (N_tnum_Low )) :=
  specOk_mk (fl := 10) (d := 12) base (by rintro R ⟨x0Value, x0Mask⟩ k; kernel_rfl)
noncomputable def F_tnum_Low : FT ps_tnum_Low qs_tnum_Low := N_tnum_Low  
theorem ok_tnum_Low : SpecOk Try.prog 51 (mkS ps_tnum_Low qs_tnum_Low F_tnum_Low) := S_tnum_Low 
abbrev ps_bound_Low : List PT := [.agg ((.prod (.int .u64) (.prod (.int .u64) (.prod (.int .i64) (.prod (.int .i64) ((.prod (.int .u64) (.int .u64))))))))]
abbrev qs_bound_Low : List PT := [.agg ((.prod (.int .u64) (.prod (.int .u64) (.prod (.int .i64) (.prod (.int .i64) ((.prod (.int .u64) (.int .u64))))))))]
noncomputable def N_bound_Low (F_bound_Tidy : FT ps_bound_Tidy qs_bound_Tidy) (F_bound_Size : FT ps_bound_Size qs_bound_Size) (F_tnum_Low : FT ps_tnum_Low qs_tnum_Low)  : FT ps_bound_Low qs_bound_Low := fun R x k => match x with
  | (x0Umin, x0Umax, x0Smin, x0Smax, (x0Bits_Value, x0Bits_Mask)) => 
      F_bound_Size R 4 fun y =>
        br (W.le x0Umax y.2.1) (k (x0Umin, x0Umax, x0Smin, x0Smax, x0Bits_Value, x0Bits_Mask))
          (F_tnum_Low R (x0Bits_Value, x0Bits_Mask) fun y_1 =>
            F_bound_Tidy R (y.1, y.2.1, y.2.2.1, y.2.2.2.1, y_1.1, y_1.2) fun y_2 =>
              br
                (W.pick y_2.2
                  (W.not
                    (W.and2 (W.eq y.1 y.1)
                      (W.and2 (W.eq y.2.1 y.2.1) (W.and2 (W.eq y.2.2.1 y.2.2.1) (W.and2 (W.eq y.2.2.2.1 y.2.2.2.1) (W.and2 (W.eq y_1.1 y.2.2.2.2.1) (W.and2 (W.eq y_1.2 y.2.2.2.2.2) true)))))))
                  false)
                (k (y_2.1.1, y_2.1.2.1, y_2.1.2.2.1, y_2.1.2.2.2.1, y_2.1.2.2.2.2.1, y_2.1.2.2.2.2.2)) (k (y.1, y.2.1, y.2.2.1, y.2.2.2.1, y.2.2.2.2.1, y.2.2.2.2.2)))
theorem S_bound_Low {F_bound_Tidy : FT ps_bound_Tidy qs_bound_Tidy} {F_bound_Size : FT ps_bound_Size qs_bound_Size} {F_tnum_Low : FT ps_tnum_Low qs_tnum_Low} (h_bound_Tidy : SpecOk Try.prog 12 (mkS ps_bound_Tidy qs_bound_Tidy F_bound_Tidy)) (h_bound_Size : SpecOk Try.prog 22 (mkS ps_bound_Size qs_bound_Size F_bound_Size)) (h_tnum_Low : SpecOk Try.prog 51 (mkS ps_tnum_Low qs_tnum_Low F_tnum_Low)) : SpecOk Try.prog 27 (mkS ps_bound_Low qs_bound_Low (N_bound_Low F_bound_Tidy F_bound_Size F_tnum_Low)) :=
  specOk_mk (fl := 10) (d := 12) (cfgOk_cons (cfgOk_cons (cfgOk_cons base h_tnum_Low) h_bound_Size) h_bound_Tidy) (by rintro R ⟨x0Umin, x0Umax, x0Smin, x0Smax, ⟨x0Bits_Value, x0Bits_Mask⟩⟩ k; kernel_rfl)
noncomputable def F_bound_Low : FT ps_bound_Low qs_bound_Low := N_bound_Low F_bound_Tidy F_bound_Size F_tnum_Low 
theorem ok_bound_Low : SpecOk Try.prog 27 (mkS ps_bound_Low qs_bound_Low F_bound_Low) := S_bound_Low ok_bound_Tidy ok_bound_Size ok_tnum_Low
abbrev ps_clevislaw08BoundLows : List PT := [.agg ((.prod (.int .u64) (.prod (.int .u64) (.prod (.int .i64) (.prod (.int .i64) ((.prod (.int .u64) (.int .u64)))))))), .one (.int .u64)]
noncomputable def L_clevislaw08BoundLows (F_bound_Check : FT ps_bound_Check qs_bound_Check) (F_bound_In : FT ps_bound_In qs_bound_In) (F_clevislaw08heads : FT ps_clevislaw08heads qs_clevislaw08heads) (F_bound_Low : FT ps_bound_Low qs_bound_Low)  (x : PTs.D ps_clevislaw08BoundLows) : Option Unit := match x with
  | ((x0Umin, x0Umax, x0Smin, x0Smax, (x0Bits_Value, x0Bits_Mask)), x1) => 
      F_bound_Check Unit (x0Umin, x0Umax, x0Smin, x0Smax, x0Bits_Value, x0Bits_Mask) fun y =>
        br (W.not (W.not y))
          (F_bound_In Unit ((x0Umin, x0Umax, x0Smin, x0Smax, x0Bits_Value, x0Bits_Mask), x1) fun y =>
            br (W.pick false true (W.not y)) (F_clevislaw08heads Unit () fun y => br y (some ()) none)
              (F_bound_Low Unit (x0Umin, x0Umax, x0Smin, x0Smax, x0Bits_Value, x0Bits_Mask) fun y =>
                F_bound_In Unit ((y.1, y.2.1, y.2.2.1, y.2.2.2.1, y.2.2.2.2.1, y.2.2.2.2.2), W.wrap IntKind.u64 (W.and IntKind.u64 x1 4294967295)) fun y_1 =>
                  br (W.pick y_1 (W.le y.2.1 4294967295) false) (F_clevislaw08heads Unit () fun y => br (W.pick true y false) (some ()) none) none))
          (F_clevislaw08heads Unit () fun y => br y (some ()) none)
theorem E_clevislaw08BoundLows {F_bound_Check : FT ps_bound_Check qs_bound_Check} {F_bound_In : FT ps_bound_In qs_bound_In} {F_clevislaw08heads : FT ps_clevislaw08heads qs_clevislaw08heads} {F_bound_Low : FT ps_bound_Low qs_bound_Low} (h_bound_Check : SpecOk Try.prog 10 (mkS ps_bound_Check qs_bound_Check F_bound_Check)) (h_bound_In : SpecOk Try.prog 13 (mkS ps_bound_In qs_bound_In F_bound_In)) (h_clevislaw08heads : SpecOk Try.prog 11 (mkS ps_clevislaw08heads qs_clevislaw08heads F_clevislaw08heads)) (h_bound_Low : SpecOk Try.prog 27 (mkS ps_bound_Low qs_bound_Low F_bound_Low)) (x : PTs.D ps_clevislaw08BoundLows) (hL : L_clevislaw08BoundLows F_bound_Check F_bound_In F_clevislaw08heads F_bound_Low x = some ()) :
    ∃ (C : Cfg) (fl d : Nat), CfgOk C ∧ C.P = Try.prog ∧ call C fl d 8 (encL false ps_clevislaw08BoundLows x) [] getL = some () :=
  ⟨_, 10, 12, (cfgOk_cons (cfgOk_cons (cfgOk_cons (cfgOk_cons base h_bound_Low) h_clevislaw08heads) h_bound_In) h_bound_Check), rfl, (show _ = L_clevislaw08BoundLows F_bound_Check F_bound_In F_clevislaw08heads F_bound_Low x by obtain ⟨⟨x0Umin, x0Umax, x0Smin, x0Smax, ⟨x0Bits_Value, x0Bits_Mask⟩⟩, x1⟩ := x; kernel_rfl).trans hL⟩
abbrev ps_clevisref08bits : List PT := [.agg ((.prod (.int .u64) (.prod (.int .u64) (.prod (.int .i64) (.prod (.int .i64) ((.prod (.int .u64) (.int .u64))))))))]
abbrev qs_clevisref08bits : List PT := [.agg ((.prod (.int .u64) (.prod (.int .u64) (.prod (.int .i64) (.prod (.int .i64) ((.prod (.int .u64) (.int .u64))))))))]
noncomputable def N_clevisref08bits   : FT ps_clevisref08bits qs_clevisref08bits := fun R x k => match x with
  | (x0Umin, x0Umax, x0Smin, x0Smax, (x0Bits_Value, x0Bits_Mask)) => 
      k
        (W.max x0Umin x0Bits_Value, W.min x0Umax (W.wrap IntKind.u64 (W.or IntKind.u64 x0Bits_Value x0Bits_Mask)),
          W.max x0Smin (W.wrap IntKind.i64 (W.wrap IntKind.u64 (W.or IntKind.u64 x0Bits_Value (W.wrap IntKind.u64 (W.and IntKind.u64 x0Bits_Mask 9223372036854775808))))),
          W.min x0Smax (W.wrap IntKind.i64 (W.wrap IntKind.u64 (W.or IntKind.u64 x0Bits_Value (W.wrap IntKind.u64 (W.and IntKind.u64 x0Bits_Mask 9223372036854775807))))), x0Bits_Value, x0Bits_Mask)
theorem S_clevisref08bits   : SpecOk Try.prog 52 (mkS ps_clevisref08bits qs_clevisref08bits (N_clevisref08bits )) :=
  specOk_mk (fl := 10) (d := 12) base (by rintro R ⟨x0Umin, x0Umax, x0Smin, x0Smax, ⟨x0Bits_Value, x0Bits_Mask⟩⟩ k; kernel_rfl)
noncomputable def F_clevisref08bits : FT ps_clevisref08bits qs_clevisref08bits := N_clevisref08bits  
theorem ok_clevisref08bits : SpecOk Try.prog 52 (mkS ps_clevisref08bits qs_clevisref08bits F_clevisref08bits) := S_clevisref08bits 
abbrev ps_clevisref08signs : List PT := [.agg ((.prod (.int .u64) (.prod (.int .u64) (.prod (.int .i64) (.prod (.int .i64) ((.prod (.int .u64) (.int .u64))))))))]
abbrev qs_clevisref08signs : List PT := [.agg ((.prod (.int .u64) (.prod (.int .u64) (.prod (.int .i64) (.prod (.int .i64) ((.prod (.int .u64) (.int .u64))))))))]
noncomputable def N_clevisref08signs   : FT ps_clevisref08signs qs_clevisref08signs := fun R x k => match x with
  | (x0Umin, x0Umax, x0Smin, x0Smax, (x0Bits_Value, x0Bits_Mask)) => 
      br (W.pick (W.ge x0Smin 0) true (W.lt x0Smax 0))
        (k
          (W.max x0Umin (W.wrap IntKind.u64 x0Smin), W.min x0Umax (W.wrap IntKind.u64 x0Smax), W.wrap IntKind.i64 (W.max x0Umin (W.wrap IntKind.u64 x0Smin)),
            W.wrap IntKind.i64 (W.min x0Umax (W.wrap IntKind.u64 x0Smax)), x0Bits_Value, x0Bits_Mask))
        (br (W.ge (W.wrap IntKind.i64 x0Umax) 0)
          (k (x0Umin, W.wrap IntKind.u64 (W.min x0Smax (W.wrap IntKind.i64 x0Umax)), W.wrap IntKind.i64 x0Umin, W.min x0Smax (W.wrap IntKind.i64 x0Umax), x0Bits_Value, x0Bits_Mask))
          (br (W.lt (W.wrap IntKind.i64 x0Umin) 0)
            (k (W.wrap IntKind.u64 (W.max x0Smin (W.wrap IntKind.i64 x0Umin)), x0Umax, W.max x0Smin (W.wrap IntKind.i64 x0Umin), W.wrap IntKind.i64 x0Umax, x0Bits_Value, x0Bits_Mask))
            (k (x0Umin, x0Umax, x0Smin, x0Smax, x0Bits_Value, x0Bits_Mask))))
theorem S_clevisref08signs   : SpecOk Try.prog 53 (mkS ps_clevisref08signs qs_clevisref08signs (N_clevisref08signs )) :=
  specOk_mk (fl := 10) (d := 12) base (by rintro R ⟨x0Umin, x0Umax, x0Smin, x0Smax, ⟨x0Bits_Value, x0Bits_Mask⟩⟩ k; kernel_rfl)
noncomputable def F_clevisref08signs : FT ps_clevisref08signs qs_clevisref08signs := N_clevisref08signs  
theorem ok_clevisref08signs : SpecOk Try.prog 53 (mkS ps_clevisref08signs qs_clevisref08signs F_clevisref08signs) := S_clevisref08signs 
abbrev ps_clevisref07of : List PT := [.one (.int .u64), .one (.int .u64)]
abbrev qs_clevisref07of : List PT := [.agg ((.prod (.int .u64) (.int .u64)))]
noncomputable def N_clevisref07of   : FT ps_clevisref07of qs_clevisref07of := fun R x k => match x with
  | (x0, x1) => 
      k (W.wrap IntKind.u64 (W.andNot IntKind.u64 x0 x1), x1)
theorem S_clevisref07of   : SpecOk Try.prog 61 (mkS ps_clevisref07of qs_clevisref07of (N_clevisref07of )) :=
  specOk_mk (fl := 10) (d := 12) base (by rintro R ⟨x0, x1⟩ k; kernel_rfl)
noncomputable def F_clevisref07of : FT ps_clevisref07of qs_clevisref07of := N_clevisref07of  
theorem ok_clevisref07of : SpecOk Try.prog 61 (mkS ps_clevisref07of qs_clevisref07of F_clevisref07of) := S_clevisref07of 
abbrev ps_clevisref07Meet : List PT := [.agg ((.prod (.int .u64) (.int .u64))), .agg ((.prod (.int .u64) (.int .u64)))]
abbrev qs_clevisref07Meet : List PT := [.agg ((.prod (.int .u64) (.int .u64))), .one (.bool)]
noncomputable def N_clevisref07Meet (F_clevisref07of : FT ps_clevisref07of qs_clevisref07of)  : FT ps_clevisref07Meet qs_clevisref07Meet := fun R x k => match x with
  | ((x0Value, x0Mask), (x1Value, x1Mask)) => 
      F_clevisref07of R (W.wrap IntKind.u64 (W.or IntKind.u64 x0Value x1Value), W.wrap IntKind.u64 (W.and IntKind.u64 x0Mask x1Mask)) fun y =>
        k ((y.1, y.2), W.eq (W.wrap IntKind.u64 (W.andNot IntKind.u64 (W.wrap IntKind.u64 (W.xor IntKind.u64 x0Value x1Value)) (W.wrap IntKind.u64 (W.or IntKind.u64 x0Mask x1Mask)))) 0)
theorem S_clevisref07Meet {F_clevisref07of : FT ps_clevisref07of qs_clevisref07of} (h_clevisref07of : SpecOk Try.prog 61 (mkS ps_clevisref07of qs_clevisref07of F_clevisref07of)) : SpecOk Try.prog 54 (mkS ps_clevisref07Meet qs_clevisref07Meet (N_clevisref07Meet F_clevisref07of)) :=
  specOk_mk (fl := 10) (d := 12) (cfgOk_cons base h_clevisref07of) (by rintro R ⟨⟨x0Value, x0Mask⟩, ⟨x1Value, x1Mask⟩⟩ k; kernel_rfl)
noncomputable def F_clevisref07Meet : FT ps_clevisref07Meet qs_clevisref07Meet := N_clevisref07Meet F_clevisref07of 
theorem ok_clevisref07Meet : SpecOk Try.prog 54 (mkS ps_clevisref07Meet qs_clevisref07Meet F_clevisref07Meet) := S_clevisref07Meet ok_clevisref07of
abbrev ps_clevisref07Range : List PT := [.one (.int .u64), .one (.int .u64)]
abbrev qs_clevisref07Range : List PT := [.agg ((.prod (.int .u64) (.int .u64)))]
noncomputable def P_clevisref07Range_3_0  (fl : Nat)  (n : Nat) (R : Type) (y0 : Int) (y1 : Int) (y2 : Int) (y3 : Int) (y4 : Int) (k : PTs.D qs_clevisref07Range → Option R) : Option R :=
  callFrom (Cw Try.prog [] noH) fl 11 0 55 3 n [] (some (
      S.mk
        [V.int IntKind.u64 y0, V.any, V.any, V.any, V.ptr 0 0, V.int IntKind.u64 y1, V.int IntKind.u64 y2, V.any, V.any, V.any, V.any, V.any, V.any, V.any, V.any, V.any, V.any, V.any, V.any, V.any, V.any,
          V.any]
        [] [Blk.cells [V.int IntKind.u64 y3, V.int IntKind.u64 y4]])) (getR qs_clevisref07Range k)
theorem P_clevisref07Range_3_0_s  (fl : Nat)  (n : Nat) (R : Type) (y0 : Int) (y1 : Int) (y2 : Int) (y3 : Int) (y4 : Int) (k : PTs.D qs_clevisref07Range → Option R) : P_clevisref07Range_3_0  fl  (n + 1) R y0 y1 y2 y3 y4 k =
      br (W.ne y1 0) (P_clevisref07Range_3_0 fl n R y0 (W.wrap IntKind.u64 (W.quo y1 2)) (W.wrap IntKind.u64 (W.add (W.wrap IntKind.u64 (W.mul y2 2)) 1)) y3 y4 k) (k (W.wrap IntKind.u64 (W.andNot IntKind.u64 y0 y2), y2)) := by kernel_rfl
noncomputable def N_clevisref07Range  (fl : Nat) : FT ps_clevisref07Range qs_clevisref07Range := fun R x k => match x with
  | (x0, x1) => 
      P_clevisref07Range_3_0 fl fl R x0 (W.wrap IntKind.u64 (W.xor IntKind.u64 x0 x1)) 0 0 0 k
theorem Q_clevisref07Range  (fl : Nat) (R : Type) (x : PTs.D ps_clevisref07Range) (k : PTs.D qs_clevisref07Range → Option R) : call (Cw Try.prog [] noH) fl 12 55 (encL true ps_clevisref07Range x) [] (getR qs_clevisref07Range k) = N_clevisref07Range  fl R x k := by
  obtain ⟨x0, x1⟩ := x; kernel_rfl
theorem S_clevisref07Range   : SpecOk Try.prog 55 (mkS ps_clevisref07Range qs_clevisref07Range (N_clevisref07Range  W.big)) :=
  specOk_mk (fl := W.big) (d := 12) base (fun R x k => Q_clevisref07Range W.big R x k)
noncomputable def F_clevisref07Range : FT ps_clevisref07Range qs_clevisref07Range := N_clevisref07Range  W.big
theorem ok_clevisref07Range : SpecOk Try.prog 55 (mkS ps_clevisref07Range qs_clevisref07Range F_clevisref07Range) := S_clevisref07Range 
abbrev ps_clevisref08Tidy : List PT := [.agg ((.prod (.int .u64) (.prod (.int .u64) (.prod (.int .i64) (.prod (.int .i64) ((.prod (.int .u64) (.int .u64))))))))]
abbrev qs_clevisref08Tidy : List PT := [.agg ((.prod (.int .u64) (.prod (.int .u64) (.prod (.int .i64) (.prod (.int .i64) ((.prod (.int .u64) (.int .u64)))))))), .one (.bool)]
noncomputable def P_clevisref08Tidy_2_0 (F_clevisref08bits : FT ps_clevisref08bits qs_clevisref08bits) (F_clevisref08signs : FT ps_clevisref08signs qs_clevisref08signs) (F_clevisref07Meet : FT ps_clevisref07Meet qs_clevisref07Meet) (F_clevisref07Range : FT ps_clevisref07Range qs_clevisref07Range) (fl : Nat)  (n : Nat) (R : Type) (y0 : Int) (y1 : Int) (y2 : Int) (y3 : Int) (y4 : Int) (y5 : Int) (y6 : Int) (y7 : Int) (y8 : Int) (y9 : Int) (y10 : Int) (y11 : Int) (y12 : Int) (k : PTs.D qs_clevisref08Tidy → Option R) : Option R :=
  callFrom (Cw Try.prog [(52, mkS ps_clevisref08bits qs_clevisref08bits F_clevisref08bits), (53, mkS ps_clevisref08signs qs_clevisref08signs F_clevisref08signs), (54, mkS ps_clevisref07Meet qs_clevisref07Meet F_clevisref07Meet), (55, mkS ps_clevisref07Range qs_clevisref07Range F_clevisref07Range)] noH) fl 11 0 28 2 n [] (some (
      S.mk
        [V.any, V.ptr 0 0, V.ptr 1 0, V.any, V.int IntKind.i64 y0, V.any, V.any, V.any, V.any, V.any, V.any, V.any, V.any, V.any, V.any, V.any, V.any, V.any, V.any, V.any, V.any, V.any, V.any, V.any, V.any,
          V.any, V.any, V.any, V.any, V.any, V.any, V.any, V.any, V.any, V.any, V.any, V.any, V.any, V.any, V.any, V.any, V.any, V.any, V.any, V.any, V.any, V.any, V.any, V.any, V.any, V.any, V.any, V.any,
          V.any, V.any, V.any, V.any, V.any, V.any]
        []
        [Blk.cells [V.int IntKind.u64 y1, V.int IntKind.u64 y2, V.int IntKind.i64 y3, V.int IntKind.i64 y4, V.int IntKind.u64 y5, V.int IntKind.u64 y6],
          Blk.cells [V.int IntKind.u64 y7, V.int IntKind.u64 y8, V.int IntKind.i64 y9, V.int IntKind.i64 y10, V.int IntKind.u64 y11, V.int IntKind.u64 y12]])) (getR qs_clevisref08Tidy k)
theorem P_clevisref08Tidy_2_0_s {F_clevisref08bits : FT ps_clevisref08bits qs_clevisref08bits} {F_clevisref08signs : FT ps_clevisref08signs qs_clevisref08signs} {F_clevisref07Meet : FT ps_clevisref07Meet qs_clevisref07Meet} {F_clevisref07Range : FT ps_clevisref07Range qs_clevisref07Range} (fl : Nat)  (n : Nat) (R : Type) (y0 : Int) (y1 : Int) (y2 : Int) (y3 : Int) (y4 : Int) (y5 : Int) (y6 : Int) (y7 : Int) (y8 : Int) (y9 : Int) (y10 : Int) (y11 : Int) (y12 : Int) (k : PTs.D qs_clevisref08Tidy → Option R) : P_clevisref08Tidy_2_0 F_clevisref08bits F_clevisref08signs F_clevisref07Meet F_clevisref07Range fl  (n + 1) R y0 y1 y2 y3 y4 y5 y6 y7 y8 y9 y10 y11 y12 k =
      br (W.lt y0 2)
        (F_clevisref08bits R (y1, y2, y3, y4, y5, y6) fun y =>
          br (W.pick (W.gt y.1 y.2.1) true (W.gt y.2.2.1 y.2.2.2.1)) (k ((0, 0, 0, 0, 0, 0), false))
            (F_clevisref08signs R (y.1, y.2.1, y.2.2.1, y.2.2.2.1, y.2.2.2.2.1, y.2.2.2.2.2) fun y =>
              F_clevisref07Range R (y.1, y.2.1) fun y_1 =>
                F_clevisref07Meet R ((y.2.2.2.2.1, y.2.2.2.2.2), y_1.1, y_1.2) fun y_2 =>
                  br (W.pick (W.pick (W.not y_2.2) true (W.gt y.1 y.2.1)) true (W.gt y.2.2.1 y.2.2.2.1)) (k ((0, 0, 0, 0, 0, 0), false))
                    (P_clevisref08Tidy_2_0 F_clevisref08bits F_clevisref08signs F_clevisref07Meet F_clevisref07Range fl n R (W.wrap IntKind.i64 (W.add y0 1)) y.1 y.2.1 y.2.2.1 y.2.2.2.1 y_2.1.1 y_2.1.2 y7 y8 y9 y10
                      y11 y12 k)))
        (k ((y1, y2, y3, y4, y5, y6), true)) := by kernel_rfl
noncomputable def N_clevisref08Tidy (F_clevisref08bits : FT ps_clevisref08bits qs_clevisref08bits) (F_clevisref08signs : FT ps_clevisref08signs qs_clevisref08signs) (F_clevisref07Meet : FT ps_clevisref07Meet qs_clevisref07Meet) (F_clevisref07Range : FT ps_clevisref07Range qs_clevisref07Range) (fl : Nat) : FT ps_clevisref08Tidy qs_clevisref08Tidy := fun R x k => match x with
  | (x0Umin, x0Umax, x0Smin, x0Smax, (x0Bits_Value, x0Bits_Mask)) => 
      P_clevisref08Tidy_2_0 F_clevisref08bits F_clevisref08signs F_clevisref07Meet F_clevisref07Range fl fl R 0 x0Umin x0Umax x0Smin x0Smax x0Bits_Value x0Bits_Mask 0 0 0 0 0 0 k
theorem Q_clevisref08Tidy {F_clevisref08bits : FT ps_clevisref08bits qs_clevisref08bits} {F_clevisref08signs : FT ps_clevisref08signs qs_clevisref08signs} {F_clevisref07Meet : FT ps_clevisref07Meet qs_clevisref07Meet} {F_clevisref07Range : FT ps_clevisref07Range qs_clevisref07Range} (fl : Nat) (R : Type) (x : PTs.D ps_clevisref08Tidy) (k : PTs.D qs_clevisref08Tidy → Option R) : call (Cw Try.prog [(52, mkS ps_clevisref08bits qs_clevisref08bits F_clevisref08bits), (53, mkS ps_clevisref08signs qs_clevisref08signs F_clevisref08signs), (54, mkS ps_clevisref07Meet qs_clevisref07Meet F_clevisref07Meet), (55, mkS ps_clevisref07Range qs_clevisref07Range F_clevisref07Range)] noH) fl 12 28 (encL true ps_clevisref08Tidy x) [] (getR qs_clevisref08Tidy k) = N_clevisref08Tidy F_clevisref08bits F_clevisref08signs F_clevisref07Meet F_clevisref07Range fl R x k := by
  obtain ⟨x0Umin, x0Umax, x0Smin, x0Smax, ⟨x0Bits_Value, x0Bits_Mask⟩⟩ := x; kernel_rfl
theorem S_clevisref08Tidy {F_clevisref08bits : FT ps_clevisref08bits qs_clevisref08bits} {F_clevisref08signs : FT ps_clevisref08signs qs_clevisref08signs} {F_clevisref07Meet : FT ps_clevisref07Meet qs_clevisref07Meet} {F_clevisref07Range : FT ps_clevisref07Range qs_clevisref07Range} (h_clevisref08bits : SpecOk Try.prog 52 (mkS ps_clevisref08bits qs_clevisref08bits F_clevisref08bits)) (h_clevisref08signs : SpecOk Try.prog 53 (mkS ps_clevisref08signs qs_clevisref08signs F_clevisref08signs)) (h_clevisref07Meet : SpecOk Try.prog 54 (mkS ps_clevisref07Meet qs_clevisref07Meet F_clevisref07Meet)) (h_clevisref07Range : SpecOk Try.prog 55 (mkS ps_clevisref07Range qs_clevisref07Range F_clevisref07Range)) : SpecOk Try.prog 28 (mkS ps_clevisref08Tidy qs_clevisref08Tidy (N_clevisref08Tidy F_clevisref08bits F_clevisref08signs F_clevisref07Meet F_clevisref07Range W.big)) :=
  specOk_mk (fl := W.big) (d := 12) (cfgOk_cons (cfgOk_cons (cfgOk_cons (cfgOk_cons base h_clevisref07Range) h_clevisref07Meet) h_clevisref08signs) h_clevisref08bits) (fun R x k => Q_clevisref08Tidy W.big R x k)
noncomputable def F_clevisref08Tidy : FT ps_clevisref08Tidy qs_clevisref08Tidy := N_clevisref08Tidy F_clevisref08bits F_clevisref08signs F_clevisref07Meet F_clevisref07Range W.big
theorem ok_clevisref08Tidy : SpecOk Try.prog 28 (mkS ps_clevisref08Tidy qs_clevisref08Tidy F_clevisref08Tidy) := S_clevisref08Tidy ok_clevisref08bits ok_clevisref08signs ok_clevisref07Meet ok_clevisref07Range
abbrev ps_clevisref08Meet : List PT := [.agg ((.prod (.int .u64) (.prod (.int .u64) (.prod (.int .i64) (.prod (.int .i64) ((.prod (.int .u64) (.int .u64)))))))), .agg ((.prod (.int .u64) (.prod (.int .u64) (.prod (.int .i64) (.prod (.int .i64) ((.prod (.int .u64) (.int .u64))))))))]
abbrev qs_clevisref08Meet : List PT := [.agg ((.prod (.int .u64) (.prod (.int .u64) (.prod (.int .i64) (.prod (.int .i64) ((.prod (.int .u64) (.int .u64)))))))), .one (.bool)]
noncomputable def N_clevisref08Meet (F_clevisref07Meet : FT ps_clevisref07Meet qs_clevisref07Meet) (F_clevisref08Tidy : FT ps_clevisref08Tidy qs_clevisref08Tidy)  : FT ps_clevisref08Meet qs_clevisref08Meet := fun R x k => match x with
  | ((x0Umin, x0Umax, x0Smin, x0Smax, (x0Bits_Value, x0Bits_Mask)), (x1Umin, x1Umax, x1Smin, x1Smax, (x1Bits_Value, x1Bits_Mask))) => 
      F_clevisref07Meet R ((x0Bits_Value, x0Bits_Mask), x1Bits_Value, x1Bits_Mask) fun y =>
        br (W.not y.2) (k ((0, 0, 0, 0, 0, 0), false))
          (F_clevisref08Tidy R (W.max x0Umin x1Umin, W.min x0Umax x1Umax, W.max x0Smin x1Smin, W.min x0Smax x1Smax, y.1.1, y.1.2) fun y =>
            k ((y.1.1, y.1.2.1, y.1.2.2.1, y.1.2.2.2.1, y.1.2.2.2.2.1, y.1.2.2.2.2.2), y.2))
theorem S_clevisref08Meet {F_clevisref07Meet : FT ps_clevisref07Meet qs_clevisref07Meet} {F_clevisref08Tidy : FT ps_clevisref08Tidy qs_clevisref08Tidy} (h_clevisref07Meet : SpecOk Try.prog 54 (mkS ps_clevisref07Meet qs_clevisref07Meet F_clevisref07Meet)) (h_clevisref08Tidy : SpecOk Try.prog 28 (mkS ps_clevisref08Tidy qs_clevisref08Tidy F_clevisref08Tidy)) : SpecOk Try.prog 29 (mkS ps_clevisref08Meet qs_clevisref08Meet (N_clevisref08Meet F_clevisref07Meet F_clevisref08Tidy)) :=
  specOk_mk (fl := 10) (d := 12) (cfgOk_cons (cfgOk_cons base h_clevisref08Tidy) h_clevisref07Meet) (by rintro R ⟨⟨x0Umin, x0Umax, x0Smin, x0Smax, ⟨x0Bits_Value, x0Bits_Mask⟩⟩, ⟨x1Umin, x1Umax, x1Smin, x1Smax, ⟨x1Bits_Value, x1Bits_Mask⟩⟩⟩ k; kernel_rfl)
noncomputable def F_clevisref08Meet : FT ps_clevisref08Meet qs_clevisref08Meet := N_clevisref08Meet F_clevisref07Meet F_clevisref08Tidy 
theorem ok_clevisref08Meet : SpecOk Try.prog 29 (mkS ps_clevisref08Meet qs_clevisref08Meet F_clevisref08Meet) := S_clevisref08Meet ok_clevisref07Meet ok_clevisref08Tidy
abbrev ps_clevisref07Join : List PT := [.agg ((.prod (.int .u64) (.int .u64))), .agg ((.prod (.int .u64) (.int .u64)))]
abbrev qs_clevisref07Join : List PT := [.agg ((.prod (.int .u64) (.int .u64)))]
noncomputable def N_clevisref07Join (F_clevisref07of : FT ps_clevisref07of qs_clevisref07of)  : FT ps_clevisref07Join qs_clevisref07Join := fun R x k => match x with
  | ((x0Value, x0Mask), (x1Value, x1Mask)) => 
      F_clevisref07of R
        (W.wrap IntKind.u64 (W.and IntKind.u64 x0Value x1Value),
          W.wrap IntKind.u64 (W.or IntKind.u64 (W.wrap IntKind.u64 (W.or IntKind.u64 x0Mask x1Mask)) (W.wrap IntKind.u64 (W.xor IntKind.u64 x0Value x1Value))))
        fun y => k (y.1, y.2)
theorem S_clevisref07Join {F_clevisref07of : FT ps_clevisref07of qs_clevisref07of} (h_clevisref07of : SpecOk Try.prog 61 (mkS ps_clevisref07of qs_clevisref07of F_clevisref07of)) : SpecOk Try.prog 56 (mkS ps_clevisref07Join qs_clevisref07Join (N_clevisref07Join F_clevisref07of)) :=
  specOk_mk (fl := 10) (d := 12) (cfgOk_cons base h_clevisref07of) (by rintro R ⟨⟨x0Value, x0Mask⟩, ⟨x1Value, x1Mask⟩⟩ k; kernel_rfl)
noncomputable def F_clevisref07Join : FT ps_clevisref07Join qs_clevisref07Join := N_clevisref07Join F_clevisref07of 
theorem ok_clevisref07Join : SpecOk Try.prog 56 (mkS ps_clevisref07Join qs_clevisref07Join F_clevisref07Join) := S_clevisref07Join ok_clevisref07of
abbrev ps_clevisref08Join : List PT := [.agg ((.prod (.int .u64) (.prod (.int .u64) (.prod (.int .i64) (.prod (.int .i64) ((.prod (.int .u64) (.int .u64)))))))), .agg ((.prod (.int .u64) (.prod (.int .u64) (.prod (.int .i64) (.prod (.int .i64) ((.prod (.int .u64) (.int .u64))))))))]
abbrev qs_clevisref08Join : List PT := [.agg ((.prod (.int .u64) (.prod (.int .u64) (.prod (.int .i64) (.prod (.int .i64) ((.prod (.int .u64) (.int .u64))))))))]
noncomputable def N_clevisref08Join (F_clevisref07Join : FT ps_clevisref07Join qs_clevisref07Join)  : FT ps_clevisref08Join qs_clevisref08Join := fun R x k => match x with
  | ((x0Umin, x0Umax, x0Smin, x0Smax, (x0Bits_Value, x0Bits_Mask)), (x1Umin, x1Umax, x1Smin, x1Smax, (x1Bits_Value, x1Bits_Mask))) => 
      F_clevisref07Join R ((x0Bits_Value, x0Bits_Mask), x1Bits_Value, x1Bits_Mask) fun y => k (W.min x0Umin x1Umin, W.max x0Umax x1Umax, W.min x0Smin x1Smin, W.max x0Smax x1Smax, y.1, y.2)
theorem S_clevisref08Join {F_clevisref07Join : FT ps_clevisref07Join qs_clevisref07Join} (h_clevisref07Join : SpecOk Try.prog 56 (mkS ps_clevisref07Join qs_clevisref07Join F_clevisref07Join)) : SpecOk Try.prog 30 (mkS ps_clevisref08Join qs_clevisref08Join (N_clevisref08Join F_clevisref07Join)) :=
  specOk_mk (fl := 10) (d := 12) (cfgOk_cons base h_clevisref07Join) (by rintro R ⟨⟨x0Umin, x0Umax, x0Smin, x0Smax, ⟨x0Bits_Value, x0Bits_Mask⟩⟩, ⟨x1Umin, x1Umax, x1Smin, x1Smax, ⟨x1Bits_Value, x1Bits_Mask⟩⟩⟩ k; kernel_rfl)
noncomputable def F_clevisref08Join : FT ps_clevisref08Join qs_clevisref08Join := N_clevisref08Join F_clevisref07Join 
theorem ok_clevisref08Join : SpecOk Try.prog 30 (mkS ps_clevisref08Join qs_clevisref08Join F_clevisref08Join) := S_clevisref08Join ok_clevisref07Join
abbrev ps_clevisref07Low : List PT := [.agg ((.prod (.int .u64) (.int .u64)))]
abbrev qs_clevisref07Low : List PT := [.agg ((.prod (.int .u64) (.int .u64)))]
noncomputable def N_clevisref07Low   : FT ps_clevisref07Low qs_clevisref07Low := fun R x k => match x with
  | (x0Value, x0Mask) => 
      k (W.wrap IntKind.u64 (W.and IntKind.u64 x0Value 4294967295), W.wrap IntKind.u64 (W.and IntKind.u64 x0Mask 4294967295))
theorem S_clevisref07Low   : SpecOk Try.prog 57 (mkS ps_clevisref07Low qs_clevisref07Low (N_clevisref07Low )) :=
  specOk_mk (fl := 10) (d := 12) base (by rintro R ⟨x0Value, x0Mask⟩ k; kernel_rfl)
noncomputable def F_clevisref07Low : FT ps_clevisref07Low qs_clevisref07Low := N_clevisref07Low  
theorem ok_clevisref07Low : SpecOk Try.prog 57 (mkS ps_clevisref07Low qs_clevisref07Low F_clevisref07Low) := S_clevisref07Low 
abbrev ps_clevisref08Low : List PT := [.agg ((.prod (.int .u64) (.prod (.int .u64) (.prod (.int .i64) (.prod (.int .i64) ((.prod (.int .u64) (.int .u64))))))))]
abbrev qs_clevisref08Low : List PT := [.agg ((.prod (.int .u64) (.prod (.int .u64) (.prod (.int .i64) (.prod (.int .i64) ((.prod (.int .u64) (.int .u64))))))))]
noncomputable def N_clevisref08Low (F_clevisref08upto : FT ps_clevisref08upto qs_clevisref08upto) (F_clevisref08Size : FT ps_clevisref08Size qs_clevisref08Size) (F_clevisref08Tidy : FT ps_clevisref08Tidy qs_clevisref08Tidy) (F_clevisref07Low : FT ps_clevisref07Low qs_clevisref07Low)  : FT ps_clevisref08Low qs_clevisref08Low := fun R x k => match x with
  | (x0Umin, x0Umax, x0Smin, x0Smax, (x0Bits_Value, x0Bits_Mask)) => 
      br (W.le x0Umax 4294967295) (k (x0Umin, x0Umax, x0Smin, x0Smax, x0Bits_Value, x0Bits_Mask))
        (F_clevisref08upto R 4294967295 fun y =>
          F_clevisref07Low R (x0Bits_Value, x0Bits_Mask) fun y_1 =>
            F_clevisref08Tidy R (y.1, y.2.1, y.2.2.1, y.2.2.2.1, y_1.1, y_1.2) fun y =>
              br (W.not y.2) (F_clevisref08Size R 4 fun y => k (y.1, y.2.1, y.2.2.1, y.2.2.2.1, y.2.2.2.2.1, y.2.2.2.2.2)) (k (y.1.1, y.1.2.1, y.1.2.2.1, y.1.2.2.2.1, y.1.2.2.2.2.1, y.1.2.2.2.2.2)))
theorem S_clevisref08Low {F_clevisref08upto : FT ps_clevisref08upto qs_clevisref08upto} {F_clevisref08Size : FT ps_clevisref08Size qs_clevisref08Size} {F_clevisref08Tidy : FT ps_clevisref08Tidy qs_clevisref08Tidy} {F_clevisref07Low : FT ps_clevisref07Low qs_clevisref07Low} (h_clevisref08upto : SpecOk Try.prog 48 (mkS ps_clevisref08upto qs_clevisref08upto F_clevisref08upto)) (h_clevisref08Size : SpecOk Try.prog 23 (mkS ps_clevisref08Size qs_clevisref08Size F_clevisref08Size)) (h_clevisref08Tidy : SpecOk Try.prog 28 (mkS ps_clevisref08Tidy qs_clevisref08Tidy F_clevisref08Tidy)) (h_clevisref07Low : SpecOk Try.prog 57 (mkS ps_clevisref07Low qs_clevisref07Low F_clevisref07Low)) : SpecOk Try.prog 31 (mkS ps_clevisref08Low qs_clevisref08Low (N_clevisref08Low F_clevisref08upto F_clevisref08Size F_clevisref08Tidy F_clevisref07Low)) :=
  specOk_mk (fl := 10) (d := 12) (cfgOk_cons (cfgOk_cons (cfgOk_cons (cfgOk_cons base h_clevisref07Low) h_clevisref08Tidy) h_clevisref08Size) h_clevisref08upto) (by rintro R ⟨x0Umin, x0Umax, x0Smin, x0Smax, ⟨x0Bits_Value, x0Bits_Mask⟩⟩ k; kernel_rfl)
noncomputable def F_clevisref08Low : FT ps_clevisref08Low qs_clevisref08Low := N_clevisref08Low F_clevisref08upto F_clevisref08Size F_clevisref08Tidy F_clevisref07Low 
theorem ok_clevisref08Low : SpecOk Try.prog 31 (mkS ps_clevisref08Low qs_clevisref08Low F_clevisref08Low) := S_clevisref08Low ok_clevisref08upto ok_clevisref08Size ok_clevisref08Tidy ok_clevisref07Low
abbrev ps_clevislaw08BoundMoves : List PT := [.agg ((.prod (.int .u64) (.prod (.int .u64) (.prod (.int .i64) (.prod (.int .i64) ((.prod (.int .u64) (.int .u64)))))))), .agg ((.prod (.int .u64) (.prod (.int .u64) (.prod (.int .i64) (.prod (.int .i64) ((.prod (.int .u64) (.int .u64))))))))]
noncomputable def L_clevislaw08BoundMoves (F_bound_Tidy : FT ps_bound_Tidy qs_bound_Tidy) (F_bound_Meet : FT ps_bound_Meet qs_bound_Meet) (F_clevislaw08heads : FT ps_clevislaw08heads qs_clevislaw08heads) (F_bound_Join : FT ps_bound_Join qs_bound_Join) (F_bound_Low : FT ps_bound_Low qs_bound_Low) (F_clevisref08Tidy : FT ps_clevisref08Tidy qs_clevisref08Tidy) (F_clevisref08Meet : FT ps_clevisref08Meet qs_clevisref08Meet) (F_clevisref08Join : FT ps_clevisref08Join qs_clevisref08Join) (F_clevisref08Low : FT ps_clevisref08Low qs_clevisref08Low)  (x : PTs.D ps_clevislaw08BoundMoves) : Option Unit := match x with
  | ((x0Umin, x0Umax, x0Smin, x0Smax, (x0Bits_Value, x0Bits_Mask)), (x1Umin, x1Umax, x1Smin, x1Smax, (x1Bits_Value, x1Bits_Mask))) => 
      F_bound_Tidy Unit (x0Umin, x0Umax, x0Smin, x0Smax, x0Bits_Value, x0Bits_Mask) fun y =>
        F_clevisref08Tidy Unit (x0Umin, x0Umax, x0Smin, x0Smax, x0Bits_Value, x0Bits_Mask) fun y_1 =>
          F_bound_Meet Unit ((x0Umin, x0Umax, x0Smin, x0Smax, x0Bits_Value, x0Bits_Mask), x1Umin, x1Umax, x1Smin, x1Smax, x1Bits_Value, x1Bits_Mask) fun y_2 =>
            F_clevisref08Meet Unit ((x0Umin, x0Umax, x0Smin, x0Smax, x0Bits_Value, x0Bits_Mask), x1Umin, x1Umax, x1Smin, x1Smax, x1Bits_Value, x1Bits_Mask) fun y_3 =>
              br
                (W.pick
                  (W.pick
                    (W.pick
                      (W.and2 (W.eq y.1.1 y_1.1.1)
                        (W.and2 (W.eq y.1.2.1 y_1.1.2.1)
                          (W.and2 (W.eq y.1.2.2.1 y_1.1.2.2.1) (W.and2 (W.eq y.1.2.2.2.1 y_1.1.2.2.2.1) (W.and2 (W.eq y.1.2.2.2.2.1 y_1.1.2.2.2.2.1) (W.and2 (W.eq y.1.2.2.2.2.2 y_1.1.2.2.2.2.2) true))))))
                      (W.eqB y.2 y_1.2) false)
                    (W.and2 (W.eq y_2.1.1 y_3.1.1)
                      (W.and2 (W.eq y_2.1.2.1 y_3.1.2.1)
                        (W.and2 (W.eq y_2.1.2.2.1 y_3.1.2.2.1)
                          (W.and2 (W.eq y_2.1.2.2.2.1 y_3.1.2.2.2.1) (W.and2 (W.eq y_2.1.2.2.2.2.1 y_3.1.2.2.2.2.1) (W.and2 (W.eq y_2.1.2.2.2.2.2 y_3.1.2.2.2.2.2) true))))))
                    false)
                  (W.eqB y_2.2 y_3.2) false)
                (F_bound_Join Unit ((x0Umin, x0Umax, x0Smin, x0Smax, x0Bits_Value, x0Bits_Mask), x1Umin, x1Umax, x1Smin, x1Smax, x1Bits_Value, x1Bits_Mask) fun y =>
                  F_clevisref08Join Unit ((x0Umin, x0Umax, x0Smin, x0Smax, x0Bits_Value, x0Bits_Mask), x1Umin, x1Umax, x1Smin, x1Smax, x1Bits_Value, x1Bits_Mask) fun y_4 =>
                    br
                      (W.pick true
                        (W.and2 (W.eq y.1 y_4.1)
                          (W.and2 (W.eq y.2.1 y_4.2.1)
                            (W.and2 (W.eq y.2.2.1 y_4.2.2.1) (W.and2 (W.eq y.2.2.2.1 y_4.2.2.2.1) (W.and2 (W.eq y.2.2.2.2.1 y_4.2.2.2.2.1) (W.and2 (W.eq y.2.2.2.2.2 y_4.2.2.2.2.2) true))))))
                        false)
                      (F_bound_Low Unit (x0Umin, x0Umax, x0Smin, x0Smax, x0Bits_Value, x0Bits_Mask) fun y =>
                        F_clevisref08Low Unit (x0Umin, x0Umax, x0Smin, x0Smax, x0Bits_Value, x0Bits_Mask) fun y_5 =>
                          br
                            (W.pick true
                              (W.and2 (W.eq y.1 y_5.1)
                                (W.and2 (W.eq y.2.1 y_5.2.1)
                                  (W.and2 (W.eq y.2.2.1 y_5.2.2.1) (W.and2 (W.eq y.2.2.2.1 y_5.2.2.2.1) (W.and2 (W.eq y.2.2.2.2.1 y_5.2.2.2.2.1) (W.and2 (W.eq y.2.2.2.2.2 y_5.2.2.2.2.2) true))))))
                              false)
                            (F_clevislaw08heads Unit () fun y => br (W.pick true y false) (some ()) none) none)
                      none)
                none
theorem E_clevislaw08BoundMoves {F_bound_Tidy : FT ps_bound_Tidy qs_bound_Tidy} {F_bound_Meet : FT ps_bound_Meet qs_bound_Meet} {F_clevislaw08heads : FT ps_clevislaw08heads qs_clevislaw08heads} {F_bound_Join : FT ps_bound_Join qs_bound_Join} {F_bound_Low : FT ps_bound_Low qs_bound_Low} {F_clevisref08Tidy : FT ps_clevisref08Tidy qs_clevisref08Tidy} {F_clevisref08Meet : FT ps_clevisref08Meet qs_clevisref08Meet} {F_clevisref08Join : FT ps_clevisref08Join qs_clevisref08Join} {F_clevisref08Low : FT ps_clevisref08Low qs_clevisref08Low} (h_bound_Tidy : SpecOk Try.prog 12 (mkS ps_bound_Tidy qs_bound_Tidy F_bound_Tidy)) (h_bound_Meet : SpecOk Try.prog 26 (mkS ps_bound_Meet qs_bound_Meet F_bound_Meet)) (h_clevislaw08heads : SpecOk Try.prog 11 (mkS ps_clevislaw08heads qs_clevislaw08heads F_clevislaw08heads)) (h_bound_Join : SpecOk Try.prog 25 (mkS ps_bound_Join qs_bound_Join F_bound_Join)) (h_bound_Low : SpecOk Try.prog 27 (mkS ps_bound_Low qs_bound_Low F_bound_Low)) (h_clevisref08Tidy : SpecOk Try.prog 28 (mkS ps_clevisref08Tidy qs_clevisref08Tidy F_clevisref08Tidy)) (h_clevisref08Meet : SpecOk Try.prog 29 (mkS ps_clevisref08Meet qs_clevisref08Meet F_clevisref08Meet)) (h_clevisref08Join : SpecOk Try.prog 30 (mkS ps_clevisref08Join qs_clevisref08Join F_clevisref08Join)) (h_clevisref08Low : SpecOk Try.prog 31 (mkS ps_clevisref08Low qs_clevisref08Low F_clevisref08Low)) (x : PTs.D ps_clevislaw08BoundMoves) (hL : L_clevislaw08BoundMoves F_bound_Tidy F_bound_Meet F_clevislaw08heads F_bound_Join F_bound_Low F_clevisref08Tidy F_clevisref08Meet F_clevisref08Join F_clevisref08Low x = some ()) :
    ∃ (C : Cfg) (fl d : Nat), CfgOk C ∧ C.P = Try.prog ∧ call C fl d 9 (encL false ps_clevislaw08BoundMoves x) [] getL = some () :=
  ⟨_, 10, 12, (cfgOk_cons (cfgOk_cons (cfgOk_cons (cfgOk_cons (cfgOk_cons (cfgOk_cons (cfgOk_cons (cfgOk_cons (cfgOk_cons base h_clevisref08Low) h_clevisref08Join) h_clevisref08Meet) h_clevisref08Tidy) h_bound_Low) h_bound_Join) h_clevislaw08heads) h_bound_Meet) h_bound_Tidy), rfl, (show _ = L_clevislaw08BoundMoves F_bound_Tidy F_bound_Meet F_clevislaw08heads F_bound_Join F_bound_Low F_clevisref08Tidy F_clevisref08Meet F_clevisref08Join F_clevisref08Low x by obtain ⟨⟨x0Umin, x0Umax, x0Smin, x0Smax, ⟨x0Bits_Value, x0Bits_Mask⟩⟩, ⟨x1Umin, x1Umax, x1Smin, x1Smax, ⟨x1Bits_Value, x1Bits_Mask⟩⟩⟩ := x; kernel_rfl).trans hL⟩
end Go.Proofs.Ytflkcceicgaipaa
