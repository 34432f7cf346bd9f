import Derived.Test.YtomdfcjnmogcbaaProg
import Derived.Test.YtomdfcjnmogcbaaEnwZ4
import Derived.KernelRfl
set_option maxHeartbeats 0
set_option maxRecDepth 1000000
set_option linter.unusedVariables false
namespace Go.Proofs.Ytomdfcjnmogcbaa
open Go Go.Eng
abbrev pbD : PB := (.cells [(.int .u64), (.int .u64), (.int .i64), (.int .i64), (.int .u64), (.int .u64)])
abbrev pbM : PB := (.map [((.int .i64 0), (.fn 30 [])), ((.int .i64 16), (.fn 31 [])), ((.int .i64 128), (.fn 32 [])), ((.int .i64 176), (.fn 33 [])), ((.int .i64 32), (.fn 34 [])), ((.int .i64 48), (.fn 35 [])), ((.int .i64 144), (.fn 36 [])), ((.int .i64 80), (.fn 37 [])), ((.int .i64 64), (.fn 38 [])), ((.int .i64 160), (.fn 39 [])), ((.int .i64 96), (.fn 40 [])), ((.int .i64 112), (.fn 41 [])), ((.int .i64 192), (.fn 42 []))])
theorem base : CfgOk (Cw Try.prog [] noH) := cfgOk_nil (noGo_of (by kernel_rfl)) (by kernel_rfl) (by kernel_rfl)
abbrev ps_tnum_tidy : List PT := [.one (.int .u64), .one (.int .u64)]
abbrev qs_tnum_tidy : List PT := [.agg ((.prod (.int .u64) (.int .u64)))]
noncomputable def N_tnum_tidy   : FT ps_tnum_tidy qs_tnum_tidy := fun R x k => match x with
  | (x0, x1) => 
      k (W.wrap IntKind.u64 (W.andNot IntKind.u64 x0 x1), x1)
theorem S_tnum_tidy   : SpecOk Try.prog 72 (mkS ps_tnum_tidy qs_tnum_tidy (N_tnum_tidy )) :=
  specOk_mk (fl := 10) (d := 12) base (by rintro R ⟨x0, x1⟩ k; kernel_rfl)
noncomputable def F_tnum_tidy : FT ps_tnum_tidy qs_tnum_tidy := N_tnum_tidy  
theorem ok_tnum_tidy : SpecOk Try.prog 72 (mkS ps_tnum_tidy qs_tnum_tidy F_tnum_tidy) := S_tnum_tidy 
abbrev ps_tnum_Check : List PT := [.agg ((.prod (.int .u64) (.int .u64)))]
abbrev qs_tnum_Check : List PT := [.one (.bool)]
noncomputable def N_tnum_Check (F_tnum_tidy : FT ps_tnum_tidy qs_tnum_tidy)  : FT ps_tnum_Check qs_tnum_Check := fun R x k => match x with
  | (x0Value, x0Mask) => 
      F_tnum_tidy R (x0Value, x0Mask) fun y => k (W.and2 (W.eq x0Value y.1) (W.and2 (W.eq x0Mask y.2) true))
theorem S_tnum_Check {F_tnum_tidy : FT ps_tnum_tidy qs_tnum_tidy} (h_tnum_tidy : SpecOk Try.prog 72 (mkS ps_tnum_tidy qs_tnum_tidy F_tnum_tidy)) : SpecOk Try.prog 43 (mkS ps_tnum_Check qs_tnum_Check (N_tnum_Check F_tnum_tidy)) :=
  specOk_mk (fl := 10) (d := 12) (cfgOk_cons base h_tnum_tidy) (by rintro R ⟨x0Value, x0Mask⟩ k; kernel_rfl)
noncomputable def F_tnum_Check : FT ps_tnum_Check qs_tnum_Check := N_tnum_Check F_tnum_tidy 
theorem ok_tnum_Check : SpecOk Try.prog 43 (mkS ps_tnum_Check qs_tnum_Check F_tnum_Check) := S_tnum_Check ok_tnum_tidy
abbrev ps_bound_Check : List PT := [.agg ((.prod (.int .u64) (.prod (.int .u64) (.prod (.int .i64) (.prod (.int .i64) ((.prod (.int .u64) (.int .u64))))))))]
abbrev qs_bound_Check : List PT := [.one (.bool)]
noncomputable def N_bound_Check (F_tnum_Check : FT ps_tnum_Check qs_tnum_Check)  : FT ps_bound_Check qs_bound_Check := fun R x k => match x with
  | (x0Umin, x0Umax, x0Smin, x0Smax, (x0Bits_Value, x0Bits_Mask)) => 
      br (W.pick (W.le x0Umin x0Umax) (W.le x0Smin x0Smax) false) (F_tnum_Check R (x0Bits_Value, x0Bits_Mask) fun y => k (W.pick true y false)) (k false)
theorem S_bound_Check {F_tnum_Check : FT ps_tnum_Check qs_tnum_Check} (h_tnum_Check : SpecOk Try.prog 43 (mkS ps_tnum_Check qs_tnum_Check F_tnum_Check)) : SpecOk Try.prog 17 (mkS ps_bound_Check qs_bound_Check (N_bound_Check F_tnum_Check)) :=
  specOk_mk (fl := 10) (d := 12) (cfgOk_cons base h_tnum_Check) (by rintro R ⟨x0Umin, x0Umax, x0Smin, x0Smax, ⟨x0Bits_Value, x0Bits_Mask⟩⟩ k; kernel_rfl)
noncomputable def F_bound_Check : FT ps_bound_Check qs_bound_Check := N_bound_Check F_tnum_Check 
theorem ok_bound_Check : SpecOk Try.prog 17 (mkS ps_bound_Check qs_bound_Check F_bound_Check) := S_bound_Check ok_tnum_Check
abbrev ps_tnum_Any : List PT := []
abbrev qs_tnum_Any : List PT := [.agg ((.prod (.int .u64) (.int .u64)))]
noncomputable def N_tnum_Any   : FT ps_tnum_Any qs_tnum_Any := fun R x k => match x with
  | () => 
      k (0, 18446744073709551615)
theorem S_tnum_Any   : SpecOk Try.prog 44 (mkS ps_tnum_Any qs_tnum_Any (N_tnum_Any )) :=
  specOk_mk (fl := 10) (d := 12) base (by intro R x k; kernel_rfl)
noncomputable def F_tnum_Any : FT ps_tnum_Any qs_tnum_Any := N_tnum_Any  
theorem ok_tnum_Any : SpecOk Try.prog 44 (mkS ps_tnum_Any qs_tnum_Any F_tnum_Any) := S_tnum_Any 
abbrev ps_bound_Any : List PT := []
abbrev qs_bound_Any : List PT := [.agg ((.prod (.int .u64) (.prod (.int .u64) (.prod (.int .i64) (.prod (.int .i64) ((.prod (.int .u64) (.int .u64))))))))]
noncomputable def N_bound_Any (F_tnum_Any : FT ps_tnum_Any qs_tnum_Any)  : FT ps_bound_Any qs_bound_Any := fun R x k => match x with
  | () => 
      F_tnum_Any R () fun y => k (0, 18446744073709551615, -9223372036854775808, 9223372036854775807, y.1, y.2)
theorem S_bound_Any {F_tnum_Any : FT ps_tnum_Any qs_tnum_Any} (h_tnum_Any : SpecOk Try.prog 44 (mkS ps_tnum_Any qs_tnum_Any F_tnum_Any)) : SpecOk Try.prog 18 (mkS ps_bound_Any qs_bound_Any (N_bound_Any F_tnum_Any)) :=
  specOk_mk (fl := 10) (d := 12) (cfgOk_cons base h_tnum_Any) (by intro R x k; kernel_rfl)
noncomputable def F_bound_Any : FT ps_bound_Any qs_bound_Any := N_bound_Any F_tnum_Any 
theorem ok_bound_Any : SpecOk Try.prog 18 (mkS ps_bound_Any qs_bound_Any F_bound_Any) := S_bound_Any ok_tnum_Any
abbrev ps_bound_empty : List PT := [.agg ((.prod (.int .u64) (.prod (.int .u64) (.prod (.int .i64) (.prod (.int .i64) ((.prod (.int .u64) (.int .u64))))))))]
abbrev qs_bound_empty : List PT := [.one (.bool)]
noncomputable def N_bound_empty   : FT ps_bound_empty qs_bound_empty := fun R x k => match x with
  | (x0Umin, x0Umax, x0Smin, x0Smax, (x0Bits_Value, x0Bits_Mask)) => 
      k (W.pick (W.gt x0Umin x0Umax) true (W.gt x0Smin x0Smax))
theorem S_bound_empty   : SpecOk Try.prog 74 (mkS ps_bound_empty qs_bound_empty (N_bound_empty )) :=
  specOk_mk (fl := 10) (d := 12) base (by rintro R ⟨x0Umin, x0Umax, x0Smin, x0Smax, ⟨x0Bits_Value, x0Bits_Mask⟩⟩ k; kernel_rfl)
noncomputable def F_bound_empty : FT ps_bound_empty qs_bound_empty := N_bound_empty  
theorem ok_bound_empty : SpecOk Try.prog 74 (mkS ps_bound_empty qs_bound_empty F_bound_empty) := S_bound_empty 
abbrev ps_tnum_Meet : List PT := [.agg ((.prod (.int .u64) (.int .u64))), .agg ((.prod (.int .u64) (.int .u64)))]
abbrev qs_tnum_Meet : List PT := [.agg ((.prod (.int .u64) (.int .u64))), .one (.bool)]
noncomputable def N_tnum_Meet (F_tnum_tidy : FT ps_tnum_tidy qs_tnum_tidy)  : FT ps_tnum_Meet qs_tnum_Meet := fun R x k => match x with
  | ((x0Value, x0Mask), (x1Value, x1Mask)) => 
      F_tnum_tidy R (W.wrap IntKind.u64 (W.or IntKind.u64 x0Value x1Value), W.wrap IntKind.u64 (W.and IntKind.u64 x0Mask x1Mask)) fun y =>
        k ((y.1, y.2), W.eq (W.wrap IntKind.u64 (W.andNot IntKind.u64 (W.wrap IntKind.u64 (W.andNot IntKind.u64 (W.wrap IntKind.u64 (W.xor IntKind.u64 x0Value x1Value)) x0Mask)) x1Mask)) 0)
theorem S_tnum_Meet {F_tnum_tidy : FT ps_tnum_tidy qs_tnum_tidy} (h_tnum_tidy : SpecOk Try.prog 72 (mkS ps_tnum_tidy qs_tnum_tidy F_tnum_tidy)) : SpecOk Try.prog 76 (mkS ps_tnum_Meet qs_tnum_Meet (N_tnum_Meet F_tnum_tidy)) :=
  specOk_mk (fl := 10) (d := 12) (cfgOk_cons base h_tnum_tidy) (by rintro R ⟨⟨x0Value, x0Mask⟩, ⟨x1Value, x1Mask⟩⟩ k; kernel_rfl)
noncomputable def F_tnum_Meet : FT ps_tnum_Meet qs_tnum_Meet := N_tnum_Meet F_tnum_tidy 
theorem ok_tnum_Meet : SpecOk Try.prog 76 (mkS ps_tnum_Meet qs_tnum_Meet F_tnum_Meet) := S_tnum_Meet ok_tnum_tidy
abbrev ps_bits_Len64 : List PT := [.one (.int .u64)]
abbrev qs_bits_Len64 : List PT := [.one (.int .i64)]
noncomputable def lenTab : ByteArray := ⟨#[0, 1, 2, 2, 3, 3, 3, 3, 4, 4, 4, 4, 4, 4, 4, 4, 5, 5, 5, 5, 5, 5, 5, 5, 5, 5, 5, 5, 5, 5, 5, 5, 6, 6, 6, 6, 6, 6, 6, 6, 6, 6, 6, 6, 6, 6, 6, 6, 6, 6, 6, 6, 6, 6, 6, 6, 6, 6, 6, 6, 6, 6, 6, 6, 7, 7, 7, 7, 7, 7, 7, 7, 7, 7, 7, 7, 7, 7, 7, 7, 7, 7, 7, 7, 7, 7, 7, 7, 7, 7, 7, 7, 7, 7, 7, 7, 7, 7, 7, 7, 7, 7, 7, 7, 7, 7, 7, 7, 7, 7, 7, 7, 7, 7, 7, 7, 7, 7, 7, 7, 7, 7, 7, 7, 7, 7, 7, 7, 8, 8, 8, 8, 8, 8, 8, 8, 8, 8, 8, 8, 8, 8, 8, 8, 8, 8, 8, 8, 8, 8, 8, 8, 8, 8, 8, 8, 8, 8, 8, 8, 8, 8, 8, 8, 8, 8, 8, 8, 8, 8, 8, 8, 8, 8, 8, 8, 8, 8, 8, 8, 8, 8, 8, 8, 8, 8, 8, 8, 8, 8, 8, 8, 8, 8, 8, 8, 8, 8, 8, 8, 8, 8, 8, 8, 8, 8, 8, 8, 8, 8, 8, 8, 8, 8, 8, 8, 8, 8, 8, 8, 8, 8, 8, 8, 8, 8, 8, 8, 8, 8, 8, 8, 8, 8, 8, 8, 8, 8, 8, 8, 8, 8, 8, 8, 8, 8, 8, 8, 8, 8, 8, 8, 8, 8, 8, 8]⟩
noncomputable def leafK {R : Type} (n y : Int) (k : Int → Option R) : Option R :=
  br (W.and2 (W.le 0 (W.wrap .u8 y)) (W.lt (W.wrap .u8 y) 256)) (k (W.wrap .i64 (W.add n (W.wrap .i64 (W.byte lenTab (W.toNat (W.wrap .u8 y))))))) none
noncomputable def N_bits_Len64 : FT ps_bits_Len64 qs_bits_Len64 := fun R x k =>
  br (W.ge x 4294967296)
    (br (W.ge (W.shr .u64 x 32) 65536)
      (br (W.ge (W.shr .u64 (W.shr .u64 x 32) 16) 256) (leafK 56 (W.shr .u64 (W.shr .u64 (W.shr .u64 x 32) 16) 8) k) (leafK 48 (W.shr .u64 (W.shr .u64 x 32) 16) k))
      (br (W.ge (W.shr .u64 x 32) 256) (leafK 40 (W.shr .u64 (W.shr .u64 x 32) 8) k) (leafK 32 (W.shr .u64 x 32) k)))
    (br (W.ge x 65536)
      (br (W.ge (W.shr .u64 x 16) 256) (leafK 24 (W.shr .u64 (W.shr .u64 x 16) 8) k) (leafK 16 (W.shr .u64 x 16) k))
      (br (W.ge x 256) (leafK 8 (W.shr .u64 x 8) k) (leafK 0 x k)))
theorem S_bits_Len64   : SpecOk Try.prog 95 (mkS ps_bits_Len64 qs_bits_Len64 (N_bits_Len64 )) :=
  specOk_mk (fl := 10) (d := 12) base (by intro R x0 k; kernel_rfl)
noncomputable def F_bits_Len64 : FT ps_bits_Len64 qs_bits_Len64 := N_bits_Len64 
theorem ok_bits_Len64 : SpecOk Try.prog 95 (mkS ps_bits_Len64 qs_bits_Len64 F_bits_Len64) := S_bits_Len64 
abbrev ps_tnum_Range : List PT := [.one (.int .u64), .one (.int .u64)]
abbrev qs_tnum_Range : List PT := [.agg ((.prod (.int .u64) (.int .u64)))]
noncomputable def N_tnum_Range (F_tnum_tidy : FT ps_tnum_tidy qs_tnum_tidy) (F_tnum_Any : FT ps_tnum_Any qs_tnum_Any) (F_bits_Len64 : FT ps_bits_Len64 qs_bits_Len64)  : FT ps_tnum_Range qs_tnum_Range := fun R x k => match x with
  | (x0, x1) => 
      F_bits_Len64 R (W.wrap IntKind.u64 (W.xor IntKind.u64 x0 x1)) fun y =>
        br (W.eq y 64) (F_tnum_Any R () fun y => k (y.1, y.2))
          (br (W.lt y 0) none (F_tnum_tidy R (x0, W.wrap IntKind.u64 (W.sub (W.wrap IntKind.u64 (W.shl IntKind.u64 1 y)) 1)) fun y => k (y.1, y.2)))
theorem S_tnum_Range {F_tnum_tidy : FT ps_tnum_tidy qs_tnum_tidy} {F_tnum_Any : FT ps_tnum_Any qs_tnum_Any} {F_bits_Len64 : FT ps_bits_Len64 qs_bits_Len64} (h_tnum_tidy : SpecOk Try.prog 72 (mkS ps_tnum_tidy qs_tnum_tidy F_tnum_tidy)) (h_tnum_Any : SpecOk Try.prog 44 (mkS ps_tnum_Any qs_tnum_Any F_tnum_Any)) (h_bits_Len64 : SpecOk Try.prog 95 (mkS ps_bits_Len64 qs_bits_Len64 F_bits_Len64)) : SpecOk Try.prog 77 (mkS ps_tnum_Range qs_tnum_Range (N_tnum_Range F_tnum_tidy F_tnum_Any F_bits_Len64)) :=
  specOk_mk (fl := 10) (d := 12) (cfgOk_cons (cfgOk_cons (cfgOk_cons base h_bits_Len64) h_tnum_Any) h_tnum_tidy) (by rintro R ⟨x0, x1⟩ k; kernel_rfl)
noncomputable def F_tnum_Range : FT ps_tnum_Range qs_tnum_Range := N_tnum_Range F_tnum_tidy F_tnum_Any F_bits_Len64 
theorem ok_tnum_Range : SpecOk Try.prog 77 (mkS ps_tnum_Range qs_tnum_Range F_tnum_Range) := S_tnum_Range ok_tnum_tidy ok_tnum_Any ok_bits_Len64
abbrev ps_bound_Tidy : List PT := [.agg ((.prod (.int .u64) (.prod (.int .u64) (.prod (.int .i64) (.prod (.int .i64) ((.prod (.int .u64) (.int .u64))))))))]
abbrev qs_bound_Tidy : List PT := [.agg ((.prod (.int .u64) (.prod (.int .u64) (.prod (.int .i64) (.prod (.int .i64) ((.prod (.int .u64) (.int .u64)))))))), .one (.bool)]
abbrev Bd := Int × Int × Int × Int × Int × Int
noncomputable def bitsB (b : Bd) : Bd :=
  let v := b.2.2.2.2.1
  let m := b.2.2.2.2.2
  (W.max b.1 v, W.min b.2.1 (W.wrap .u64 (W.or .u64 v m)), W.max b.2.2.1 (W.wrap .i64 (W.wrap .u64 (W.or .u64 v (W.wrap .u64 (W.and .u64 m 9223372036854775808))))),
    W.min b.2.2.2.1 (W.wrap .i64 (W.wrap .u64 (W.or .u64 v (W.wrap .u64 (W.andNot .u64 m 9223372036854775808))))), v, m)
noncomputable def signsK {R : Type} (b : Bd) (k : Bd → Option R) : Option R :=
  br (W.pick (W.ge b.2.2.1 0) true (W.lt b.2.2.2.1 0))
    (k (W.max b.1 (W.wrap .u64 b.2.2.1), W.min b.2.1 (W.wrap .u64 b.2.2.2.1), W.wrap .i64 (W.max b.1 (W.wrap .u64 b.2.2.1)), W.wrap .i64 (W.min b.2.1 (W.wrap .u64 b.2.2.2.1)), b.2.2.2.2.1, b.2.2.2.2.2))
    (br (W.ge (W.wrap .i64 b.2.1) 0)
      (k (b.1, W.wrap .u64 (W.min b.2.2.2.1 (W.wrap .i64 b.2.1)), W.wrap .i64 b.1, W.min b.2.2.2.1 (W.wrap .i64 b.2.1), b.2.2.2.2.1, b.2.2.2.2.2))
      (br (W.lt (W.wrap .i64 b.1) 0)
        (k (W.wrap .u64 (W.max b.2.2.1 (W.wrap .i64 b.1)), b.2.1, W.max b.2.2.1 (W.wrap .i64 b.1), W.wrap .i64 b.2.1, b.2.2.2.2.1, b.2.2.2.2.2))
        (k b)))
noncomputable def roundK (F_bound_empty : FT ps_bound_empty qs_bound_empty) (F_tnum_Meet : FT ps_tnum_Meet qs_tnum_Meet) (F_tnum_Range : FT ps_tnum_Range qs_tnum_Range) {R : Type} (b : Bd) (k0 : Option R) (k : Bd → Option R) : Option R :=
  F_bound_empty R (bitsB b) fun e => br e k0 (signsK (bitsB b) fun d => F_tnum_Range R (d.1, d.2.1) fun t => F_tnum_Meet R ((d.2.2.2.2.1, d.2.2.2.2.2), t.1, t.2) fun u =>
    br (W.not (W.not u.2)) (F_bound_empty R d fun e => br (W.pick false true e) k0 (k (d.1, d.2.1, d.2.2.1, d.2.2.2.1, u.1.1, u.1.2))) k0)

noncomputable def N_bound_Tidy (F_bound_empty : FT ps_bound_empty qs_bound_empty) (F_tnum_Meet : FT ps_tnum_Meet qs_tnum_Meet) (F_tnum_Range : FT ps_tnum_Range qs_tnum_Range) : FT ps_bound_Tidy qs_bound_Tidy := fun R x k =>
  roundK F_bound_empty F_tnum_Meet F_tnum_Range x (k ((0, 0, 0, 0, 0, 0), false)) fun b => roundK F_bound_empty F_tnum_Meet F_tnum_Range b (k ((0, 0, 0, 0, 0, 0), false)) fun b => k (b, true)
theorem S_bound_Tidy {F_bound_empty : FT ps_bound_empty qs_bound_empty} {F_tnum_Meet : FT ps_tnum_Meet qs_tnum_Meet} {F_tnum_Range : FT ps_tnum_Range qs_tnum_Range} (h_bound_empty : SpecOk Try.prog 74 (mkS ps_bound_empty qs_bound_empty F_bound_empty)) (h_tnum_Meet : SpecOk Try.prog 76 (mkS ps_tnum_Meet qs_tnum_Meet F_tnum_Meet)) (h_tnum_Range : SpecOk Try.prog 77 (mkS ps_tnum_Range qs_tnum_Range F_tnum_Range)) : SpecOk Try.prog 45 (mkS ps_bound_Tidy qs_bound_Tidy (N_bound_Tidy (F_bound_empty := F_bound_empty) (F_tnum_Meet := F_tnum_Meet) (F_tnum_Range := F_tnum_Range))) :=
  specOk_mk (fl := 10) (d := 12) (cfgOk_cons (cfgOk_cons (cfgOk_cons base h_tnum_Range) h_tnum_Meet) h_bound_empty) (by rintro R ⟨x0Umin, x0Umax, x0Smin, x0Smax, ⟨x0Bits_Value, x0Bits_Mask⟩⟩ k; kernel_rfl)
noncomputable def F_bound_Tidy : FT ps_bound_Tidy qs_bound_Tidy := N_bound_Tidy (F_bound_empty := F_bound_empty) (F_tnum_Meet := F_tnum_Meet) (F_tnum_Range := F_tnum_Range)
theorem ok_bound_Tidy : SpecOk Try.prog 45 (mkS ps_bound_Tidy qs_bound_Tidy F_bound_Tidy) := S_bound_Tidy ok_bound_empty ok_tnum_Meet ok_tnum_Range
abbrev ps_arith_tidy : List PT := [.agg ((.prod (.int .u64) (.prod (.int .u64) (.prod (.int .i64) (.prod (.int .i64) ((.prod (.int .u64) (.int .u64))))))))]
abbrev qs_arith_tidy : List PT := [.agg ((.prod (.int .u64) (.prod (.int .u64) (.prod (.int .i64) (.prod (.int .i64) ((.prod (.int .u64) (.int .u64))))))))]
noncomputable def N_arith_tidy (F_bound_Any : FT ps_bound_Any qs_bound_Any) (F_bound_Tidy : FT ps_bound_Tidy qs_bound_Tidy)  : FT ps_arith_tidy qs_arith_tidy := fun R x k => match x with
  | (x0Umin, x0Umax, x0Smin, x0Smax, (x0Bits_Value, x0Bits_Mask)) => 
      F_bound_Tidy R (x0Umin, x0Umax, x0Smin, x0Smax, x0Bits_Value, x0Bits_Mask) fun y =>
        br y.2 (k (y.1.1, y.1.2.1, y.1.2.2.1, y.1.2.2.2.1, y.1.2.2.2.2.1, y.1.2.2.2.2.2)) (F_bound_Any R () fun y => k (y.1, y.2.1, y.2.2.1, y.2.2.2.1, y.2.2.2.2.1, y.2.2.2.2.2))
theorem S_arith_tidy {F_bound_Any : FT ps_bound_Any qs_bound_Any} {F_bound_Tidy : FT ps_bound_Tidy qs_bound_Tidy} (h_bound_Any : SpecOk Try.prog 18 (mkS ps_bound_Any qs_bound_Any F_bound_Any)) (h_bound_Tidy : SpecOk Try.prog 45 (mkS ps_bound_Tidy qs_bound_Tidy F_bound_Tidy)) : SpecOk Try.prog 19 (mkS ps_arith_tidy qs_arith_tidy (N_arith_tidy F_bound_Any F_bound_Tidy)) :=
  specOk_mk (fl := 10) (d := 12) (cfgOk_cons (cfgOk_cons base h_bound_Tidy) h_bound_Any) (by rintro R ⟨x0Umin, x0Umax, x0Smin, x0Smax, ⟨x0Bits_Value, x0Bits_Mask⟩⟩ k; kernel_rfl)
noncomputable def F_arith_tidy : FT ps_arith_tidy qs_arith_tidy := N_arith_tidy F_bound_Any F_bound_Tidy 
theorem ok_arith_tidy : SpecOk Try.prog 19 (mkS ps_arith_tidy qs_arith_tidy F_arith_tidy) := S_arith_tidy ok_bound_Any ok_bound_Tidy
abbrev ps_bound_Size : List PT := [.one (.int .i64)]
abbrev qs_bound_Size : List PT := [.agg ((.prod (.int .u64) (.prod (.int .u64) (.prod (.int .i64) (.prod (.int .i64) ((.prod (.int .u64) (.int .u64))))))))]
noncomputable def N_bound_Size (F_bound_Any : FT ps_bound_Any qs_bound_Any)  : FT ps_bound_Size qs_bound_Size := fun R x k => match x with
  | x0 => 
      br (W.pick (W.pick (W.ne x0 1) (W.ne x0 2) false) (W.ne x0 4) false) (F_bound_Any R () fun y => k (y.1, y.2.1, y.2.2.1, y.2.2.2.1, y.2.2.2.2.1, y.2.2.2.2.2))
        (br (W.lt (W.wrap IntKind.i64 (W.mul 8 x0)) 0) none
          (k
            (0, W.wrap IntKind.u64 (W.sub (W.wrap IntKind.u64 (W.shl IntKind.u64 1 (W.wrap IntKind.i64 (W.mul 8 x0)))) 1), 0,
              W.wrap IntKind.i64 (W.wrap IntKind.u64 (W.sub (W.wrap IntKind.u64 (W.shl IntKind.u64 1 (W.wrap IntKind.i64 (W.mul 8 x0)))) 1)), 0,
              W.wrap IntKind.u64 (W.sub (W.wrap IntKind.u64 (W.shl IntKind.u64 1 (W.wrap IntKind.i64 (W.mul 8 x0)))) 1))))
theorem S_bound_Size {F_bound_Any : FT ps_bound_Any qs_bound_Any} (h_bound_Any : SpecOk Try.prog 18 (mkS ps_bound_Any qs_bound_Any F_bound_Any)) : SpecOk Try.prog 49 (mkS ps_bound_Size qs_bound_Size (N_bound_Size F_bound_Any)) :=
  specOk_mk (fl := 10) (d := 12) (cfgOk_cons base h_bound_Any) (by intro R x0 k; kernel_rfl)
noncomputable def F_bound_Size : FT ps_bound_Size qs_bound_Size := N_bound_Size F_bound_Any 
theorem ok_bound_Size : SpecOk Try.prog 49 (mkS ps_bound_Size qs_bound_Size F_bound_Size) := S_bound_Size ok_bound_Any
abbrev ps_tnum_Low : List PT := [.agg ((.prod (.int .u64) (.int .u64)))]
abbrev qs_tnum_Low : List PT := [.agg ((.prod (.int .u64) (.int .u64)))]
noncomputable def N_tnum_Low   : FT ps_tnum_Low qs_tnum_Low := fun R x k => match x with
  | (x0Value, x0Mask) => 
      k (W.wrap IntKind.u64 (W.wrap IntKind.u32 x0Value), W.wrap IntKind.u64 (W.wrap IntKind.u32 x0Mask))
theorem S_tnum_Low   : SpecOk Try.prog 78 (mkS ps_tnum_Low qs_tnum_Low (N_tnum_Low )) :=
  specOk_mk (fl := 10) (d := 12) base (by rintro R ⟨x0Value, x0Mask⟩ k; kernel_rfl)
noncomputable def F_tnum_Low : FT ps_tnum_Low qs_tnum_Low := N_tnum_Low  
theorem ok_tnum_Low : SpecOk Try.prog 78 (mkS ps_tnum_Low qs_tnum_Low F_tnum_Low) := S_tnum_Low 
abbrev ps_bound_Low : List PT := [.agg ((.prod (.int .u64) (.prod (.int .u64) (.prod (.int .i64) (.prod (.int .i64) ((.prod (.int .u64) (.int .u64))))))))]
abbrev qs_bound_Low : List PT := [.agg ((.prod (.int .u64) (.prod (.int .u64) (.prod (.int .i64) (.prod (.int .i64) ((.prod (.int .u64) (.int .u64))))))))]
noncomputable def N_bound_Low (F_bound_Tidy : FT ps_bound_Tidy qs_bound_Tidy) (F_bound_Size : FT ps_bound_Size qs_bound_Size) (F_tnum_Low : FT ps_tnum_Low qs_tnum_Low)  : FT ps_bound_Low qs_bound_Low := fun R x k => match x with
  | (x0Umin, x0Umax, x0Smin, x0Smax, (x0Bits_Value, x0Bits_Mask)) => 
      F_bound_Size R 4 fun y =>
        br (W.le x0Umax y.2.1) (k (x0Umin, x0Umax, x0Smin, x0Smax, x0Bits_Value, x0Bits_Mask))
          (F_tnum_Low R (x0Bits_Value, x0Bits_Mask) fun y_1 =>
            F_bound_Tidy R (y.1, y.2.1, y.2.2.1, y.2.2.2.1, y_1.1, y_1.2) fun y_2 =>
              br
                (W.pick y_2.2
                  (W.not
                    (W.and2 (W.eq y.1 y.1)
                      (W.and2 (W.eq y.2.1 y.2.1) (W.and2 (W.eq y.2.2.1 y.2.2.1) (W.and2 (W.eq y.2.2.2.1 y.2.2.2.1) (W.and2 (W.eq y_1.1 y.2.2.2.2.1) (W.and2 (W.eq y_1.2 y.2.2.2.2.2) true)))))))
                  false)
                (k (y_2.1.1, y_2.1.2.1, y_2.1.2.2.1, y_2.1.2.2.2.1, y_2.1.2.2.2.2.1, y_2.1.2.2.2.2.2)) (k (y.1, y.2.1, y.2.2.1, y.2.2.2.1, y.2.2.2.2.1, y.2.2.2.2.2)))
theorem S_bound_Low {F_bound_Tidy : FT ps_bound_Tidy qs_bound_Tidy} {F_bound_Size : FT ps_bound_Size qs_bound_Size} {F_tnum_Low : FT ps_tnum_Low qs_tnum_Low} (h_bound_Tidy : SpecOk Try.prog 45 (mkS ps_bound_Tidy qs_bound_Tidy F_bound_Tidy)) (h_bound_Size : SpecOk Try.prog 49 (mkS ps_bound_Size qs_bound_Size F_bound_Size)) (h_tnum_Low : SpecOk Try.prog 78 (mkS ps_tnum_Low qs_tnum_Low F_tnum_Low)) : SpecOk Try.prog 46 (mkS ps_bound_Low qs_bound_Low (N_bound_Low F_bound_Tidy F_bound_Size F_tnum_Low)) :=
  specOk_mk (fl := 10) (d := 12) (cfgOk_cons (cfgOk_cons (cfgOk_cons base h_tnum_Low) h_bound_Size) h_bound_Tidy) (by rintro R ⟨x0Umin, x0Umax, x0Smin, x0Smax, ⟨x0Bits_Value, x0Bits_Mask⟩⟩ k; kernel_rfl)
noncomputable def F_bound_Low : FT ps_bound_Low qs_bound_Low := N_bound_Low F_bound_Tidy F_bound_Size F_tnum_Low 
theorem ok_bound_Low : SpecOk Try.prog 46 (mkS ps_bound_Low qs_bound_Low F_bound_Low) := S_bound_Low ok_bound_Tidy ok_bound_Size ok_tnum_Low
abbrev ps_bound_Value : List PT := [.agg ((.prod (.int .u64) (.prod (.int .u64) (.prod (.int .i64) (.prod (.int .i64) ((.prod (.int .u64) (.int .u64))))))))]
abbrev qs_bound_Value : List PT := [.one (.int .u64), .one (.bool)]
noncomputable def N_bound_Value   : FT ps_bound_Value qs_bound_Value := fun R x k => match x with
  | (x0Umin, x0Umax, x0Smin, x0Smax, (x0Bits_Value, x0Bits_Mask)) => 
      br (W.eq x0Umin x0Umax) (k (x0Umin, true)) (k (0, false))
theorem S_bound_Value   : SpecOk Try.prog 47 (mkS ps_bound_Value qs_bound_Value (N_bound_Value )) :=
  specOk_mk (fl := 10) (d := 12) base (by rintro R ⟨x0Umin, x0Umax, x0Smin, x0Smax, ⟨x0Bits_Value, x0Bits_Mask⟩⟩ k; kernel_rfl)
noncomputable def F_bound_Value : FT ps_bound_Value qs_bound_Value := N_bound_Value  
theorem ok_bound_Value : SpecOk Try.prog 47 (mkS ps_bound_Value qs_bound_Value F_bound_Value) := S_bound_Value 
abbrev ps_tnum_Const : List PT := [.one (.int .u64)]
abbrev qs_tnum_Const : List PT := [.agg ((.prod (.int .u64) (.int .u64)))]
noncomputable def N_tnum_Const   : FT ps_tnum_Const qs_tnum_Const := fun R x k => match x with
  | x0 => 
      k (x0, 0)
theorem S_tnum_Const   : SpecOk Try.prog 79 (mkS ps_tnum_Const qs_tnum_Const (N_tnum_Const )) :=
  specOk_mk (fl := 10) (d := 12) base (by intro R x0 k; kernel_rfl)
noncomputable def F_tnum_Const : FT ps_tnum_Const qs_tnum_Const := N_tnum_Const  
theorem ok_tnum_Const : SpecOk Try.prog 79 (mkS ps_tnum_Const qs_tnum_Const F_tnum_Const) := S_tnum_Const 
abbrev ps_bound_Const : List PT := [.one (.int .u64)]
abbrev qs_bound_Const : List PT := [.agg ((.prod (.int .u64) (.prod (.int .u64) (.prod (.int .i64) (.prod (.int .i64) ((.prod (.int .u64) (.int .u64))))))))]
noncomputable def N_bound_Const (F_tnum_Const : FT ps_tnum_Const qs_tnum_Const)  : FT ps_bound_Const qs_bound_Const := fun R x k => match x with
  | x0 => 
      F_tnum_Const R x0 fun y => k (x0, x0, W.wrap IntKind.i64 x0, W.wrap IntKind.i64 x0, y.1, y.2)
theorem S_bound_Const {F_tnum_Const : FT ps_tnum_Const qs_tnum_Const} (h_tnum_Const : SpecOk Try.prog 79 (mkS ps_tnum_Const qs_tnum_Const F_tnum_Const)) : SpecOk Try.prog 48 (mkS ps_bound_Const qs_bound_Const (N_bound_Const F_tnum_Const)) :=
  specOk_mk (fl := 10) (d := 12) (cfgOk_cons base h_tnum_Const) (by intro R x0 k; kernel_rfl)
noncomputable def F_bound_Const : FT ps_bound_Const qs_bound_Const := N_bound_Const F_tnum_Const 
theorem ok_bound_Const : SpecOk Try.prog 48 (mkS ps_bound_Const qs_bound_Const F_bound_Const) := S_bound_Const ok_tnum_Const
abbrev ps_arith_of : List PT := [.agg ((.prod (.int .u64) (.int .u64)))]
abbrev qs_arith_of : List PT := [.agg ((.prod (.int .u64) (.prod (.int .u64) (.prod (.int .i64) (.prod (.int .i64) ((.prod (.int .u64) (.int .u64))))))))]
noncomputable def N_arith_of (F_bound_Any : FT ps_bound_Any qs_bound_Any)  : FT ps_arith_of qs_arith_of := fun R x k => match x with
  | (x0Value, x0Mask) => 
      F_bound_Any R () fun y => k (y.1, y.2.1, y.2.2.1, y.2.2.2.1, x0Value, x0Mask)
theorem S_arith_of {F_bound_Any : FT ps_bound_Any qs_bound_Any} (h_bound_Any : SpecOk Try.prog 18 (mkS ps_bound_Any qs_bound_Any F_bound_Any)) : SpecOk Try.prog 60 (mkS ps_arith_of qs_arith_of (N_arith_of F_bound_Any)) :=
  specOk_mk (fl := 10) (d := 12) (cfgOk_cons base h_bound_Any) (by rintro R ⟨x0Value, x0Mask⟩ k; kernel_rfl)
noncomputable def F_arith_of : FT ps_arith_of qs_arith_of := N_arith_of F_bound_Any 
theorem ok_arith_of : SpecOk Try.prog 60 (mkS ps_arith_of qs_arith_of F_arith_of) := S_arith_of ok_bound_Any
abbrev ps_tnum_Add : List PT := [.agg ((.prod (.int .u64) (.int .u64))), .agg ((.prod (.int .u64) (.int .u64)))]
abbrev qs_tnum_Add : List PT := [.agg ((.prod (.int .u64) (.int .u64)))]
noncomputable def N_tnum_Add (F_tnum_tidy : FT ps_tnum_tidy qs_tnum_tidy)  : FT ps_tnum_Add qs_tnum_Add := fun R x k => match x with
  | ((x0Value, x0Mask), (x1Value, x1Mask)) => 
      F_tnum_tidy R
        (W.wrap IntKind.u64 (W.add x0Value x1Value),
          W.wrap IntKind.u64
            (W.or IntKind.u64
              (W.wrap IntKind.u64
                (W.or IntKind.u64
                  (W.wrap IntKind.u64
                    (W.xor IntKind.u64 (W.wrap IntKind.u64 (W.add (W.wrap IntKind.u64 (W.add x0Mask x1Mask)) (W.wrap IntKind.u64 (W.add x0Value x1Value))))
                      (W.wrap IntKind.u64 (W.add x0Value x1Value))))
                  x0Mask))
              x1Mask))
        fun y => k (y.1, y.2)
theorem S_tnum_Add {F_tnum_tidy : FT ps_tnum_tidy qs_tnum_tidy} (h_tnum_tidy : SpecOk Try.prog 72 (mkS ps_tnum_tidy qs_tnum_tidy F_tnum_tidy)) : SpecOk Try.prog 61 (mkS ps_tnum_Add qs_tnum_Add (N_tnum_Add F_tnum_tidy)) :=
  specOk_mk (fl := 10) (d := 12) (cfgOk_cons base h_tnum_tidy) (by rintro R ⟨⟨x0Value, x0Mask⟩, ⟨x1Value, x1Mask⟩⟩ k; kernel_rfl)
noncomputable def F_tnum_Add : FT ps_tnum_Add qs_tnum_Add := N_tnum_Add F_tnum_tidy 
theorem ok_tnum_Add : SpecOk Try.prog 61 (mkS ps_tnum_Add qs_tnum_Add F_tnum_Add) := S_tnum_Add ok_tnum_tidy
abbrev ps_arith_carries : List PT := [.one (.int .i64), .one (.int .i64)]
abbrev qs_arith_carries : List PT := [.one (.bool)]
noncomputable def N_arith_carries   : FT ps_arith_carries qs_arith_carries := fun R x k => match x with
  | (x0, x1) => 
      k
        (W.lt
          (W.wrap IntKind.i64
            (W.and IntKind.i64 (W.wrap IntKind.i64 (W.xor IntKind.i64 x0 (W.wrap IntKind.i64 (W.add x0 x1)))) (W.wrap IntKind.i64 (W.xor IntKind.i64 x1 (W.wrap IntKind.i64 (W.add x0 x1))))))
          0)
theorem S_arith_carries   : SpecOk Try.prog 62 (mkS ps_arith_carries qs_arith_carries (N_arith_carries )) :=
  specOk_mk (fl := 10) (d := 12) base (by rintro R ⟨x0, x1⟩ k; kernel_rfl)
noncomputable def F_arith_carries : FT ps_arith_carries qs_arith_carries := N_arith_carries  
theorem ok_arith_carries : SpecOk Try.prog 62 (mkS ps_arith_carries qs_arith_carries F_arith_carries) := S_arith_carries 
abbrev ps_arith_pair_add : List PT := [.agg ((.prod ((.prod (.int .u64) (.prod (.int .u64) (.prod (.int .i64) (.prod (.int .i64) ((.prod (.int .u64) (.int .u64)))))))) ((.prod (.int .u64) (.prod (.int .u64) (.prod (.int .i64) (.prod (.int .i64) ((.prod (.int .u64) (.int .u64))))))))))]
abbrev qs_arith_pair_add : List PT := [.agg ((.prod (.int .u64) (.prod (.int .u64) (.prod (.int .i64) (.prod (.int .i64) ((.prod (.int .u64) (.int .u64))))))))]
noncomputable def N_arith_pair_add (F_arith_of : FT ps_arith_of qs_arith_of) (F_tnum_Add : FT ps_tnum_Add qs_tnum_Add) (F_arith_carries : FT ps_arith_carries qs_arith_carries)  : FT ps_arith_pair_add qs_arith_pair_add := fun R x k => match x with
  | ((x0a_Umin, x0a_Umax, x0a_Smin, x0a_Smax, (x0a_Bits_Value, x0a_Bits_Mask)), (x0b_Umin, x0b_Umax, x0b_Smin, x0b_Smax, (x0b_Bits_Value, x0b_Bits_Mask))) => 
      F_tnum_Add R ((x0a_Bits_Value, x0a_Bits_Mask), x0b_Bits_Value, x0b_Bits_Mask) fun y =>
        F_arith_of R (y.1, y.2) fun y =>
          br (W.ge (W.wrap IntKind.u64 (W.add x0a_Umax x0b_Umax)) x0a_Umax)
            (F_arith_carries R (x0a_Smin, x0b_Smin) fun y_1 =>
              br (W.not y_1)
                (F_arith_carries R (x0a_Smax, x0b_Smax) fun y_2 =>
                  br (W.pick true (W.not y_2) false)
                    (k
                      (W.wrap IntKind.u64 (W.add x0a_Umin x0b_Umin), W.wrap IntKind.u64 (W.add x0a_Umax x0b_Umax), W.wrap IntKind.i64 (W.add x0a_Smin x0b_Smin),
                        W.wrap IntKind.i64 (W.add x0a_Smax x0b_Smax), y.2.2.2.2.1, y.2.2.2.2.2))
                    (k (W.wrap IntKind.u64 (W.add x0a_Umin x0b_Umin), W.wrap IntKind.u64 (W.add x0a_Umax x0b_Umax), y.2.2.1, y.2.2.2.1, y.2.2.2.2.1, y.2.2.2.2.2)))
                (k (W.wrap IntKind.u64 (W.add x0a_Umin x0b_Umin), W.wrap IntKind.u64 (W.add x0a_Umax x0b_Umax), y.2.2.1, y.2.2.2.1, y.2.2.2.2.1, y.2.2.2.2.2)))
            (F_arith_carries R (x0a_Smin, x0b_Smin) fun y_1 =>
              br (W.not y_1)
                (F_arith_carries R (x0a_Smax, x0b_Smax) fun y_2 =>
                  br (W.pick true (W.not y_2) false) (k (y.1, y.2.1, W.wrap IntKind.i64 (W.add x0a_Smin x0b_Smin), W.wrap IntKind.i64 (W.add x0a_Smax x0b_Smax), y.2.2.2.2.1, y.2.2.2.2.2))
                    (k (y.1, y.2.1, y.2.2.1, y.2.2.2.1, y.2.2.2.2.1, y.2.2.2.2.2)))
                (k (y.1, y.2.1, y.2.2.1, y.2.2.2.1, y.2.2.2.2.1, y.2.2.2.2.2)))
theorem S_arith_pair_add {F_arith_of : FT ps_arith_of qs_arith_of} {F_tnum_Add : FT ps_tnum_Add qs_tnum_Add} {F_arith_carries : FT ps_arith_carries qs_arith_carries} (h_arith_of : SpecOk Try.prog 60 (mkS ps_arith_of qs_arith_of F_arith_of)) (h_tnum_Add : SpecOk Try.prog 61 (mkS ps_tnum_Add qs_tnum_Add F_tnum_Add)) (h_arith_carries : SpecOk Try.prog 62 (mkS ps_arith_carries qs_arith_carries F_arith_carries)) : SpecOk Try.prog 30 (mkS ps_arith_pair_add qs_arith_pair_add (N_arith_pair_add F_arith_of F_tnum_Add F_arith_carries)) :=
  specOk_mk (fl := 10) (d := 12) (cfgOk_cons (cfgOk_cons (cfgOk_cons base h_arith_carries) h_tnum_Add) h_arith_of) (by rintro R ⟨⟨x0a_Umin, x0a_Umax, x0a_Smin, x0a_Smax, ⟨x0a_Bits_Value, x0a_Bits_Mask⟩⟩, ⟨x0b_Umin, x0b_Umax, x0b_Smin, x0b_Smax, ⟨x0b_Bits_Value, x0b_Bits_Mask⟩⟩⟩ k; kernel_rfl)
noncomputable def F_arith_pair_add : FT ps_arith_pair_add qs_arith_pair_add := N_arith_pair_add F_arith_of F_tnum_Add F_arith_carries 
theorem ok_arith_pair_add : SpecOk Try.prog 30 (mkS ps_arith_pair_add qs_arith_pair_add F_arith_pair_add) := S_arith_pair_add ok_arith_of ok_tnum_Add ok_arith_carries
abbrev ps_tnum_Sub : List PT := [.agg ((.prod (.int .u64) (.int .u64))), .agg ((.prod (.int .u64) (.int .u64)))]
abbrev qs_tnum_Sub : List PT := [.agg ((.prod (.int .u64) (.int .u64)))]
noncomputable def N_tnum_Sub (F_tnum_tidy : FT ps_tnum_tidy qs_tnum_tidy)  : FT ps_tnum_Sub qs_tnum_Sub := fun R x k => match x with
  | ((x0Value, x0Mask), (x1Value, x1Mask)) => 
      F_tnum_tidy R
        (W.wrap IntKind.u64 (W.sub x0Value x1Value),
          W.wrap IntKind.u64
            (W.or IntKind.u64
              (W.wrap IntKind.u64
                (W.or IntKind.u64
                  (W.wrap IntKind.u64
                    (W.xor IntKind.u64 (W.wrap IntKind.u64 (W.add (W.wrap IntKind.u64 (W.sub x0Value x1Value)) x0Mask))
                      (W.wrap IntKind.u64 (W.sub (W.wrap IntKind.u64 (W.sub x0Value x1Value)) x1Mask))))
                  x0Mask))
              x1Mask))
        fun y => k (y.1, y.2)
theorem S_tnum_Sub {F_tnum_tidy : FT ps_tnum_tidy qs_tnum_tidy} (h_tnum_tidy : SpecOk Try.prog 72 (mkS ps_tnum_tidy qs_tnum_tidy F_tnum_tidy)) : SpecOk Try.prog 63 (mkS ps_tnum_Sub qs_tnum_Sub (N_tnum_Sub F_tnum_tidy)) :=
  specOk_mk (fl := 10) (d := 12) (cfgOk_cons base h_tnum_tidy) (by rintro R ⟨⟨x0Value, x0Mask⟩, ⟨x1Value, x1Mask⟩⟩ k; kernel_rfl)
noncomputable def F_tnum_Sub : FT ps_tnum_Sub qs_tnum_Sub := N_tnum_Sub F_tnum_tidy 
theorem ok_tnum_Sub : SpecOk Try.prog 63 (mkS ps_tnum_Sub qs_tnum_Sub F_tnum_Sub) := S_tnum_Sub ok_tnum_tidy
abbrev ps_arith_borrows : List PT := [.one (.int .i64), .one (.int .i64)]
abbrev qs_arith_borrows : List PT := [.one (.bool)]
noncomputable def N_arith_borrows   : FT ps_arith_borrows qs_arith_borrows := fun R x k => match x with
  | (x0, x1) => 
      k (W.lt (W.wrap IntKind.i64 (W.and IntKind.i64 (W.wrap IntKind.i64 (W.xor IntKind.i64 x0 x1)) (W.wrap IntKind.i64 (W.xor IntKind.i64 x0 (W.wrap IntKind.i64 (W.sub x0 x1)))))) 0)
theorem S_arith_borrows   : SpecOk Try.prog 64 (mkS ps_arith_borrows qs_arith_borrows (N_arith_borrows )) :=
  specOk_mk (fl := 10) (d := 12) base (by rintro R ⟨x0, x1⟩ k; kernel_rfl)
noncomputable def F_arith_borrows : FT ps_arith_borrows qs_arith_borrows := N_arith_borrows  
theorem ok_arith_borrows : SpecOk Try.prog 64 (mkS ps_arith_borrows qs_arith_borrows F_arith_borrows) := S_arith_borrows 
abbrev ps_arith_pair_sub : List PT := [.agg ((.prod ((.prod (.int .u64) (.prod (.int .u64) (.prod (.int .i64) (.prod (.int .i64) ((.prod (.int .u64) (.int .u64)))))))) ((.prod (.int .u64) (.prod (.int .u64) (.prod (.int .i64) (.prod (.int .i64) ((.prod (.int .u64) (.int .u64))))))))))]
abbrev qs_arith_pair_sub : List PT := [.agg ((.prod (.int .u64) (.prod (.int .u64) (.prod (.int .i64) (.prod (.int .i64) ((.prod (.int .u64) (.int .u64))))))))]
noncomputable def N_arith_pair_sub (F_arith_of : FT ps_arith_of qs_arith_of) (F_tnum_Sub : FT ps_tnum_Sub qs_tnum_Sub) (F_arith_borrows : FT ps_arith_borrows qs_arith_borrows)  : FT ps_arith_pair_sub qs_arith_pair_sub := fun R x k => match x with
  | ((x0a_Umin, x0a_Umax, x0a_Smin, x0a_Smax, (x0a_Bits_Value, x0a_Bits_Mask)), (x0b_Umin, x0b_Umax, x0b_Smin, x0b_Smax, (x0b_Bits_Value, x0b_Bits_Mask))) => 
      F_tnum_Sub R ((x0a_Bits_Value, x0a_Bits_Mask), x0b_Bits_Value, x0b_Bits_Mask) fun y =>
        F_arith_of R (y.1, y.2) fun y =>
          br (W.le x0b_Umax x0a_Umin)
            (F_arith_borrows R (x0a_Smin, x0b_Smax) fun y_1 =>
              br (W.not y_1)
                (F_arith_borrows R (x0a_Smax, x0b_Smin) fun y_2 =>
                  br (W.pick true (W.not y_2) false)
                    (k
                      (W.wrap IntKind.u64 (W.sub x0a_Umin x0b_Umax), W.wrap IntKind.u64 (W.sub x0a_Umax x0b_Umin), W.wrap IntKind.i64 (W.sub x0a_Smin x0b_Smax),
                        W.wrap IntKind.i64 (W.sub x0a_Smax x0b_Smin), y.2.2.2.2.1, y.2.2.2.2.2))
                    (k (W.wrap IntKind.u64 (W.sub x0a_Umin x0b_Umax), W.wrap IntKind.u64 (W.sub x0a_Umax x0b_Umin), y.2.2.1, y.2.2.2.1, y.2.2.2.2.1, y.2.2.2.2.2)))
                (k (W.wrap IntKind.u64 (W.sub x0a_Umin x0b_Umax), W.wrap IntKind.u64 (W.sub x0a_Umax x0b_Umin), y.2.2.1, y.2.2.2.1, y.2.2.2.2.1, y.2.2.2.2.2)))
            (F_arith_borrows R (x0a_Smin, x0b_Smax) fun y_1 =>
              br (W.not y_1)
                (F_arith_borrows R (x0a_Smax, x0b_Smin) fun y_2 =>
                  br (W.pick true (W.not y_2) false) (k (y.1, y.2.1, W.wrap IntKind.i64 (W.sub x0a_Smin x0b_Smax), W.wrap IntKind.i64 (W.sub x0a_Smax x0b_Smin), y.2.2.2.2.1, y.2.2.2.2.2))
                    (k (y.1, y.2.1, y.2.2.1, y.2.2.2.1, y.2.2.2.2.1, y.2.2.2.2.2)))
                (k (y.1, y.2.1, y.2.2.1, y.2.2.2.1, y.2.2.2.2.1, y.2.2.2.2.2)))
theorem S_arith_pair_sub {F_arith_of : FT ps_arith_of qs_arith_of} {F_tnum_Sub : FT ps_tnum_Sub qs_tnum_Sub} {F_arith_borrows : FT ps_arith_borrows qs_arith_borrows} (h_arith_of : SpecOk Try.prog 60 (mkS ps_arith_of qs_arith_of F_arith_of)) (h_tnum_Sub : SpecOk Try.prog 63 (mkS ps_tnum_Sub qs_tnum_Sub F_tnum_Sub)) (h_arith_borrows : SpecOk Try.prog 64 (mkS ps_arith_borrows qs_arith_borrows F_arith_borrows)) : SpecOk Try.prog 31 (mkS ps_arith_pair_sub qs_arith_pair_sub (N_arith_pair_sub F_arith_of F_tnum_Sub F_arith_borrows)) :=
  specOk_mk (fl := 10) (d := 12) (cfgOk_cons (cfgOk_cons (cfgOk_cons base h_arith_borrows) h_tnum_Sub) h_arith_of) (by rintro R ⟨⟨x0a_Umin, x0a_Umax, x0a_Smin, x0a_Smax, ⟨x0a_Bits_Value, x0a_Bits_Mask⟩⟩, ⟨x0b_Umin, x0b_Umax, x0b_Smin, x0b_Smax, ⟨x0b_Bits_Value, x0b_Bits_Mask⟩⟩⟩ k; kernel_rfl)
noncomputable def F_arith_pair_sub : FT ps_arith_pair_sub qs_arith_pair_sub := N_arith_pair_sub F_arith_of F_tnum_Sub F_arith_borrows 
theorem ok_arith_pair_sub : SpecOk Try.prog 31 (mkS ps_arith_pair_sub qs_arith_pair_sub F_arith_pair_sub) := S_arith_pair_sub ok_arith_of ok_tnum_Sub ok_arith_borrows
abbrev ps_arith_pair_neg : List PT := [.agg ((.prod ((.prod (.int .u64) (.prod (.int .u64) (.prod (.int .i64) (.prod (.int .i64) ((.prod (.int .u64) (.int .u64)))))))) ((.prod (.int .u64) (.prod (.int .u64) (.prod (.int .i64) (.prod (.int .i64) ((.prod (.int .u64) (.int .u64))))))))))]
abbrev qs_arith_pair_neg : List PT := [.agg ((.prod (.int .u64) (.prod (.int .u64) (.prod (.int .i64) (.prod (.int .i64) ((.prod (.int .u64) (.int .u64))))))))]
noncomputable def N_arith_pair_neg (F_bound_Const : FT ps_bound_Const qs_bound_Const) (F_arith_pair_sub : FT ps_arith_pair_sub qs_arith_pair_sub)  : FT ps_arith_pair_neg qs_arith_pair_neg := fun R x k => match x with
  | ((x0a_Umin, x0a_Umax, x0a_Smin, x0a_Smax, (x0a_Bits_Value, x0a_Bits_Mask)), (x0b_Umin, x0b_Umax, x0b_Smin, x0b_Smax, (x0b_Bits_Value, x0b_Bits_Mask))) => 
      F_bound_Const R 0 fun y =>
        F_arith_pair_sub R ((y.1, y.2.1, y.2.2.1, y.2.2.2.1, y.2.2.2.2.1, y.2.2.2.2.2), x0a_Umin, x0a_Umax, x0a_Smin, x0a_Smax, x0a_Bits_Value, x0a_Bits_Mask) fun y =>
          k (y.1, y.2.1, y.2.2.1, y.2.2.2.1, y.2.2.2.2.1, y.2.2.2.2.2)
theorem S_arith_pair_neg {F_bound_Const : FT ps_bound_Const qs_bound_Const} {F_arith_pair_sub : FT ps_arith_pair_sub qs_arith_pair_sub} (h_bound_Const : SpecOk Try.prog 48 (mkS ps_bound_Const qs_bound_Const F_bound_Const)) (h_arith_pair_sub : SpecOk Try.prog 31 (mkS ps_arith_pair_sub qs_arith_pair_sub F_arith_pair_sub)) : SpecOk Try.prog 32 (mkS ps_arith_pair_neg qs_arith_pair_neg (N_arith_pair_neg F_bound_Const F_arith_pair_sub)) :=
  specOk_mk (fl := 10) (d := 12) (cfgOk_cons (cfgOk_cons base h_arith_pair_sub) h_bound_Const) (by rintro R ⟨⟨x0a_Umin, x0a_Umax, x0a_Smin, x0a_Smax, ⟨x0a_Bits_Value, x0a_Bits_Mask⟩⟩, ⟨x0b_Umin, x0b_Umax, x0b_Smin, x0b_Smax, ⟨x0b_Bits_Value, x0b_Bits_Mask⟩⟩⟩ k; kernel_rfl)
noncomputable def F_arith_pair_neg : FT ps_arith_pair_neg qs_arith_pair_neg := N_arith_pair_neg F_bound_Const F_arith_pair_sub 
theorem ok_arith_pair_neg : SpecOk Try.prog 32 (mkS ps_arith_pair_neg qs_arith_pair_neg F_arith_pair_neg) := S_arith_pair_neg ok_bound_Const ok_arith_pair_sub
abbrev ps_arith_pair_mov : List PT := [.agg ((.prod ((.prod (.int .u64) (.prod (.int .u64) (.prod (.int .i64) (.prod (.int .i64) ((.prod (.int .u64) (.int .u64)))))))) ((.prod (.int .u64) (.prod (.int .u64) (.prod (.int .i64) (.prod (.int .i64) ((.prod (.int .u64) (.int .u64))))))))))]
abbrev qs_arith_pair_mov : List PT := [.agg ((.prod (.int .u64) (.prod (.int .u64) (.prod (.int .i64) (.prod (.int .i64) ((.prod (.int .u64) (.int .u64))))))))]
noncomputable def N_arith_pair_mov   : FT ps_arith_pair_mov qs_arith_pair_mov := fun R x k => match x with
  | ((x0a_Umin, x0a_Umax, x0a_Smin, x0a_Smax, (x0a_Bits_Value, x0a_Bits_Mask)), (x0b_Umin, x0b_Umax, x0b_Smin, x0b_Smax, (x0b_Bits_Value, x0b_Bits_Mask))) => 
      k (x0b_Umin, x0b_Umax, x0b_Smin, x0b_Smax, x0b_Bits_Value, x0b_Bits_Mask)
theorem S_arith_pair_mov   : SpecOk Try.prog 33 (mkS ps_arith_pair_mov qs_arith_pair_mov (N_arith_pair_mov )) :=
  specOk_mk (fl := 10) (d := 12) base (by rintro R ⟨⟨x0a_Umin, x0a_Umax, x0a_Smin, x0a_Smax, ⟨x0a_Bits_Value, x0a_Bits_Mask⟩⟩, ⟨x0b_Umin, x0b_Umax, x0b_Smin, x0b_Smax, ⟨x0b_Bits_Value, x0b_Bits_Mask⟩⟩⟩ k; kernel_rfl)
noncomputable def F_arith_pair_mov : FT ps_arith_pair_mov qs_arith_pair_mov := N_arith_pair_mov  
theorem ok_arith_pair_mov : SpecOk Try.prog 33 (mkS ps_arith_pair_mov qs_arith_pair_mov F_arith_pair_mov) := S_arith_pair_mov 
abbrev ps_tnum_Shift : List PT := [.one (.int .i64), .agg ((.prod (.int .u64) (.int .u64))), .one (.int .i64)]
abbrev qs_tnum_Shift : List PT := [.agg ((.prod (.int .u64) (.int .u64)))]
noncomputable def N_tnum_Shift   : FT ps_tnum_Shift qs_tnum_Shift := fun R x k => match x with
  | (x0, (x1Value, x1Mask), x2) => 
      br (W.eq x0 96)
        (br (W.lt (W.wrap IntKind.i64 (W.and IntKind.i64 x2 63)) 0) none
          (br (W.lt (W.wrap IntKind.i64 (W.and IntKind.i64 x2 63)) 0) none
            (k
              (W.wrap IntKind.u64 (W.shl IntKind.u64 x1Value (W.wrap IntKind.i64 (W.and IntKind.i64 x2 63))),
                W.wrap IntKind.u64 (W.shl IntKind.u64 x1Mask (W.wrap IntKind.i64 (W.and IntKind.i64 x2 63)))))))
        (br (W.eq x0 112)
          (br (W.lt (W.wrap IntKind.i64 (W.and IntKind.i64 x2 63)) 0) none
            (br (W.lt (W.wrap IntKind.i64 (W.and IntKind.i64 x2 63)) 0) none
              (k (W.shr IntKind.u64 x1Value (W.wrap IntKind.i64 (W.and IntKind.i64 x2 63)), W.shr IntKind.u64 x1Mask (W.wrap IntKind.i64 (W.and IntKind.i64 x2 63))))))
          (br (W.eq x0 192)
            (br (W.lt (W.wrap IntKind.i64 (W.and IntKind.i64 x2 63)) 0) none
              (br (W.lt (W.wrap IntKind.i64 (W.and IntKind.i64 x2 63)) 0) none
                (k
                  (W.wrap IntKind.u64 (W.shr IntKind.i64 (W.wrap IntKind.i64 x1Value) (W.wrap IntKind.i64 (W.and IntKind.i64 x2 63))),
                    W.wrap IntKind.u64 (W.shr IntKind.i64 (W.wrap IntKind.i64 x1Mask) (W.wrap IntKind.i64 (W.and IntKind.i64 x2 63)))))))
            (k (x1Value, x1Mask))))
theorem S_tnum_Shift   : SpecOk Try.prog 71 (mkS ps_tnum_Shift qs_tnum_Shift (N_tnum_Shift )) :=
  specOk_mk (fl := 10) (d := 12) base (by rintro R ⟨x0, ⟨x1Value, x1Mask⟩, x2⟩ k; kernel_rfl)
noncomputable def F_tnum_Shift : FT ps_tnum_Shift qs_tnum_Shift := N_tnum_Shift  
theorem ok_tnum_Shift : SpecOk Try.prog 71 (mkS ps_tnum_Shift qs_tnum_Shift F_tnum_Shift) := S_tnum_Shift 
abbrev ps_tnum_Mul : List PT := [.agg ((.prod (.int .u64) (.int .u64))), .agg ((.prod (.int .u64) (.int .u64)))]
abbrev qs_tnum_Mul : List PT := [.agg ((.prod (.int .u64) (.int .u64)))]
noncomputable def PL_tnum_Mul_3_0 (F_bits_Len64 : FT ps_bits_Len64 qs_bits_Len64) (F_tnum_Const : FT ps_tnum_Const qs_tnum_Const) (F_tnum_Add : FT ps_tnum_Add qs_tnum_Add) (F_tnum_Shift : FT ps_tnum_Shift qs_tnum_Shift) (fl : Nat)  (R : Type) (k : PTs.D qs_tnum_Mul → Option R) : LoopI R :=
  locate (Cw Try.prog [(95, mkS ps_bits_Len64 qs_bits_Len64 F_bits_Len64), (79, mkS ps_tnum_Const qs_tnum_Const F_tnum_Const), (61, mkS ps_tnum_Add qs_tnum_Add F_tnum_Add), (71, mkS ps_tnum_Shift qs_tnum_Shift F_tnum_Shift)] noH) fl (call (Cw Try.prog [(95, mkS ps_bits_Len64 qs_bits_Len64 F_bits_Len64), (79, mkS ps_tnum_Const qs_tnum_Const F_tnum_Const), (61, mkS ps_tnum_Add qs_tnum_Add F_tnum_Add), (71, mkS ps_tnum_Shift qs_tnum_Shift F_tnum_Shift)] noH) fl 11) 0 65 3 [] (getR qs_tnum_Mul k)
noncomputable def P_tnum_Mul_3_0 (F_bits_Len64 : FT ps_bits_Len64 qs_bits_Len64) (F_tnum_Const : FT ps_tnum_Const qs_tnum_Const) (F_tnum_Add : FT ps_tnum_Add qs_tnum_Add) (F_tnum_Shift : FT ps_tnum_Shift qs_tnum_Shift) (fl : Nat)  (n : Nat) (R : Type) (y0 : Int) (y1 : Int) (y2 : Int) (y3 : Int) (y4 : Int) (y5 : Int) (y6 : Int) (y7 : Int) (y8 : Int) (y9 : Int) (k : PTs.D qs_tnum_Mul → Option R) : Option R :=
  loopH (PL_tnum_Mul_3_0 F_bits_Len64 F_tnum_Const F_tnum_Add F_tnum_Shift fl  R k).body (PL_tnum_Mul_3_0 F_bits_Len64 F_tnum_Const F_tnum_Add F_tnum_Shift fl  R k).head n (some (
      S.mk
        [V.any, V.any, V.ptr 0 0, V.ptr 1 0, V.ptr 2 0, V.ptr 3 0, V.any, V.any, V.any, V.any, V.any, V.any, V.any, V.any, V.any, V.int IntKind.i64 y0, V.int IntKind.i64 y1, V.any, V.any, V.any, V.any,
          V.any, V.any, V.any, V.any, V.any, V.any, V.any, V.any, V.any, V.any, V.any, V.any, V.any, V.any, V.any, V.any, V.any, V.any, V.any, V.any, V.any, V.any, V.any, V.any, V.any, V.any, V.any, V.any,
          V.any, V.any, V.any, V.any, V.any, V.any, V.any, V.any, V.any]
        []
        [Blk.cells [V.int IntKind.u64 y2, V.int IntKind.u64 y3], Blk.cells [V.int IntKind.u64 y4, V.int IntKind.u64 y5], Blk.cells [V.int IntKind.u64 y6, V.int IntKind.u64 y7],
          Blk.cells [V.int IntKind.u64 y8, V.int IntKind.u64 y9]])) (PL_tnum_Mul_3_0 F_bits_Len64 F_tnum_Const F_tnum_Add F_tnum_Shift fl  R k).kont
theorem P_tnum_Mul_3_0_s {F_bits_Len64 : FT ps_bits_Len64 qs_bits_Len64} {F_tnum_Const : FT ps_tnum_Const qs_tnum_Const} {F_tnum_Add : FT ps_tnum_Add qs_tnum_Add} {F_tnum_Shift : FT ps_tnum_Shift qs_tnum_Shift} (fl : Nat)  (n : Nat) (R : Type) (y0 : Int) (y1 : Int) (y2 : Int) (y3 : Int) (y4 : Int) (y5 : Int) (y6 : Int) (y7 : Int) (y8 : Int) (y9 : Int) (k : PTs.D qs_tnum_Mul → Option R) : P_tnum_Mul_3_0 F_bits_Len64 F_tnum_Const F_tnum_Add F_tnum_Shift fl  (n + 1) R y0 y1 y2 y3 y4 y5 y6 y7 y8 y9 k =
      br (W.lt y1 y0)
        (F_tnum_Shift R (96, (y4, y5), y1) fun y =>
          br (W.lt y1 0) none
            (br (W.gt (W.wrap IntKind.u64 (W.and IntKind.u64 y2 (W.wrap IntKind.u64 (W.shl IntKind.u64 1 y1)))) 0)
              (F_tnum_Add R ((y8, y9), 0, y.2) fun y => P_tnum_Mul_3_0 F_bits_Len64 F_tnum_Const F_tnum_Add F_tnum_Shift fl n R y0 (W.wrap IntKind.i64 (W.add y1 1)) y2 y3 y4 y5 y6 y7 y.1 y.2 k)
              (br (W.gt (W.wrap IntKind.u64 (W.and IntKind.u64 y3 (W.wrap IntKind.u64 (W.shl IntKind.u64 1 y1)))) 0)
                (F_tnum_Add R ((y8, y9), 0, W.wrap IntKind.u64 (W.or IntKind.u64 y.2 y.1)) fun y =>
                  P_tnum_Mul_3_0 F_bits_Len64 F_tnum_Const F_tnum_Add F_tnum_Shift fl n R y0 (W.wrap IntKind.i64 (W.add y1 1)) y2 y3 y4 y5 y6 y7 y.1 y.2 k)
                (P_tnum_Mul_3_0 F_bits_Len64 F_tnum_Const F_tnum_Add F_tnum_Shift fl n R y0 (W.wrap IntKind.i64 (W.add y1 1)) y2 y3 y4 y5 y6 y7 y8 y9 k))))
        (F_tnum_Const R (W.wrap IntKind.u64 (W.mul y2 y4)) fun y => F_tnum_Add R ((y.1, y.2), y8, y9) fun y => k (y.1, y.2)) := by kernel_rfl
noncomputable def N_tnum_Mul (F_bits_Len64 : FT ps_bits_Len64 qs_bits_Len64) (F_tnum_Const : FT ps_tnum_Const qs_tnum_Const) (F_tnum_Add : FT ps_tnum_Add qs_tnum_Add) (F_tnum_Shift : FT ps_tnum_Shift qs_tnum_Shift) (fl : Nat) : FT ps_tnum_Mul qs_tnum_Mul := fun R x k => match x with
  | ((x0Value, x0Mask), (x1Value, x1Mask)) => 
      F_bits_Len64 R (W.wrap IntKind.u64 (W.or IntKind.u64 x0Value x0Mask)) fun y => P_tnum_Mul_3_0 F_bits_Len64 F_tnum_Const F_tnum_Add F_tnum_Shift fl fl R y 0 x0Value x0Mask x1Value x1Mask 0 0 0 0 k
theorem Q_tnum_Mul {F_bits_Len64 : FT ps_bits_Len64 qs_bits_Len64} {F_tnum_Const : FT ps_tnum_Const qs_tnum_Const} {F_tnum_Add : FT ps_tnum_Add qs_tnum_Add} {F_tnum_Shift : FT ps_tnum_Shift qs_tnum_Shift} (fl : Nat) (R : Type) (x : PTs.D ps_tnum_Mul) (k : PTs.D qs_tnum_Mul → Option R) : call (Cw Try.prog [(95, mkS ps_bits_Len64 qs_bits_Len64 F_bits_Len64), (79, mkS ps_tnum_Const qs_tnum_Const F_tnum_Const), (61, mkS ps_tnum_Add qs_tnum_Add F_tnum_Add), (71, mkS ps_tnum_Shift qs_tnum_Shift F_tnum_Shift)] noH) fl 12 65 (encL true ps_tnum_Mul x) [] (getR qs_tnum_Mul k) = N_tnum_Mul F_bits_Len64 F_tnum_Const F_tnum_Add F_tnum_Shift fl R x k := by
  obtain ⟨⟨x0Value, x0Mask⟩, ⟨x1Value, x1Mask⟩⟩ := x; kernel_rfl
theorem S_tnum_Mul {F_bits_Len64 : FT ps_bits_Len64 qs_bits_Len64} {F_tnum_Const : FT ps_tnum_Const qs_tnum_Const} {F_tnum_Add : FT ps_tnum_Add qs_tnum_Add} {F_tnum_Shift : FT ps_tnum_Shift qs_tnum_Shift} (h_bits_Len64 : SpecOk Try.prog 95 (mkS ps_bits_Len64 qs_bits_Len64 F_bits_Len64)) (h_tnum_Const : SpecOk Try.prog 79 (mkS ps_tnum_Const qs_tnum_Const F_tnum_Const)) (h_tnum_Add : SpecOk Try.prog 61 (mkS ps_tnum_Add qs_tnum_Add F_tnum_Add)) (h_tnum_Shift : SpecOk Try.prog 71 (mkS ps_tnum_Shift qs_tnum_Shift F_tnum_Shift)) : SpecOk Try.prog 65 (mkS ps_tnum_Mul qs_tnum_Mul (N_tnum_Mul F_bits_Len64 F_tnum_Const F_tnum_Add F_tnum_Shift W.big)) :=
  specOk_mk (fl := W.big) (d := 12) (cfgOk_cons (cfgOk_cons (cfgOk_cons (cfgOk_cons base h_tnum_Shift) h_tnum_Add) h_tnum_Const) h_bits_Len64) (fun R x k => Q_tnum_Mul W.big R x k)
noncomputable def F_tnum_Mul : FT ps_tnum_Mul qs_tnum_Mul := N_tnum_Mul F_bits_Len64 F_tnum_Const F_tnum_Add F_tnum_Shift W.big
theorem ok_tnum_Mul : SpecOk Try.prog 65 (mkS ps_tnum_Mul qs_tnum_Mul F_tnum_Mul) := S_tnum_Mul ok_bits_Len64 ok_tnum_Const ok_tnum_Add ok_tnum_Shift
abbrev ps_arith_pair_mul : List PT := [.agg ((.prod ((.prod (.int .u64) (.prod (.int .u64) (.prod (.int .i64) (.prod (.int .i64) ((.prod (.int .u64) (.int .u64)))))))) ((.prod (.int .u64) (.prod (.int .u64) (.prod (.int .i64) (.prod (.int .i64) ((.prod (.int .u64) (.int .u64))))))))))]
abbrev qs_arith_pair_mul : List PT := [.agg ((.prod (.int .u64) (.prod (.int .u64) (.prod (.int .i64) (.prod (.int .i64) ((.prod (.int .u64) (.int .u64))))))))]
noncomputable def N_arith_pair_mul (F_arith_of : FT ps_arith_of qs_arith_of) (F_tnum_Mul : FT ps_tnum_Mul qs_tnum_Mul)  : FT ps_arith_pair_mul qs_arith_pair_mul := fun R x k => match x with
  | ((x0a_Umin, x0a_Umax, x0a_Smin, x0a_Smax, (x0a_Bits_Value, x0a_Bits_Mask)), (x0b_Umin, x0b_Umax, x0b_Smin, x0b_Smax, (x0b_Bits_Value, x0b_Bits_Mask))) => 
      F_tnum_Mul R ((x0a_Bits_Value, x0a_Bits_Mask), x0b_Bits_Value, x0b_Bits_Mask) fun y =>
        F_arith_of R (y.1, y.2) fun y =>
          br (W.le (W.max x0a_Umax x0b_Umax) 4294967295) (k (W.wrap IntKind.u64 (W.mul x0a_Umin x0b_Umin), W.wrap IntKind.u64 (W.mul x0a_Umax x0b_Umax), y.2.2.1, y.2.2.2.1, y.2.2.2.2.1, y.2.2.2.2.2))
            (k (y.1, y.2.1, y.2.2.1, y.2.2.2.1, y.2.2.2.2.1, y.2.2.2.2.2))
theorem S_arith_pair_mul {F_arith_of : FT ps_arith_of qs_arith_of} {F_tnum_Mul : FT ps_tnum_Mul qs_tnum_Mul} (h_arith_of : SpecOk Try.prog 60 (mkS ps_arith_of qs_arith_of F_arith_of)) (h_tnum_Mul : SpecOk Try.prog 65 (mkS ps_tnum_Mul qs_tnum_Mul F_tnum_Mul)) : SpecOk Try.prog 34 (mkS ps_arith_pair_mul qs_arith_pair_mul (N_arith_pair_mul F_arith_of F_tnum_Mul)) :=
  specOk_mk (fl := 10) (d := 12) (cfgOk_cons (cfgOk_cons base h_tnum_Mul) h_arith_of) (by rintro R ⟨⟨x0a_Umin, x0a_Umax, x0a_Smin, x0a_Smax, ⟨x0a_Bits_Value, x0a_Bits_Mask⟩⟩, ⟨x0b_Umin, x0b_Umax, x0b_Smin, x0b_Smax, ⟨x0b_Bits_Value, x0b_Bits_Mask⟩⟩⟩ k; kernel_rfl)
noncomputable def F_arith_pair_mul : FT ps_arith_pair_mul qs_arith_pair_mul := N_arith_pair_mul F_arith_of F_tnum_Mul 
theorem ok_arith_pair_mul : SpecOk Try.prog 34 (mkS ps_arith_pair_mul qs_arith_pair_mul F_arith_pair_mul) := S_arith_pair_mul ok_arith_of ok_tnum_Mul
abbrev ps_arith_upto : List PT := [.one (.int .u64)]
abbrev qs_arith_upto : List PT := [.agg ((.prod (.int .u64) (.prod (.int .u64) (.prod (.int .i64) (.prod (.int .i64) ((.prod (.int .u64) (.int .u64))))))))]
noncomputable def N_arith_upto (F_bound_Any : FT ps_bound_Any qs_bound_Any)  : FT ps_arith_upto qs_arith_upto := fun R x k => match x with
  | x0 => 
      F_bound_Any R () fun y => k (y.1, x0, y.2.2.1, y.2.2.2.1, y.2.2.2.2.1, y.2.2.2.2.2)
theorem S_arith_upto {F_bound_Any : FT ps_bound_Any qs_bound_Any} (h_bound_Any : SpecOk Try.prog 18 (mkS ps_bound_Any qs_bound_Any F_bound_Any)) : SpecOk Try.prog 66 (mkS ps_arith_upto qs_arith_upto (N_arith_upto F_bound_Any)) :=
  specOk_mk (fl := 10) (d := 12) (cfgOk_cons base h_bound_Any) (by intro R x0 k; kernel_rfl)
noncomputable def F_arith_upto : FT ps_arith_upto qs_arith_upto := N_arith_upto F_bound_Any 
theorem ok_arith_upto : SpecOk Try.prog 66 (mkS ps_arith_upto qs_arith_upto F_arith_upto) := S_arith_upto ok_bound_Any
abbrev ps_arith_pair_div : List PT := [.agg ((.prod ((.prod (.int .u64) (.prod (.int .u64) (.prod (.int .i64) (.prod (.int .i64) ((.prod (.int .u64) (.int .u64)))))))) ((.prod (.int .u64) (.prod (.int .u64) (.prod (.int .i64) (.prod (.int .i64) ((.prod (.int .u64) (.int .u64))))))))))]
abbrev qs_arith_pair_div : List PT := [.agg ((.prod (.int .u64) (.prod (.int .u64) (.prod (.int .i64) (.prod (.int .i64) ((.prod (.int .u64) (.int .u64))))))))]
noncomputable def N_arith_pair_div (F_bound_Value : FT ps_bound_Value qs_bound_Value) (F_arith_upto : FT ps_arith_upto qs_arith_upto)  : FT ps_arith_pair_div qs_arith_pair_div := fun R x k => match x with
  | ((x0a_Umin, x0a_Umax, x0a_Smin, x0a_Smax, (x0a_Bits_Value, x0a_Bits_Mask)), (x0b_Umin, x0b_Umax, x0b_Smin, x0b_Smax, (x0b_Bits_Value, x0b_Bits_Mask))) => 
      F_arith_upto R x0a_Umax fun y =>
        F_bound_Value R (x0b_Umin, x0b_Umax, x0b_Smin, x0b_Smax, x0b_Bits_Value, x0b_Bits_Mask) fun y_1 =>
          br (W.pick y_1.2 (W.gt y_1.1 0) false)
            (br (W.eq y_1.1 0) none (br (W.eq y_1.1 0) none (k (W.wrap IntKind.u64 (W.quo x0a_Umin y_1.1), W.wrap IntKind.u64 (W.quo x0a_Umax y_1.1), y.2.2.1, y.2.2.2.1, y.2.2.2.2.1, y.2.2.2.2.2))))
            (k (y.1, y.2.1, y.2.2.1, y.2.2.2.1, y.2.2.2.2.1, y.2.2.2.2.2))
theorem S_arith_pair_div {F_bound_Value : FT ps_bound_Value qs_bound_Value} {F_arith_upto : FT ps_arith_upto qs_arith_upto} (h_bound_Value : SpecOk Try.prog 47 (mkS ps_bound_Value qs_bound_Value F_bound_Value)) (h_arith_upto : SpecOk Try.prog 66 (mkS ps_arith_upto qs_arith_upto F_arith_upto)) : SpecOk Try.prog 35 (mkS ps_arith_pair_div qs_arith_pair_div (N_arith_pair_div F_bound_Value F_arith_upto)) :=
  specOk_mk (fl := 10) (d := 12) (cfgOk_cons (cfgOk_cons base h_arith_upto) h_bound_Value) (by rintro R ⟨⟨x0a_Umin, x0a_Umax, x0a_Smin, x0a_Smax, ⟨x0a_Bits_Value, x0a_Bits_Mask⟩⟩, ⟨x0b_Umin, x0b_Umax, x0b_Smin, x0b_Smax, ⟨x0b_Bits_Value, x0b_Bits_Mask⟩⟩⟩ k; kernel_rfl)
noncomputable def F_arith_pair_div : FT ps_arith_pair_div qs_arith_pair_div := N_arith_pair_div F_bound_Value F_arith_upto 
theorem ok_arith_pair_div : SpecOk Try.prog 35 (mkS ps_arith_pair_div qs_arith_pair_div F_arith_pair_div) := S_arith_pair_div ok_bound_Value ok_arith_upto
abbrev ps_arith_pair_mod : List PT := [.agg ((.prod ((.prod (.int .u64) (.prod (.int .u64) (.prod (.int .i64) (.prod (.int .i64) ((.prod (.int .u64) (.int .u64)))))))) ((.prod (.int .u64) (.prod (.int .u64) (.prod (.int .i64) (.prod (.int .i64) ((.prod (.int .u64) (.int .u64))))))))))]
abbrev qs_arith_pair_mod : List PT := [.agg ((.prod (.int .u64) (.prod (.int .u64) (.prod (.int .i64) (.prod (.int .i64) ((.prod (.int .u64) (.int .u64))))))))]
noncomputable def N_arith_pair_mod (F_arith_upto : FT ps_arith_upto qs_arith_upto)  : FT ps_arith_pair_mod qs_arith_pair_mod := fun R x k => match x with
  | ((x0a_Umin, x0a_Umax, x0a_Smin, x0a_Smax, (x0a_Bits_Value, x0a_Bits_Mask)), (x0b_Umin, x0b_Umax, x0b_Smin, x0b_Smax, (x0b_Bits_Value, x0b_Bits_Mask))) => 
      br (W.gt x0b_Umin 0) (F_arith_upto R (W.min x0a_Umax (W.wrap IntKind.u64 (W.sub x0b_Umax 1))) fun y => k (y.1, y.2.1, y.2.2.1, y.2.2.2.1, y.2.2.2.2.1, y.2.2.2.2.2))
        (F_arith_upto R x0a_Umax fun y => k (y.1, y.2.1, y.2.2.1, y.2.2.2.1, y.2.2.2.2.1, y.2.2.2.2.2))
theorem S_arith_pair_mod {F_arith_upto : FT ps_arith_upto qs_arith_upto} (h_arith_upto : SpecOk Try.prog 66 (mkS ps_arith_upto qs_arith_upto F_arith_upto)) : SpecOk Try.prog 36 (mkS ps_arith_pair_mod qs_arith_pair_mod (N_arith_pair_mod F_arith_upto)) :=
  specOk_mk (fl := 10) (d := 12) (cfgOk_cons base h_arith_upto) (by rintro R ⟨⟨x0a_Umin, x0a_Umax, x0a_Smin, x0a_Smax, ⟨x0a_Bits_Value, x0a_Bits_Mask⟩⟩, ⟨x0b_Umin, x0b_Umax, x0b_Smin, x0b_Smax, ⟨x0b_Bits_Value, x0b_Bits_Mask⟩⟩⟩ k; kernel_rfl)
noncomputable def F_arith_pair_mod : FT ps_arith_pair_mod qs_arith_pair_mod := N_arith_pair_mod F_arith_upto 
theorem ok_arith_pair_mod : SpecOk Try.prog 36 (mkS ps_arith_pair_mod qs_arith_pair_mod F_arith_pair_mod) := S_arith_pair_mod ok_arith_upto
abbrev ps_tnum_And : List PT := [.agg ((.prod (.int .u64) (.int .u64))), .agg ((.prod (.int .u64) (.int .u64)))]
abbrev qs_tnum_And : List PT := [.agg ((.prod (.int .u64) (.int .u64)))]
noncomputable def N_tnum_And   : FT ps_tnum_And qs_tnum_And := fun R x k => match x with
  | ((x0Value, x0Mask), (x1Value, x1Mask)) => 
      k
        (W.wrap IntKind.u64 (W.and IntKind.u64 x0Value x1Value),
          W.wrap IntKind.u64
            (W.and IntKind.u64 (W.wrap IntKind.u64 (W.and IntKind.u64 (W.wrap IntKind.u64 (W.or IntKind.u64 x0Value x0Mask)) (W.wrap IntKind.u64 (W.or IntKind.u64 x1Value x1Mask))))
              (W.wrap IntKind.u64 (W.xor IntKind.u64 18446744073709551615 (W.wrap IntKind.u64 (W.and IntKind.u64 x0Value x1Value))))))
theorem S_tnum_And   : SpecOk Try.prog 67 (mkS ps_tnum_And qs_tnum_And (N_tnum_And )) :=
  specOk_mk (fl := 10) (d := 12) base (by rintro R ⟨⟨x0Value, x0Mask⟩, ⟨x1Value, x1Mask⟩⟩ k; kernel_rfl)
noncomputable def F_tnum_And : FT ps_tnum_And qs_tnum_And := N_tnum_And  
theorem ok_tnum_And : SpecOk Try.prog 67 (mkS ps_tnum_And qs_tnum_And F_tnum_And) := S_tnum_And 
abbrev ps_arith_pair_and : List PT := [.agg ((.prod ((.prod (.int .u64) (.prod (.int .u64) (.prod (.int .i64) (.prod (.int .i64) ((.prod (.int .u64) (.int .u64)))))))) ((.prod (.int .u64) (.prod (.int .u64) (.prod (.int .i64) (.prod (.int .i64) ((.prod (.int .u64) (.int .u64))))))))))]
abbrev qs_arith_pair_and : List PT := [.agg ((.prod (.int .u64) (.prod (.int .u64) (.prod (.int .i64) (.prod (.int .i64) ((.prod (.int .u64) (.int .u64))))))))]
noncomputable def N_arith_pair_and (F_arith_of : FT ps_arith_of qs_arith_of) (F_tnum_And : FT ps_tnum_And qs_tnum_And)  : FT ps_arith_pair_and qs_arith_pair_and := fun R x k => match x with
  | ((x0a_Umin, x0a_Umax, x0a_Smin, x0a_Smax, (x0a_Bits_Value, x0a_Bits_Mask)), (x0b_Umin, x0b_Umax, x0b_Smin, x0b_Smax, (x0b_Bits_Value, x0b_Bits_Mask))) => 
      F_tnum_And R ((x0a_Bits_Value, x0a_Bits_Mask), x0b_Bits_Value, x0b_Bits_Mask) fun y =>
        F_arith_of R (y.1, y.2) fun y => k (y.1, W.min x0a_Umax x0b_Umax, y.2.2.1, y.2.2.2.1, y.2.2.2.2.1, y.2.2.2.2.2)
theorem S_arith_pair_and {F_arith_of : FT ps_arith_of qs_arith_of} {F_tnum_And : FT ps_tnum_And qs_tnum_And} (h_arith_of : SpecOk Try.prog 60 (mkS ps_arith_of qs_arith_of F_arith_of)) (h_tnum_And : SpecOk Try.prog 67 (mkS ps_tnum_And qs_tnum_And F_tnum_And)) : SpecOk Try.prog 37 (mkS ps_arith_pair_and qs_arith_pair_and (N_arith_pair_and F_arith_of F_tnum_And)) :=
  specOk_mk (fl := 10) (d := 12) (cfgOk_cons (cfgOk_cons base h_tnum_And) h_arith_of) (by rintro R ⟨⟨x0a_Umin, x0a_Umax, x0a_Smin, x0a_Smax, ⟨x0a_Bits_Value, x0a_Bits_Mask⟩⟩, ⟨x0b_Umin, x0b_Umax, x0b_Smin, x0b_Smax, ⟨x0b_Bits_Value, x0b_Bits_Mask⟩⟩⟩ k; kernel_rfl)
noncomputable def F_arith_pair_and : FT ps_arith_pair_and qs_arith_pair_and := N_arith_pair_and F_arith_of F_tnum_And 
theorem ok_arith_pair_and : SpecOk Try.prog 37 (mkS ps_arith_pair_and qs_arith_pair_and F_arith_pair_and) := S_arith_pair_and ok_arith_of ok_tnum_And
abbrev ps_tnum_Or : List PT := [.agg ((.prod (.int .u64) (.int .u64))), .agg ((.prod (.int .u64) (.int .u64)))]
abbrev qs_tnum_Or : List PT := [.agg ((.prod (.int .u64) (.int .u64)))]
noncomputable def N_tnum_Or   : FT ps_tnum_Or qs_tnum_Or := fun R x k => match x with
  | ((x0Value, x0Mask), (x1Value, x1Mask)) => 
      k
        (W.wrap IntKind.u64 (W.or IntKind.u64 x0Value x1Value),
          W.wrap IntKind.u64
            (W.and IntKind.u64 (W.wrap IntKind.u64 (W.or IntKind.u64 x0Mask x1Mask))
              (W.wrap IntKind.u64 (W.xor IntKind.u64 18446744073709551615 (W.wrap IntKind.u64 (W.or IntKind.u64 x0Value x1Value))))))
theorem S_tnum_Or   : SpecOk Try.prog 68 (mkS ps_tnum_Or qs_tnum_Or (N_tnum_Or )) :=
  specOk_mk (fl := 10) (d := 12) base (by rintro R ⟨⟨x0Value, x0Mask⟩, ⟨x1Value, x1Mask⟩⟩ k; kernel_rfl)
noncomputable def F_tnum_Or : FT ps_tnum_Or qs_tnum_Or := N_tnum_Or  
theorem ok_tnum_Or : SpecOk Try.prog 68 (mkS ps_tnum_Or qs_tnum_Or F_tnum_Or) := S_tnum_Or 
abbrev ps_arith_pair_or : List PT := [.agg ((.prod ((.prod (.int .u64) (.prod (.int .u64) (.prod (.int .i64) (.prod (.int .i64) ((.prod (.int .u64) (.int .u64)))))))) ((.prod (.int .u64) (.prod (.int .u64) (.prod (.int .i64) (.prod (.int .i64) ((.prod (.int .u64) (.int .u64))))))))))]
abbrev qs_arith_pair_or : List PT := [.agg ((.prod (.int .u64) (.prod (.int .u64) (.prod (.int .i64) (.prod (.int .i64) ((.prod (.int .u64) (.int .u64))))))))]
noncomputable def N_arith_pair_or (F_arith_of : FT ps_arith_of qs_arith_of) (F_tnum_Or : FT ps_tnum_Or qs_tnum_Or)  : FT ps_arith_pair_or qs_arith_pair_or := fun R x k => match x with
  | ((x0a_Umin, x0a_Umax, x0a_Smin, x0a_Smax, (x0a_Bits_Value, x0a_Bits_Mask)), (x0b_Umin, x0b_Umax, x0b_Smin, x0b_Smax, (x0b_Bits_Value, x0b_Bits_Mask))) => 
      F_tnum_Or R ((x0a_Bits_Value, x0a_Bits_Mask), x0b_Bits_Value, x0b_Bits_Mask) fun y =>
        F_arith_of R (y.1, y.2) fun y => k (W.max x0a_Umin x0b_Umin, y.2.1, y.2.2.1, y.2.2.2.1, y.2.2.2.2.1, y.2.2.2.2.2)
theorem S_arith_pair_or {F_arith_of : FT ps_arith_of qs_arith_of} {F_tnum_Or : FT ps_tnum_Or qs_tnum_Or} (h_arith_of : SpecOk Try.prog 60 (mkS ps_arith_of qs_arith_of F_arith_of)) (h_tnum_Or : SpecOk Try.prog 68 (mkS ps_tnum_Or qs_tnum_Or F_tnum_Or)) : SpecOk Try.prog 38 (mkS ps_arith_pair_or qs_arith_pair_or (N_arith_pair_or F_arith_of F_tnum_Or)) :=
  specOk_mk (fl := 10) (d := 12) (cfgOk_cons (cfgOk_cons base h_tnum_Or) h_arith_of) (by rintro R ⟨⟨x0a_Umin, x0a_Umax, x0a_Smin, x0a_Smax, ⟨x0a_Bits_Value, x0a_Bits_Mask⟩⟩, ⟨x0b_Umin, x0b_Umax, x0b_Smin, x0b_Smax, ⟨x0b_Bits_Value, x0b_Bits_Mask⟩⟩⟩ k; kernel_rfl)
noncomputable def F_arith_pair_or : FT ps_arith_pair_or qs_arith_pair_or := N_arith_pair_or F_arith_of F_tnum_Or 
theorem ok_arith_pair_or : SpecOk Try.prog 38 (mkS ps_arith_pair_or qs_arith_pair_or F_arith_pair_or) := S_arith_pair_or ok_arith_of ok_tnum_Or
abbrev ps_tnum_Xor : List PT := [.agg ((.prod (.int .u64) (.int .u64))), .agg ((.prod (.int .u64) (.int .u64)))]
abbrev qs_tnum_Xor : List PT := [.agg ((.prod (.int .u64) (.int .u64)))]
noncomputable def N_tnum_Xor (F_tnum_tidy : FT ps_tnum_tidy qs_tnum_tidy)  : FT ps_tnum_Xor qs_tnum_Xor := fun R x k => match x with
  | ((x0Value, x0Mask), (x1Value, x1Mask)) => 
      F_tnum_tidy R (W.wrap IntKind.u64 (W.xor IntKind.u64 x0Value x1Value), W.wrap IntKind.u64 (W.or IntKind.u64 x0Mask x1Mask)) fun y => k (y.1, y.2)
theorem S_tnum_Xor {F_tnum_tidy : FT ps_tnum_tidy qs_tnum_tidy} (h_tnum_tidy : SpecOk Try.prog 72 (mkS ps_tnum_tidy qs_tnum_tidy F_tnum_tidy)) : SpecOk Try.prog 69 (mkS ps_tnum_Xor qs_tnum_Xor (N_tnum_Xor F_tnum_tidy)) :=
  specOk_mk (fl := 10) (d := 12) (cfgOk_cons base h_tnum_tidy) (by rintro R ⟨⟨x0Value, x0Mask⟩, ⟨x1Value, x1Mask⟩⟩ k; kernel_rfl)
noncomputable def F_tnum_Xor : FT ps_tnum_Xor qs_tnum_Xor := N_tnum_Xor F_tnum_tidy 
theorem ok_tnum_Xor : SpecOk Try.prog 69 (mkS ps_tnum_Xor qs_tnum_Xor F_tnum_Xor) := S_tnum_Xor ok_tnum_tidy
abbrev ps_arith_pair_xor : List PT := [.agg ((.prod ((.prod (.int .u64) (.prod (.int .u64) (.prod (.int .i64) (.prod (.int .i64) ((.prod (.int .u64) (.int .u64)))))))) ((.prod (.int .u64) (.prod (.int .u64) (.prod (.int .i64) (.prod (.int .i64) ((.prod (.int .u64) (.int .u64))))))))))]
abbrev qs_arith_pair_xor : List PT := [.agg ((.prod (.int .u64) (.prod (.int .u64) (.prod (.int .i64) (.prod (.int .i64) ((.prod (.int .u64) (.int .u64))))))))]
noncomputable def N_arith_pair_xor (F_arith_of : FT ps_arith_of qs_arith_of) (F_tnum_Xor : FT ps_tnum_Xor qs_tnum_Xor)  : FT ps_arith_pair_xor qs_arith_pair_xor := fun R x k => match x with
  | ((x0a_Umin, x0a_Umax, x0a_Smin, x0a_Smax, (x0a_Bits_Value, x0a_Bits_Mask)), (x0b_Umin, x0b_Umax, x0b_Smin, x0b_Smax, (x0b_Bits_Value, x0b_Bits_Mask))) => 
      F_tnum_Xor R ((x0a_Bits_Value, x0a_Bits_Mask), x0b_Bits_Value, x0b_Bits_Mask) fun y => F_arith_of R (y.1, y.2) fun y => k (y.1, y.2.1, y.2.2.1, y.2.2.2.1, y.2.2.2.2.1, y.2.2.2.2.2)
theorem S_arith_pair_xor {F_arith_of : FT ps_arith_of qs_arith_of} {F_tnum_Xor : FT ps_tnum_Xor qs_tnum_Xor} (h_arith_of : SpecOk Try.prog 60 (mkS ps_arith_of qs_arith_of F_arith_of)) (h_tnum_Xor : SpecOk Try.prog 69 (mkS ps_tnum_Xor qs_tnum_Xor F_tnum_Xor)) : SpecOk Try.prog 39 (mkS ps_arith_pair_xor qs_arith_pair_xor (N_arith_pair_xor F_arith_of F_tnum_Xor)) :=
  specOk_mk (fl := 10) (d := 12) (cfgOk_cons (cfgOk_cons base h_tnum_Xor) h_arith_of) (by rintro R ⟨⟨x0a_Umin, x0a_Umax, x0a_Smin, x0a_Smax, ⟨x0a_Bits_Value, x0a_Bits_Mask⟩⟩, ⟨x0b_Umin, x0b_Umax, x0b_Smin, x0b_Smax, ⟨x0b_Bits_Value, x0b_Bits_Mask⟩⟩⟩ k; kernel_rfl)
noncomputable def F_arith_pair_xor : FT ps_arith_pair_xor qs_arith_pair_xor := N_arith_pair_xor F_arith_of F_tnum_Xor 
theorem ok_arith_pair_xor : SpecOk Try.prog 39 (mkS ps_arith_pair_xor qs_arith_pair_xor F_arith_pair_xor) := S_arith_pair_xor ok_arith_of ok_tnum_Xor
abbrev ps_arith_pair_by : List PT := [.agg ((.prod ((.prod (.int .u64) (.prod (.int .u64) (.prod (.int .i64) (.prod (.int .i64) ((.prod (.int .u64) (.int .u64)))))))) ((.prod (.int .u64) (.prod (.int .u64) (.prod (.int .i64) (.prod (.int .i64) ((.prod (.int .u64) (.int .u64))))))))))]
abbrev qs_arith_pair_by : List PT := [.one (.int .i64), .one (.bool)]
noncomputable def N_arith_pair_by (F_bound_Value : FT ps_bound_Value qs_bound_Value)  : FT ps_arith_pair_by qs_arith_pair_by := fun R x k => match x with
  | ((x0a_Umin, x0a_Umax, x0a_Smin, x0a_Smax, (x0a_Bits_Value, x0a_Bits_Mask)), (x0b_Umin, x0b_Umax, x0b_Smin, x0b_Smax, (x0b_Bits_Value, x0b_Bits_Mask))) => 
      F_bound_Value R (x0b_Umin, x0b_Umax, x0b_Smin, x0b_Smax, x0b_Bits_Value, x0b_Bits_Mask) fun y => k (W.wrap IntKind.i64 (W.wrap IntKind.u64 (W.and IntKind.u64 y.1 63)), y.2)
theorem S_arith_pair_by {F_bound_Value : FT ps_bound_Value qs_bound_Value} (h_bound_Value : SpecOk Try.prog 47 (mkS ps_bound_Value qs_bound_Value F_bound_Value)) : SpecOk Try.prog 70 (mkS ps_arith_pair_by qs_arith_pair_by (N_arith_pair_by F_bound_Value)) :=
  specOk_mk (fl := 10) (d := 12) (cfgOk_cons base h_bound_Value) (by rintro R ⟨⟨x0a_Umin, x0a_Umax, x0a_Smin, x0a_Smax, ⟨x0a_Bits_Value, x0a_Bits_Mask⟩⟩, ⟨x0b_Umin, x0b_Umax, x0b_Smin, x0b_Smax, ⟨x0b_Bits_Value, x0b_Bits_Mask⟩⟩⟩ k; kernel_rfl)
noncomputable def F_arith_pair_by : FT ps_arith_pair_by qs_arith_pair_by := N_arith_pair_by F_bound_Value 
theorem ok_arith_pair_by : SpecOk Try.prog 70 (mkS ps_arith_pair_by qs_arith_pair_by F_arith_pair_by) := S_arith_pair_by ok_bound_Value
abbrev ps_arith_pair_lsh : List PT := [.agg ((.prod ((.prod (.int .u64) (.prod (.int .u64) (.prod (.int .i64) (.prod (.int .i64) ((.prod (.int .u64) (.int .u64)))))))) ((.prod (.int .u64) (.prod (.int .u64) (.prod (.int .i64) (.prod (.int .i64) ((.prod (.int .u64) (.int .u64))))))))))]
abbrev qs_arith_pair_lsh : List PT := [.agg ((.prod (.int .u64) (.prod (.int .u64) (.prod (.int .i64) (.prod (.int .i64) ((.prod (.int .u64) (.int .u64))))))))]
noncomputable def N_arith_pair_lsh (F_bound_Any : FT ps_bound_Any qs_bound_Any) (F_arith_of : FT ps_arith_of qs_arith_of) (F_arith_pair_by : FT ps_arith_pair_by qs_arith_pair_by) (F_tnum_Shift : FT ps_tnum_Shift qs_tnum_Shift)  : FT ps_arith_pair_lsh qs_arith_pair_lsh := fun R x k => match x with
  | ((x0a_Umin, x0a_Umax, x0a_Smin, x0a_Smax, (x0a_Bits_Value, x0a_Bits_Mask)), (x0b_Umin, x0b_Umax, x0b_Smin, x0b_Smax, (x0b_Bits_Value, x0b_Bits_Mask))) => 
      F_arith_pair_by R ((x0a_Umin, x0a_Umax, x0a_Smin, x0a_Smax, x0a_Bits_Value, x0a_Bits_Mask), x0b_Umin, x0b_Umax, x0b_Smin, x0b_Smax, x0b_Bits_Value, x0b_Bits_Mask) fun y =>
        br (W.not y.2) (F_bound_Any R () fun y => k (y.1, y.2.1, y.2.2.1, y.2.2.2.1, y.2.2.2.2.1, y.2.2.2.2.2))
          (F_tnum_Shift R (96, (x0a_Bits_Value, x0a_Bits_Mask), y.1) fun y_1 =>
            F_arith_of R (y_1.1, y_1.2) fun y_2 =>
              br (W.lt y.1 0) none
                (br (W.lt y.1 0) none
                  (br (W.eq (W.shr IntKind.u64 (W.wrap IntKind.u64 (W.shl IntKind.u64 x0a_Umax y.1)) y.1) x0a_Umax)
                    (br (W.lt y.1 0) none
                      (br (W.lt y.1 0) none
                        (k (W.wrap IntKind.u64 (W.shl IntKind.u64 x0a_Umin y.1), W.wrap IntKind.u64 (W.shl IntKind.u64 x0a_Umax y.1), y_2.2.2.1, y_2.2.2.2.1, y_2.2.2.2.2.1, y_2.2.2.2.2.2))))
                    (k (y_2.1, y_2.2.1, y_2.2.2.1, y_2.2.2.2.1, y_2.2.2.2.2.1, y_2.2.2.2.2.2)))))
theorem S_arith_pair_lsh {F_bound_Any : FT ps_bound_Any qs_bound_Any} {F_arith_of : FT ps_arith_of qs_arith_of} {F_arith_pair_by : FT ps_arith_pair_by qs_arith_pair_by} {F_tnum_Shift : FT ps_tnum_Shift qs_tnum_Shift} (h_bound_Any : SpecOk Try.prog 18 (mkS ps_bound_Any qs_bound_Any F_bound_Any)) (h_arith_of : SpecOk Try.prog 60 (mkS ps_arith_of qs_arith_of F_arith_of)) (h_arith_pair_by : SpecOk Try.prog 70 (mkS ps_arith_pair_by qs_arith_pair_by F_arith_pair_by)) (h_tnum_Shift : SpecOk Try.prog 71 (mkS ps_tnum_Shift qs_tnum_Shift F_tnum_Shift)) : SpecOk Try.prog 40 (mkS ps_arith_pair_lsh qs_arith_pair_lsh (N_arith_pair_lsh F_bound_Any F_arith_of F_arith_pair_by F_tnum_Shift)) :=
  specOk_mk (fl := 10) (d := 12) (cfgOk_cons (cfgOk_cons (cfgOk_cons (cfgOk_cons base h_tnum_Shift) h_arith_pair_by) h_arith_of) h_bound_Any) (by rintro R ⟨⟨x0a_Umin, x0a_Umax, x0a_Smin, x0a_Smax, ⟨x0a_Bits_Value, x0a_Bits_Mask⟩⟩, ⟨x0b_Umin, x0b_Umax, x0b_Smin, x0b_Smax, ⟨x0b_Bits_Value, x0b_Bits_Mask⟩⟩⟩ k; kernel_rfl)
noncomputable def F_arith_pair_lsh : FT ps_arith_pair_lsh qs_arith_pair_lsh := N_arith_pair_lsh F_bound_Any F_arith_of F_arith_pair_by F_tnum_Shift 
theorem ok_arith_pair_lsh : SpecOk Try.prog 40 (mkS ps_arith_pair_lsh qs_arith_pair_lsh F_arith_pair_lsh) := S_arith_pair_lsh ok_bound_Any ok_arith_of ok_arith_pair_by ok_tnum_Shift
abbrev ps_arith_pair_rsh : List PT := [.agg ((.prod ((.prod (.int .u64) (.prod (.int .u64) (.prod (.int .i64) (.prod (.int .i64) ((.prod (.int .u64) (.int .u64)))))))) ((.prod (.int .u64) (.prod (.int .u64) (.prod (.int .i64) (.prod (.int .i64) ((.prod (.int .u64) (.int .u64))))))))))]
abbrev qs_arith_pair_rsh : List PT := [.agg ((.prod (.int .u64) (.prod (.int .u64) (.prod (.int .i64) (.prod (.int .i64) ((.prod (.int .u64) (.int .u64))))))))]
noncomputable def N_arith_pair_rsh (F_arith_of : FT ps_arith_of qs_arith_of) (F_arith_upto : FT ps_arith_upto qs_arith_upto) (F_arith_pair_by : FT ps_arith_pair_by qs_arith_pair_by) (F_tnum_Shift : FT ps_tnum_Shift qs_tnum_Shift)  : FT ps_arith_pair_rsh qs_arith_pair_rsh := fun R x k => match x with
  | ((x0a_Umin, x0a_Umax, x0a_Smin, x0a_Smax, (x0a_Bits_Value, x0a_Bits_Mask)), (x0b_Umin, x0b_Umax, x0b_Smin, x0b_Smax, (x0b_Bits_Value, x0b_Bits_Mask))) => 
      F_arith_pair_by R ((x0a_Umin, x0a_Umax, x0a_Smin, x0a_Smax, x0a_Bits_Value, x0a_Bits_Mask), x0b_Umin, x0b_Umax, x0b_Smin, x0b_Smax, x0b_Bits_Value, x0b_Bits_Mask) fun y =>
        br (W.not y.2) (F_arith_upto R x0a_Umax fun y => k (y.1, y.2.1, y.2.2.1, y.2.2.2.1, y.2.2.2.2.1, y.2.2.2.2.2))
          (F_tnum_Shift R (112, (x0a_Bits_Value, x0a_Bits_Mask), y.1) fun y_1 =>
            F_arith_of R (y_1.1, y_1.2) fun y_2 =>
              br (W.lt y.1 0) none (br (W.lt y.1 0) none (k (W.shr IntKind.u64 x0a_Umin y.1, W.shr IntKind.u64 x0a_Umax y.1, y_2.2.2.1, y_2.2.2.2.1, y_2.2.2.2.2.1, y_2.2.2.2.2.2))))
theorem S_arith_pair_rsh {F_arith_of : FT ps_arith_of qs_arith_of} {F_arith_upto : FT ps_arith_upto qs_arith_upto} {F_arith_pair_by : FT ps_arith_pair_by qs_arith_pair_by} {F_tnum_Shift : FT ps_tnum_Shift qs_tnum_Shift} (h_arith_of : SpecOk Try.prog 60 (mkS ps_arith_of qs_arith_of F_arith_of)) (h_arith_upto : SpecOk Try.prog 66 (mkS ps_arith_upto qs_arith_upto F_arith_upto)) (h_arith_pair_by : SpecOk Try.prog 70 (mkS ps_arith_pair_by qs_arith_pair_by F_arith_pair_by)) (h_tnum_Shift : SpecOk Try.prog 71 (mkS ps_tnum_Shift qs_tnum_Shift F_tnum_Shift)) : SpecOk Try.prog 41 (mkS ps_arith_pair_rsh qs_arith_pair_rsh (N_arith_pair_rsh F_arith_of F_arith_upto F_arith_pair_by F_tnum_Shift)) :=
  specOk_mk (fl := 10) (d := 12) (cfgOk_cons (cfgOk_cons (cfgOk_cons (cfgOk_cons base h_tnum_Shift) h_arith_pair_by) h_arith_upto) h_arith_of) (by rintro R ⟨⟨x0a_Umin, x0a_Umax, x0a_Smin, x0a_Smax, ⟨x0a_Bits_Value, x0a_Bits_Mask⟩⟩, ⟨x0b_Umin, x0b_Umax, x0b_Smin, x0b_Smax, ⟨x0b_Bits_Value, x0b_Bits_Mask⟩⟩⟩ k; kernel_rfl)
noncomputable def F_arith_pair_rsh : FT ps_arith_pair_rsh qs_arith_pair_rsh := N_arith_pair_rsh F_arith_of F_arith_upto F_arith_pair_by F_tnum_Shift 
theorem ok_arith_pair_rsh : SpecOk Try.prog 41 (mkS ps_arith_pair_rsh qs_arith_pair_rsh F_arith_pair_rsh) := S_arith_pair_rsh ok_arith_of ok_arith_upto ok_arith_pair_by ok_tnum_Shift
abbrev ps_arith_pair_arsh : List PT := [.agg ((.prod ((.prod (.int .u64) (.prod (.int .u64) (.prod (.int .i64) (.prod (.int .i64) ((.prod (.int .u64) (.int .u64)))))))) ((.prod (.int .u64) (.prod (.int .u64) (.prod (.int .i64) (.prod (.int .i64) ((.prod (.int .u64) (.int .u64))))))))))]
abbrev qs_arith_pair_arsh : List PT := [.agg ((.prod (.int .u64) (.prod (.int .u64) (.prod (.int .i64) (.prod (.int .i64) ((.prod (.int .u64) (.int .u64))))))))]
noncomputable def N_arith_pair_arsh (F_bound_Any : FT ps_bound_Any qs_bound_Any) (F_arith_of : FT ps_arith_of qs_arith_of) (F_arith_pair_by : FT ps_arith_pair_by qs_arith_pair_by) (F_tnum_Shift : FT ps_tnum_Shift qs_tnum_Shift)  : FT ps_arith_pair_arsh qs_arith_pair_arsh := fun R x k => match x with
  | ((x0a_Umin, x0a_Umax, x0a_Smin, x0a_Smax, (x0a_Bits_Value, x0a_Bits_Mask)), (x0b_Umin, x0b_Umax, x0b_Smin, x0b_Smax, (x0b_Bits_Value, x0b_Bits_Mask))) => 
      F_arith_pair_by R ((x0a_Umin, x0a_Umax, x0a_Smin, x0a_Smax, x0a_Bits_Value, x0a_Bits_Mask), x0b_Umin, x0b_Umax, x0b_Smin, x0b_Smax, x0b_Bits_Value, x0b_Bits_Mask) fun y =>
        br (W.not y.2) (F_bound_Any R () fun y => k (y.1, y.2.1, y.2.2.1, y.2.2.2.1, y.2.2.2.2.1, y.2.2.2.2.2))
          (F_tnum_Shift R (192, (x0a_Bits_Value, x0a_Bits_Mask), y.1) fun y_1 =>
            F_arith_of R (y_1.1, y_1.2) fun y_2 =>
              br (W.lt y.1 0) none (br (W.lt y.1 0) none (k (y_2.1, y_2.2.1, W.shr IntKind.i64 x0a_Smin y.1, W.shr IntKind.i64 x0a_Smax y.1, y_2.2.2.2.2.1, y_2.2.2.2.2.2))))
theorem S_arith_pair_arsh {F_bound_Any : FT ps_bound_Any qs_bound_Any} {F_arith_of : FT ps_arith_of qs_arith_of} {F_arith_pair_by : FT ps_arith_pair_by qs_arith_pair_by} {F_tnum_Shift : FT ps_tnum_Shift qs_tnum_Shift} (h_bound_Any : SpecOk Try.prog 18 (mkS ps_bound_Any qs_bound_Any F_bound_Any)) (h_arith_of : SpecOk Try.prog 60 (mkS ps_arith_of qs_arith_of F_arith_of)) (h_arith_pair_by : SpecOk Try.prog 70 (mkS ps_arith_pair_by qs_arith_pair_by F_arith_pair_by)) (h_tnum_Shift : SpecOk Try.prog 71 (mkS ps_tnum_Shift qs_tnum_Shift F_tnum_Shift)) : SpecOk Try.prog 42 (mkS ps_arith_pair_arsh qs_arith_pair_arsh (N_arith_pair_arsh F_bound_Any F_arith_of F_arith_pair_by F_tnum_Shift)) :=
  specOk_mk (fl := 10) (d := 12) (cfgOk_cons (cfgOk_cons (cfgOk_cons (cfgOk_cons base h_tnum_Shift) h_arith_pair_by) h_arith_of) h_bound_Any) (by rintro R ⟨⟨x0a_Umin, x0a_Umax, x0a_Smin, x0a_Smax, ⟨x0a_Bits_Value, x0a_Bits_Mask⟩⟩, ⟨x0b_Umin, x0b_Umax, x0b_Smin, x0b_Smax, ⟨x0b_Bits_Value, x0b_Bits_Mask⟩⟩⟩ k; kernel_rfl)
noncomputable def F_arith_pair_arsh : FT ps_arith_pair_arsh qs_arith_pair_arsh := N_arith_pair_arsh F_bound_Any F_arith_of F_arith_pair_by F_tnum_Shift 
theorem ok_arith_pair_arsh : SpecOk Try.prog 42 (mkS ps_arith_pair_arsh qs_arith_pair_arsh F_arith_pair_arsh) := S_arith_pair_arsh ok_bound_Any ok_arith_of ok_arith_pair_by ok_tnum_Shift
abbrev pa_arith_pair_narrow_1 : List PV := [(.agg [(.int .u64), (.int .u64), (.int .i64), (.int .i64), (.int .u64), (.int .u64), (.int .u64), (.int .u64), (.int .i64), (.int .i64), (.int .u64), (.int .u64)]), (.int .i64), (.fn 30 [])]
abbrev ph_arith_pair_narrow_1 : List PB := [pbD, pbD, pbD, pbM, (.cells [(.int .u64), (.int .u64), (.int .i64), (.int .i64), (.int .u64), (.int .u64), (.int .u64), (.int .u64), (.int .i64), (.int .i64), (.int .u64), (.int .u64)])]
abbrev pr_arith_pair_narrow_1 : PV := (.agg [(.int .u64), (.int .u64), (.int .i64), (.int .i64), (.int .u64), (.int .u64)])
abbrev pz_arith_pair_narrow_1 : List PB := [pbD, pbD, pbD, pbM, (.cells [(.int .u64), (.int .u64), (.int .i64), (.int .i64), (.int .u64), (.int .u64), (.int .u64), (.int .u64), (.int .i64), (.int .i64), (.int .u64), (.int .u64)])]
abbrev IT_arith_pair_narrow_1 : Type := (Int) × (Int) × (Int) × (Int) × (Int) × (Int) × (Int) × (Int) × (Int) × (Int) × (Int) × (Int) × (Int) × (Int) × (Int) × (Int) × (Int) × (Int) × (Int) × (Int) × (Int) × (Int) × (Int) × (Int) × (Int) × (Int) × (Int) × (Int) × (Int) × (Int) × (Int) × (Int) × (Int) × (Int) × (Int) × (Int) × (Int) × (Int) × (Int) × (Int) × (Int) × (Int) × (Int) × Unit
abbrev OT_arith_pair_narrow_1 : Type := (Int) × (Int) × (Int) × (Int) × (Int) × (Int) × (Int) × (Int) × (Int) × (Int) × (Int) × (Int) × (Int) × (Int) × (Int) × (Int) × (Int) × (Int) × (Int) × (Int) × (Int) × (Int) × (Int) × (Int) × (Int) × (Int) × (Int) × (Int) × (Int) × (Int) × (Int) × (Int) × (Int) × (Int) × (Int) × (Int) × Unit
abbrev TE_arith_pair_narrow_1 : Type 1 := (R : Type) → IT_arith_pair_narrow_1 → (OT_arith_pair_narrow_1 → Option R) → Option R
noncomputable def arith_narrowG (F_arith_tidy : FT ps_arith_tidy qs_arith_tidy) (F_bound_Size : FT ps_bound_Size qs_bound_Size) (F_bound_Low : FT ps_bound_Low qs_bound_Low) (F_bound_Value : FT ps_bound_Value qs_bound_Value) (F_bound_Const : FT ps_bound_Const qs_bound_Const) (f : FT ps_arith_pair_add qs_arith_pair_add) (F_arith_pair_rsh : FT ps_arith_pair_rsh qs_arith_pair_rsh) : TE_arith_pair_narrow_1 := fun R x k => match x with
  | (y0, y1, y2, y3, y4, y5, y6, y7, y8, y9, y10, y11, y12, y13, y14, y15, y16, y17, y18, y19, y20, y21, y22, y23, y24, y25, y26, y27, y28, y29, y30, y31, y32, y33, y34, y35, y36, y37, y38, y39, y40, y41, y42, ()) => 
      F_bound_Low R (y0, y1, y2, y3, y4, y5) fun y =>
        F_bound_Low R (y6, y7, y8, y9, y10, y11) fun y_1 =>
          br (W.eq y12 96)
            (br (W.eq y12 96)
              (F_bound_Value R (y_1.1, y_1.2.1, y_1.2.2.1, y_1.2.2.2.1, y_1.2.2.2.2.1, y_1.2.2.2.2.2) fun y_2 =>
                br y_2.2
                  (F_bound_Const R (W.wrap IntKind.u64 (W.and IntKind.u64 y_2.1 31)) fun y_3 =>
                    br (W.pick (W.pick (W.ne y12 112) (W.not y_2.2) false) true (W.pick (W.eq y12 192) (W.gt y.2.1 2147483647) false))
                      (F_bound_Size R 4 fun y =>
                        k
                          (y.1, y.2.1, y.2.2.1, y.2.2.2.1, y.2.2.2.2.1, y.2.2.2.2.2, y13, y14, y15, y16, y17, y18, y19, y20, y21, y22, y23, y24, y25, y26, y27, y28, y29, y30, y31, y32, y33, y34, y35, y36,
                            y37, y38, y39, y40, y41, y42, ()))
                      (br (W.eq y12 192)
                        (F_arith_pair_rsh R ((y.1, y.2.1, y.2.2.1, y.2.2.2.1, y.2.2.2.2.1, y.2.2.2.2.2), y_3.1, y_3.2.1, y_3.2.2.1, y_3.2.2.2.1, y_3.2.2.2.2.1, y_3.2.2.2.2.2) fun y =>
                          F_arith_tidy R (y.1, y.2.1, y.2.2.1, y.2.2.2.1, y.2.2.2.2.1, y.2.2.2.2.2) fun y =>
                            F_bound_Low R (y.1, y.2.1, y.2.2.1, y.2.2.2.1, y.2.2.2.2.1, y.2.2.2.2.2) fun y =>
                              k
                                (y.1, y.2.1, y.2.2.1, y.2.2.2.1, y.2.2.2.2.1, y.2.2.2.2.2, y13, y14, y15, y16, y17, y18, y19, y20, y21, y22, y23, y24, y25, y26, y27, y28, y29, y30, y31, y32, y33, y34, y35,
                                  y36, y37, y38, y39, y40, y41, y42, ()))
                        (f R ((y.1, y.2.1, y.2.2.1, y.2.2.2.1, y.2.2.2.2.1, y.2.2.2.2.2), y_3.1, y_3.2.1, y_3.2.2.1, y_3.2.2.2.1, y_3.2.2.2.2.1, y_3.2.2.2.2.2) fun y =>
                          F_arith_tidy R (y.1, y.2.1, y.2.2.1, y.2.2.2.1, y.2.2.2.2.1, y.2.2.2.2.2) fun y =>
                            F_bound_Low R (y.1, y.2.1, y.2.2.1, y.2.2.2.1, y.2.2.2.2.1, y.2.2.2.2.2) fun y =>
                              k
                                (y.1, y.2.1, y.2.2.1, y.2.2.2.1, y.2.2.2.2.1, y.2.2.2.2.2, y13, y14, y15, y16, y17, y18, y19, y20, y21, y22, y23, y24, y25, y26, y27, y28, y29, y30, y31, y32, y33, y34, y35,
                                  y36, y37, y38, y39, y40, y41, y42, ()))))
                  (br (W.pick (W.pick (W.ne y12 112) (W.not y_2.2) false) true (W.pick (W.eq y12 192) (W.gt y.2.1 2147483647) false))
                    (F_bound_Size R 4 fun y =>
                      k
                        (y.1, y.2.1, y.2.2.1, y.2.2.2.1, y.2.2.2.2.1, y.2.2.2.2.2, y13, y14, y15, y16, y17, y18, y19, y20, y21, y22, y23, y24, y25, y26, y27, y28, y29, y30, y31, y32, y33, y34, y35, y36,
                          y37, y38, y39, y40, y41, y42, ()))
                    (br (W.eq y12 192)
                      (F_arith_pair_rsh R ((y.1, y.2.1, y.2.2.1, y.2.2.2.1, y.2.2.2.2.1, y.2.2.2.2.2), y_1.1, y_1.2.1, y_1.2.2.1, y_1.2.2.2.1, y_1.2.2.2.2.1, y_1.2.2.2.2.2) fun y =>
                        F_arith_tidy R (y.1, y.2.1, y.2.2.1, y.2.2.2.1, y.2.2.2.2.1, y.2.2.2.2.2) fun y =>
                          F_bound_Low R (y.1, y.2.1, y.2.2.1, y.2.2.2.1, y.2.2.2.2.1, y.2.2.2.2.2) fun y =>
                            k
                              (y.1, y.2.1, y.2.2.1, y.2.2.2.1, y.2.2.2.2.1, y.2.2.2.2.2, y13, y14, y15, y16, y17, y18, y19, y20, y21, y22, y23, y24, y25, y26, y27, y28, y29, y30, y31, y32, y33, y34, y35,
                                y36, y37, y38, y39, y40, y41, y42, ()))
                      (f R ((y.1, y.2.1, y.2.2.1, y.2.2.2.1, y.2.2.2.2.1, y.2.2.2.2.2), y_1.1, y_1.2.1, y_1.2.2.1, y_1.2.2.2.1, y_1.2.2.2.2.1, y_1.2.2.2.2.2) fun y =>
                        F_arith_tidy R (y.1, y.2.1, y.2.2.1, y.2.2.2.1, y.2.2.2.2.1, y.2.2.2.2.2) fun y =>
                          F_bound_Low R (y.1, y.2.1, y.2.2.1, y.2.2.2.1, y.2.2.2.2.1, y.2.2.2.2.2) fun y =>
                            k
                              (y.1, y.2.1, y.2.2.1, y.2.2.2.1, y.2.2.2.2.1, y.2.2.2.2.2, y13, y14, y15, y16, y17, y18, y19, y20, y21, y22, y23, y24, y25, y26, y27, y28, y29, y30, y31, y32, y33, y34, y35,
                                y36, y37, y38, y39, y40, y41, y42, ())))))
              (f R ((y.1, y.2.1, y.2.2.1, y.2.2.2.1, y.2.2.2.2.1, y.2.2.2.2.2), y_1.1, y_1.2.1, y_1.2.2.1, y_1.2.2.2.1, y_1.2.2.2.2.1, y_1.2.2.2.2.2) fun y =>
                F_arith_tidy R (y.1, y.2.1, y.2.2.1, y.2.2.2.1, y.2.2.2.2.1, y.2.2.2.2.2) fun y =>
                  F_bound_Low R (y.1, y.2.1, y.2.2.1, y.2.2.2.1, y.2.2.2.2.1, y.2.2.2.2.2) fun y =>
                    k
                      (y.1, y.2.1, y.2.2.1, y.2.2.2.1, y.2.2.2.2.1, y.2.2.2.2.2, y13, y14, y15, y16, y17, y18, y19, y20, y21, y22, y23, y24, y25, y26, y27, y28, y29, y30, y31, y32, y33, y34, y35, y36, y37,
                        y38, y39, y40, y41, y42, ())))
            (br (W.eq y12 112)
              (br (W.eq y12 112)
                (F_bound_Value R (y_1.1, y_1.2.1, y_1.2.2.1, y_1.2.2.2.1, y_1.2.2.2.2.1, y_1.2.2.2.2.2) fun y_2 =>
                  br y_2.2
                    (F_bound_Const R (W.wrap IntKind.u64 (W.and IntKind.u64 y_2.1 31)) fun y_3 =>
                      br (W.pick (W.pick (W.ne y12 112) (W.not y_2.2) false) true (W.pick (W.eq y12 192) (W.gt y.2.1 2147483647) false))
                        (F_bound_Size R 4 fun y =>
                          k
                            (y.1, y.2.1, y.2.2.1, y.2.2.2.1, y.2.2.2.2.1, y.2.2.2.2.2, y13, y14, y15, y16, y17, y18, y19, y20, y21, y22, y23, y24, y25, y26, y27, y28, y29, y30, y31, y32, y33, y34, y35, y36,
                              y37, y38, y39, y40, y41, y42, ()))
                        (br (W.eq y12 192)
                          (F_arith_pair_rsh R ((y.1, y.2.1, y.2.2.1, y.2.2.2.1, y.2.2.2.2.1, y.2.2.2.2.2), y_3.1, y_3.2.1, y_3.2.2.1, y_3.2.2.2.1, y_3.2.2.2.2.1, y_3.2.2.2.2.2) fun y =>
                            F_arith_tidy R (y.1, y.2.1, y.2.2.1, y.2.2.2.1, y.2.2.2.2.1, y.2.2.2.2.2) fun y =>
                              F_bound_Low R (y.1, y.2.1, y.2.2.1, y.2.2.2.1, y.2.2.2.2.1, y.2.2.2.2.2) fun y =>
                                k
                                  (y.1, y.2.1, y.2.2.1, y.2.2.2.1, y.2.2.2.2.1, y.2.2.2.2.2, y13, y14, y15, y16, y17, y18, y19, y20, y21, y22, y23, y24, y25, y26, y27, y28, y29, y30, y31, y32, y33, y34,
                                    y35, y36, y37, y38, y39, y40, y41, y42, ()))
                          (f R ((y.1, y.2.1, y.2.2.1, y.2.2.2.1, y.2.2.2.2.1, y.2.2.2.2.2), y_3.1, y_3.2.1, y_3.2.2.1, y_3.2.2.2.1, y_3.2.2.2.2.1, y_3.2.2.2.2.2) fun y =>
                            F_arith_tidy R (y.1, y.2.1, y.2.2.1, y.2.2.2.1, y.2.2.2.2.1, y.2.2.2.2.2) fun y =>
                              F_bound_Low R (y.1, y.2.1, y.2.2.1, y.2.2.2.1, y.2.2.2.2.1, y.2.2.2.2.2) fun y =>
                                k
                                  (y.1, y.2.1, y.2.2.1, y.2.2.2.1, y.2.2.2.2.1, y.2.2.2.2.2, y13, y14, y15, y16, y17, y18, y19, y20, y21, y22, y23, y24, y25, y26, y27, y28, y29, y30, y31, y32, y33, y34,
                                    y35, y36, y37, y38, y39, y40, y41, y42, ()))))
                    (br (W.pick (W.pick (W.ne y12 112) (W.not y_2.2) false) true (W.pick (W.eq y12 192) (W.gt y.2.1 2147483647) false))
                      (F_bound_Size R 4 fun y =>
                        k
                          (y.1, y.2.1, y.2.2.1, y.2.2.2.1, y.2.2.2.2.1, y.2.2.2.2.2, y13, y14, y15, y16, y17, y18, y19, y20, y21, y22, y23, y24, y25, y26, y27, y28, y29, y30, y31, y32, y33, y34, y35, y36,
                            y37, y38, y39, y40, y41, y42, ()))
                      (br (W.eq y12 192)
                        (F_arith_pair_rsh R ((y.1, y.2.1, y.2.2.1, y.2.2.2.1, y.2.2.2.2.1, y.2.2.2.2.2), y_1.1, y_1.2.1, y_1.2.2.1, y_1.2.2.2.1, y_1.2.2.2.2.1, y_1.2.2.2.2.2) fun y =>
                          F_arith_tidy R (y.1, y.2.1, y.2.2.1, y.2.2.2.1, y.2.2.2.2.1, y.2.2.2.2.2) fun y =>
                            F_bound_Low R (y.1, y.2.1, y.2.2.1, y.2.2.2.1, y.2.2.2.2.1, y.2.2.2.2.2) fun y =>
                              k
                                (y.1, y.2.1, y.2.2.1, y.2.2.2.1, y.2.2.2.2.1, y.2.2.2.2.2, y13, y14, y15, y16, y17, y18, y19, y20, y21, y22, y23, y24, y25, y26, y27, y28, y29, y30, y31, y32, y33, y34, y35,
                                  y36, y37, y38, y39, y40, y41, y42, ()))
                        (f R ((y.1, y.2.1, y.2.2.1, y.2.2.2.1, y.2.2.2.2.1, y.2.2.2.2.2), y_1.1, y_1.2.1, y_1.2.2.1, y_1.2.2.2.1, y_1.2.2.2.2.1, y_1.2.2.2.2.2) fun y =>
                          F_arith_tidy R (y.1, y.2.1, y.2.2.1, y.2.2.2.1, y.2.2.2.2.1, y.2.2.2.2.2) fun y =>
                            F_bound_Low R (y.1, y.2.1, y.2.2.1, y.2.2.2.1, y.2.2.2.2.1, y.2.2.2.2.2) fun y =>
                              k
                                (y.1, y.2.1, y.2.2.1, y.2.2.2.1, y.2.2.2.2.1, y.2.2.2.2.2, y13, y14, y15, y16, y17, y18, y19, y20, y21, y22, y23, y24, y25, y26, y27, y28, y29, y30, y31, y32, y33, y34, y35,
                                  y36, y37, y38, y39, y40, y41, y42, ())))))
                (f R ((y.1, y.2.1, y.2.2.1, y.2.2.2.1, y.2.2.2.2.1, y.2.2.2.2.2), y_1.1, y_1.2.1, y_1.2.2.1, y_1.2.2.2.1, y_1.2.2.2.2.1, y_1.2.2.2.2.2) fun y =>
                  F_arith_tidy R (y.1, y.2.1, y.2.2.1, y.2.2.2.1, y.2.2.2.2.1, y.2.2.2.2.2) fun y =>
                    F_bound_Low R (y.1, y.2.1, y.2.2.1, y.2.2.2.1, y.2.2.2.2.1, y.2.2.2.2.2) fun y =>
                      k
                        (y.1, y.2.1, y.2.2.1, y.2.2.2.1, y.2.2.2.2.1, y.2.2.2.2.2, y13, y14, y15, y16, y17, y18, y19, y20, y21, y22, y23, y24, y25, y26, y27, y28, y29, y30, y31, y32, y33, y34, y35, y36,
                          y37, y38, y39, y40, y41, y42, ())))
              (br (W.eq y12 192)
                (F_bound_Value R (y_1.1, y_1.2.1, y_1.2.2.1, y_1.2.2.2.1, y_1.2.2.2.2.1, y_1.2.2.2.2.2) fun y_2 =>
                  br y_2.2
                    (F_bound_Const R (W.wrap IntKind.u64 (W.and IntKind.u64 y_2.1 31)) fun y_3 =>
                      br (W.pick (W.pick (W.ne y12 112) (W.not y_2.2) false) true (W.pick (W.eq y12 192) (W.gt y.2.1 2147483647) false))
                        (F_bound_Size R 4 fun y =>
                          k
                            (y.1, y.2.1, y.2.2.1, y.2.2.2.1, y.2.2.2.2.1, y.2.2.2.2.2, y13, y14, y15, y16, y17, y18, y19, y20, y21, y22, y23, y24, y25, y26, y27, y28, y29, y30, y31, y32, y33, y34, y35, y36,
                              y37, y38, y39, y40, y41, y42, ()))
                        (br (W.eq y12 192)
                          (F_arith_pair_rsh R ((y.1, y.2.1, y.2.2.1, y.2.2.2.1, y.2.2.2.2.1, y.2.2.2.2.2), y_3.1, y_3.2.1, y_3.2.2.1, y_3.2.2.2.1, y_3.2.2.2.2.1, y_3.2.2.2.2.2) fun y =>
                            F_arith_tidy R (y.1, y.2.1, y.2.2.1, y.2.2.2.1, y.2.2.2.2.1, y.2.2.2.2.2) fun y =>
                              F_bound_Low R (y.1, y.2.1, y.2.2.1, y.2.2.2.1, y.2.2.2.2.1, y.2.2.2.2.2) fun y =>
                                k
                                  (y.1, y.2.1, y.2.2.1, y.2.2.2.1, y.2.2.2.2.1, y.2.2.2.2.2, y13, y14, y15, y16, y17, y18, y19, y20, y21, y22, y23, y24, y25, y26, y27, y28, y29, y30, y31, y32, y33, y34,
                                    y35, y36, y37, y38, y39, y40, y41, y42, ()))
                          (f R ((y.1, y.2.1, y.2.2.1, y.2.2.2.1, y.2.2.2.2.1, y.2.2.2.2.2), y_3.1, y_3.2.1, y_3.2.2.1, y_3.2.2.2.1, y_3.2.2.2.2.1, y_3.2.2.2.2.2) fun y =>
                            F_arith_tidy R (y.1, y.2.1, y.2.2.1, y.2.2.2.1, y.2.2.2.2.1, y.2.2.2.2.2) fun y =>
                              F_bound_Low R (y.1, y.2.1, y.2.2.1, y.2.2.2.1, y.2.2.2.2.1, y.2.2.2.2.2) fun y =>
                                k
                                  (y.1, y.2.1, y.2.2.1, y.2.2.2.1, y.2.2.2.2.1, y.2.2.2.2.2, y13, y14, y15, y16, y17, y18, y19, y20, y21, y22, y23, y24, y25, y26, y27, y28, y29, y30, y31, y32, y33, y34,
                                    y35, y36, y37, y38, y39, y40, y41, y42, ()))))
                    (br (W.pick (W.pick (W.ne y12 112) (W.not y_2.2) false) true (W.pick (W.eq y12 192) (W.gt y.2.1 2147483647) false))
                      (F_bound_Size R 4 fun y =>
                        k
                          (y.1, y.2.1, y.2.2.1, y.2.2.2.1, y.2.2.2.2.1, y.2.2.2.2.2, y13, y14, y15, y16, y17, y18, y19, y20, y21, y22, y23, y24, y25, y26, y27, y28, y29, y30, y31, y32, y33, y34, y35, y36,
                            y37, y38, y39, y40, y41, y42, ()))
                      (br (W.eq y12 192)
                        (F_arith_pair_rsh R ((y.1, y.2.1, y.2.2.1, y.2.2.2.1, y.2.2.2.2.1, y.2.2.2.2.2), y_1.1, y_1.2.1, y_1.2.2.1, y_1.2.2.2.1, y_1.2.2.2.2.1, y_1.2.2.2.2.2) fun y =>
                          F_arith_tidy R (y.1, y.2.1, y.2.2.1, y.2.2.2.1, y.2.2.2.2.1, y.2.2.2.2.2) fun y =>
                            F_bound_Low R (y.1, y.2.1, y.2.2.1, y.2.2.2.1, y.2.2.2.2.1, y.2.2.2.2.2) fun y =>
                              k
                                (y.1, y.2.1, y.2.2.1, y.2.2.2.1, y.2.2.2.2.1, y.2.2.2.2.2, y13, y14, y15, y16, y17, y18, y19, y20, y21, y22, y23, y24, y25, y26, y27, y28, y29, y30, y31, y32, y33, y34, y35,
                                  y36, y37, y38, y39, y40, y41, y42, ()))
                        (f R ((y.1, y.2.1, y.2.2.1, y.2.2.2.1, y.2.2.2.2.1, y.2.2.2.2.2), y_1.1, y_1.2.1, y_1.2.2.1, y_1.2.2.2.1, y_1.2.2.2.2.1, y_1.2.2.2.2.2) fun y =>
                          F_arith_tidy R (y.1, y.2.1, y.2.2.1, y.2.2.2.1, y.2.2.2.2.1, y.2.2.2.2.2) fun y =>
                            F_bound_Low R (y.1, y.2.1, y.2.2.1, y.2.2.2.1, y.2.2.2.2.1, y.2.2.2.2.2) fun y =>
                              k
                                (y.1, y.2.1, y.2.2.1, y.2.2.2.1, y.2.2.2.2.1, y.2.2.2.2.2, y13, y14, y15, y16, y17, y18, y19, y20, y21, y22, y23, y24, y25, y26, y27, y28, y29, y30, y31, y32, y33, y34, y35,
                                  y36, y37, y38, y39, y40, y41, y42, ())))))
                (f R ((y.1, y.2.1, y.2.2.1, y.2.2.2.1, y.2.2.2.2.1, y.2.2.2.2.2), y_1.1, y_1.2.1, y_1.2.2.1, y_1.2.2.2.1, y_1.2.2.2.2.1, y_1.2.2.2.2.2) fun y =>
                  F_arith_tidy R (y.1, y.2.1, y.2.2.1, y.2.2.2.1, y.2.2.2.2.1, y.2.2.2.2.2) fun y =>
                    F_bound_Low R (y.1, y.2.1, y.2.2.1, y.2.2.2.1, y.2.2.2.2.1, y.2.2.2.2.2) fun y =>
                      k
                        (y.1, y.2.1, y.2.2.1, y.2.2.2.1, y.2.2.2.2.1, y.2.2.2.2.2, y13, y14, y15, y16, y17, y18, y19, y20, y21, y22, y23, y24, y25, y26, y27, y28, y29, y30, y31, y32, y33, y34, y35, y36,
                          y37, y38, y39, y40, y41, y42, ()))))
noncomputable def N_arith_pair_narrow_1 (F_arith_tidy : FT ps_arith_tidy qs_arith_tidy) (F_bound_Size : FT ps_bound_Size qs_bound_Size) (F_bound_Low : FT ps_bound_Low qs_bound_Low) (F_bound_Value : FT ps_bound_Value qs_bound_Value) (F_bound_Const : FT ps_bound_Const qs_bound_Const) (F_arith_pair_add : FT ps_arith_pair_add qs_arith_pair_add) (F_arith_pair_rsh : FT ps_arith_pair_rsh qs_arith_pair_rsh)  : TE_arith_pair_narrow_1 := fun R x k => arith_narrowG F_arith_tidy F_bound_Size F_bound_Low F_bound_Value F_bound_Const F_arith_pair_add F_arith_pair_rsh R x k
theorem S_arith_pair_narrow_1 {F_arith_tidy : FT ps_arith_tidy qs_arith_tidy} {F_bound_Size : FT ps_bound_Size qs_bound_Size} {F_bound_Low : FT ps_bound_Low qs_bound_Low} {F_bound_Value : FT ps_bound_Value qs_bound_Value} {F_bound_Const : FT ps_bound_Const qs_bound_Const} {F_arith_pair_add : FT ps_arith_pair_add qs_arith_pair_add} {F_arith_pair_rsh : FT ps_arith_pair_rsh qs_arith_pair_rsh} (h_arith_tidy : SpecOk Try.prog 19 (mkS ps_arith_tidy qs_arith_tidy F_arith_tidy)) (h_bound_Size : SpecOk Try.prog 49 (mkS ps_bound_Size qs_bound_Size F_bound_Size)) (h_bound_Low : SpecOk Try.prog 46 (mkS ps_bound_Low qs_bound_Low F_bound_Low)) (h_bound_Value : SpecOk Try.prog 47 (mkS ps_bound_Value qs_bound_Value F_bound_Value)) (h_bound_Const : SpecOk Try.prog 48 (mkS ps_bound_Const qs_bound_Const F_bound_Const)) (h_arith_pair_add : SpecOk Try.prog 30 (mkS ps_arith_pair_add qs_arith_pair_add F_arith_pair_add)) (h_arith_pair_rsh : SpecOk Try.prog 41 (mkS ps_arith_pair_rsh qs_arith_pair_rsh F_arith_pair_rsh)) : ESpOk Try.prog 20 (mkE pa_arith_pair_narrow_1 ph_arith_pair_narrow_1 pr_arith_pair_narrow_1 pz_arith_pair_narrow_1 (N_arith_pair_narrow_1 F_arith_tidy F_bound_Size F_bound_Low F_bound_Value F_bound_Const F_arith_pair_add F_arith_pair_rsh)) :=
  espOk_mk (fl := 10) (d := 11) (cfgOk_cons (cfgOk_cons (cfgOk_cons (cfgOk_cons (cfgOk_cons (cfgOk_cons (cfgOk_cons base h_arith_pair_rsh) h_arith_pair_add) h_bound_Const) h_bound_Value) h_bound_Low) h_bound_Size) h_arith_tidy) esOk_nil (by rintro R ⟨y0, y1, y2, y3, y4, y5, y6, y7, y8, y9, y10, y11, y12, y13, y14, y15, y16, y17, y18, y19, y20, y21, y22, y23, y24, y25, y26, y27, y28, y29, y30, y31, y32, y33, y34, y35, y36, y37, y38, y39, y40, y41, y42, ⟨⟩⟩ k; kernel_rfl)
noncomputable def E_arith_pair_narrow_1 : TE_arith_pair_narrow_1 := N_arith_pair_narrow_1 F_arith_tidy F_bound_Size F_bound_Low F_bound_Value F_bound_Const F_arith_pair_add F_arith_pair_rsh 
theorem okE_arith_pair_narrow_1 : ESpOk Try.prog 20 (mkE pa_arith_pair_narrow_1 ph_arith_pair_narrow_1 pr_arith_pair_narrow_1 pz_arith_pair_narrow_1 E_arith_pair_narrow_1) := S_arith_pair_narrow_1 ok_arith_tidy ok_bound_Size ok_bound_Low ok_bound_Value ok_bound_Const ok_arith_pair_add ok_arith_pair_rsh
abbrev pa_arith_pair_narrow_2 : List PV := [(.agg [(.int .u64), (.int .u64), (.int .i64), (.int .i64), (.int .u64), (.int .u64), (.int .u64), (.int .u64), (.int .i64), (.int .i64), (.int .u64), (.int .u64)]), (.int .i64), (.fn 31 [])]
abbrev ph_arith_pair_narrow_2 : List PB := [pbD, pbD, pbD, pbM, (.cells [(.int .u64), (.int .u64), (.int .i64), (.int .i64), (.int .u64), (.int .u64), (.int .u64), (.int .u64), (.int .i64), (.int .i64), (.int .u64), (.int .u64)])]
abbrev pr_arith_pair_narrow_2 : PV := (.agg [(.int .u64), (.int .u64), (.int .i64), (.int .i64), (.int .u64), (.int .u64)])
abbrev pz_arith_pair_narrow_2 : List PB := [pbD, pbD, pbD, pbM, (.cells [(.int .u64), (.int .u64), (.int .i64), (.int .i64), (.int .u64), (.int .u64), (.int .u64), (.int .u64), (.int .i64), (.int .i64), (.int .u64), (.int .u64)])]
abbrev IT_arith_pair_narrow_2 : Type := (Int) × (Int) × (Int) × (Int) × (Int) × (Int) × (Int) × (Int) × (Int) × (Int) × (Int) × (Int) × (Int) × (Int) × (Int) × (Int) × (Int) × (Int) × (Int) × (Int) × (Int) × (Int) × (Int) × (Int) × (Int) × (Int) × (Int) × (Int) × (Int) × (Int) × (Int) × (Int) × (Int) × (Int) × (Int) × (Int) × (Int) × (Int) × (Int) × (Int) × (Int) × (Int) × (Int) × Unit
abbrev OT_arith_pair_narrow_2 : Type := (Int) × (Int) × (Int) × (Int) × (Int) × (Int) × (Int) × (Int) × (Int) × (Int) × (Int) × (Int) × (Int) × (Int) × (Int) × (Int) × (Int) × (Int) × (Int) × (Int) × (Int) × (Int) × (Int) × (Int) × (Int) × (Int) × (Int) × (Int) × (Int) × (Int) × (Int) × (Int) × (Int) × (Int) × (Int) × (Int) × Unit
abbrev TE_arith_pair_narrow_2 : Type 1 := (R : Type) → IT_arith_pair_narrow_2 → (OT_arith_pair_narrow_2 → Option R) → Option R
noncomputable def N_arith_pair_narrow_2 (F_arith_tidy : FT ps_arith_tidy qs_arith_tidy) (F_bound_Size : FT ps_bound_Size qs_bound_Size) (F_bound_Low : FT ps_bound_Low qs_bound_Low) (F_bound_Value : FT ps_bound_Value qs_bound_Value) (F_bound_Const : FT ps_bound_Const qs_bound_Const) (F_arith_pair_sub : FT ps_arith_pair_sub qs_arith_pair_sub) (F_arith_pair_rsh : FT ps_arith_pair_rsh qs_arith_pair_rsh)  : TE_arith_pair_narrow_2 := fun R x k => arith_narrowG F_arith_tidy F_bound_Size F_bound_Low F_bound_Value F_bound_Const F_arith_pair_sub F_arith_pair_rsh R x k
theorem S_arith_pair_narrow_2 {F_arith_tidy : FT ps_arith_tidy qs_arith_tidy} {F_bound_Size : FT ps_bound_Size qs_bound_Size} {F_bound_Low : FT ps_bound_Low qs_bound_Low} {F_bound_Value : FT ps_bound_Value qs_bound_Value} {F_bound_Const : FT ps_bound_Const qs_bound_Const} {F_arith_pair_sub : FT ps_arith_pair_sub qs_arith_pair_sub} {F_arith_pair_rsh : FT ps_arith_pair_rsh qs_arith_pair_rsh} (h_arith_tidy : SpecOk Try.prog 19 (mkS ps_arith_tidy qs_arith_tidy F_arith_tidy)) (h_bound_Size : SpecOk Try.prog 49 (mkS ps_bound_Size qs_bound_Size F_bound_Size)) (h_bound_Low : SpecOk Try.prog 46 (mkS ps_bound_Low qs_bound_Low F_bound_Low)) (h_bound_Value : SpecOk Try.prog 47 (mkS ps_bound_Value qs_bound_Value F_bound_Value)) (h_bound_Const : SpecOk Try.prog 48 (mkS ps_bound_Const qs_bound_Const F_bound_Const)) (h_arith_pair_sub : SpecOk Try.prog 31 (mkS ps_arith_pair_sub qs_arith_pair_sub F_arith_pair_sub)) (h_arith_pair_rsh : SpecOk Try.prog 41 (mkS ps_arith_pair_rsh qs_arith_pair_rsh F_arith_pair_rsh)) : ESpOk Try.prog 20 (mkE pa_arith_pair_narrow_2 ph_arith_pair_narrow_2 pr_arith_pair_narrow_2 pz_arith_pair_narrow_2 (N_arith_pair_narrow_2 F_arith_tidy F_bound_Size F_bound_Low F_bound_Value F_bound_Const F_arith_pair_sub F_arith_pair_rsh)) :=
  espOk_mk (fl := 10) (d := 11) (cfgOk_cons (cfgOk_cons (cfgOk_cons (cfgOk_cons (cfgOk_cons (cfgOk_cons (cfgOk_cons base h_arith_pair_rsh) h_arith_pair_sub) h_bound_Const) h_bound_Value) h_bound_Low) h_bound_Size) h_arith_tidy) esOk_nil (by rintro R ⟨y0, y1, y2, y3, y4, y5, y6, y7, y8, y9, y10, y11, y12, y13, y14, y15, y16, y17, y18, y19, y20, y21, y22, y23, y24, y25, y26, y27, y28, y29, y30, y31, y32, y33, y34, y35, y36, y37, y38, y39, y40, y41, y42, ⟨⟩⟩ k; kernel_rfl)
noncomputable def E_arith_pair_narrow_2 : TE_arith_pair_narrow_2 := N_arith_pair_narrow_2 F_arith_tidy F_bound_Size F_bound_Low F_bound_Value F_bound_Const F_arith_pair_sub F_arith_pair_rsh 
theorem okE_arith_pair_narrow_2 : ESpOk Try.prog 20 (mkE pa_arith_pair_narrow_2 ph_arith_pair_narrow_2 pr_arith_pair_narrow_2 pz_arith_pair_narrow_2 E_arith_pair_narrow_2) := S_arith_pair_narrow_2 ok_arith_tidy ok_bound_Size ok_bound_Low ok_bound_Value ok_bound_Const ok_arith_pair_sub ok_arith_pair_rsh
abbrev pa_arith_pair_narrow_3 : List PV := [(.agg [(.int .u64), (.int .u64), (.int .i64), (.int .i64), (.int .u64), (.int .u64), (.int .u64), (.int .u64), (.int .i64), (.int .i64), (.int .u64), (.int .u64)]), (.int .i64), (.fn 32 [])]
abbrev ph_arith_pair_narrow_3 : List PB := [pbD, pbD, pbD, pbM, (.cells [(.int .u64), (.int .u64), (.int .i64), (.int .i64), (.int .u64), (.int .u64), (.int .u64), (.int .u64), (.int .i64), (.int .i64), (.int .u64), (.int .u64)])]
abbrev pr_arith_pair_narrow_3 : PV := (.agg [(.int .u64), (.int .u64), (.int .i64), (.int .i64), (.int .u64), (.int .u64)])
abbrev pz_arith_pair_narrow_3 : List PB := [pbD, pbD, pbD, pbM, (.cells [(.int .u64), (.int .u64), (.int .i64), (.int .i64), (.int .u64), (.int .u64), (.int .u64), (.int .u64), (.int .i64), (.int .i64), (.int .u64), (.int .u64)])]
abbrev IT_arith_pair_narrow_3 : Type := (Int) × (Int) × (Int) × (Int) × (Int) × (Int) × (Int) × (Int) × (Int) × (Int) × (Int) × (Int) × (Int) × (Int) × (Int) × (Int) × (Int) × (Int) × (Int) × (Int) × (Int) × (Int) × (Int) × (Int) × (Int) × (Int) × (Int) × (Int) × (Int) × (Int) × (Int) × (Int) × (Int) × (Int) × (Int) × (Int) × (Int) × (Int) × (Int) × (Int) × (Int) × (Int) × (Int) × Unit
abbrev OT_arith_pair_narrow_3 : Type := (Int) × (Int) × (Int) × (Int) × (Int) × (Int) × (Int) × (Int) × (Int) × (Int) × (Int) × (Int) × (Int) × (Int) × (Int) × (Int) × (Int) × (Int) × (Int) × (Int) × (Int) × (Int) × (Int) × (Int) × (Int) × (Int) × (Int) × (Int) × (Int) × (Int) × (Int) × (Int) × (Int) × (Int) × (Int) × (Int) × Unit
abbrev TE_arith_pair_narrow_3 : Type 1 := (R : Type) → IT_arith_pair_narrow_3 → (OT_arith_pair_narrow_3 → Option R) → Option R
noncomputable def N_arith_pair_narrow_3 (F_arith_tidy : FT ps_arith_tidy qs_arith_tidy) (F_bound_Size : FT ps_bound_Size qs_bound_Size) (F_bound_Low : FT ps_bound_Low qs_bound_Low) (F_bound_Value : FT ps_bound_Value qs_bound_Value) (F_bound_Const : FT ps_bound_Const qs_bound_Const) (F_arith_pair_neg : FT ps_arith_pair_neg qs_arith_pair_neg) (F_arith_pair_rsh : FT ps_arith_pair_rsh qs_arith_pair_rsh)  : TE_arith_pair_narrow_3 := fun R x k => arith_narrowG F_arith_tidy F_bound_Size F_bound_Low F_bound_Value F_bound_Const F_arith_pair_neg F_arith_pair_rsh R x k
theorem S_arith_pair_narrow_3 {F_arith_tidy : FT ps_arith_tidy qs_arith_tidy} {F_bound_Size : FT ps_bound_Size qs_bound_Size} {F_bound_Low : FT ps_bound_Low qs_bound_Low} {F_bound_Value : FT ps_bound_Value qs_bound_Value} {F_bound_Const : FT ps_bound_Const qs_bound_Const} {F_arith_pair_neg : FT ps_arith_pair_neg qs_arith_pair_neg} {F_arith_pair_rsh : FT ps_arith_pair_rsh qs_arith_pair_rsh} (h_arith_tidy : SpecOk Try.prog 19 (mkS ps_arith_tidy qs_arith_tidy F_arith_tidy)) (h_bound_Size : SpecOk Try.prog 49 (mkS ps_bound_Size qs_bound_Size F_bound_Size)) (h_bound_Low : SpecOk Try.prog 46 (mkS ps_bound_Low qs_bound_Low F_bound_Low)) (h_bound_Value : SpecOk Try.prog 47 (mkS ps_bound_Value qs_bound_Value F_bound_Value)) (h_bound_Const : SpecOk Try.prog 48 (mkS ps_bound_Const qs_bound_Const F_bound_Const)) (h_arith_pair_neg : SpecOk Try.prog 32 (mkS ps_arith_pair_neg qs_arith_pair_neg F_arith_pair_neg)) (h_arith_pair_rsh : SpecOk Try.prog 41 (mkS ps_arith_pair_rsh qs_arith_pair_rsh F_arith_pair_rsh)) : ESpOk Try.prog 20 (mkE pa_arith_pair_narrow_3 ph_arith_pair_narrow_3 pr_arith_pair_narrow_3 pz_arith_pair_narrow_3 (N_arith_pair_narrow_3 F_arith_tidy F_bound_Size F_bound_Low F_bound_Value F_bound_Const F_arith_pair_neg F_arith_pair_rsh)) :=
  espOk_mk (fl := 10) (d := 11) (cfgOk_cons (cfgOk_cons (cfgOk_cons (cfgOk_cons (cfgOk_cons (cfgOk_cons (cfgOk_cons base h_arith_pair_rsh) h_arith_pair_neg) h_bound_Const) h_bound_Value) h_bound_Low) h_bound_Size) h_arith_tidy) esOk_nil (by rintro R ⟨y0, y1, y2, y3, y4, y5, y6, y7, y8, y9, y10, y11, y12, y13, y14, y15, y16, y17, y18, y19, y20, y21, y22, y23, y24, y25, y26, y27, y28, y29, y30, y31, y32, y33, y34, y35, y36, y37, y38, y39, y40, y41, y42, ⟨⟩⟩ k; kernel_rfl)
noncomputable def E_arith_pair_narrow_3 : TE_arith_pair_narrow_3 := N_arith_pair_narrow_3 F_arith_tidy F_bound_Size F_bound_Low F_bound_Value F_bound_Const F_arith_pair_neg F_arith_pair_rsh 
theorem okE_arith_pair_narrow_3 : ESpOk Try.prog 20 (mkE pa_arith_pair_narrow_3 ph_arith_pair_narrow_3 pr_arith_pair_narrow_3 pz_arith_pair_narrow_3 E_arith_pair_narrow_3) := S_arith_pair_narrow_3 ok_arith_tidy ok_bound_Size ok_bound_Low ok_bound_Value ok_bound_Const ok_arith_pair_neg ok_arith_pair_rsh
abbrev pa_arith_pair_narrow_4 : List PV := [(.agg [(.int .u64), (.int .u64), (.int .i64), (.int .i64), (.int .u64), (.int .u64), (.int .u64), (.int .u64), (.int .i64), (.int .i64), (.int .u64), (.int .u64)]), (.int .i64), (.fn 33 [])]
abbrev ph_arith_pair_narrow_4 : List PB := [pbD, pbD, pbD, pbM, (.cells [(.int .u64), (.int .u64), (.int .i64), (.int .i64), (.int .u64), (.int .u64), (.int .u64), (.int .u64), (.int .i64), (.int .i64), (.int .u64), (.int .u64)])]
abbrev pr_arith_pair_narrow_4 : PV := (.agg [(.int .u64), (.int .u64), (.int .i64), (.int .i64), (.int .u64), (.int .u64)])
abbrev pz_arith_pair_narrow_4 : List PB := [pbD, pbD, pbD, pbM, (.cells [(.int .u64), (.int .u64), (.int .i64), (.int .i64), (.int .u64), (.int .u64), (.int .u64), (.int .u64), (.int .i64), (.int .i64), (.int .u64), (.int .u64)])]
abbrev IT_arith_pair_narrow_4 : Type := (Int) × (Int) × (Int) × (Int) × (Int) × (Int) × (Int) × (Int) × (Int) × (Int) × (Int) × (Int) × (Int) × (Int) × (Int) × (Int) × (Int) × (Int) × (Int) × (Int) × (Int) × (Int) × (Int) × (Int) × (Int) × (Int) × (Int) × (Int) × (Int) × (Int) × (Int) × (Int) × (Int) × (Int) × (Int) × (Int) × (Int) × (Int) × (Int) × (Int) × (Int) × (Int) × (Int) × Unit
abbrev OT_arith_pair_narrow_4 : Type := (Int) × (Int) × (Int) × (Int) × (Int) × (Int) × (Int) × (Int) × (Int) × (Int) × (Int) × (Int) × (Int) × (Int) × (Int) × (Int) × (Int) × (Int) × (Int) × (Int) × (Int) × (Int) × (Int) × (Int) × (Int) × (Int) × (Int) × (Int) × (Int) × (Int) × (Int) × (Int) × (Int) × (Int) × (Int) × (Int) × Unit
abbrev TE_arith_pair_narrow_4 : Type 1 := (R : Type) → IT_arith_pair_narrow_4 → (OT_arith_pair_narrow_4 → Option R) → Option R
noncomputable def N_arith_pair_narrow_4 (F_arith_tidy : FT ps_arith_tidy qs_arith_tidy) (F_bound_Size : FT ps_bound_Size qs_bound_Size) (F_bound_Low : FT ps_bound_Low qs_bound_Low) (F_bound_Value : FT ps_bound_Value qs_bound_Value) (F_bound_Const : FT ps_bound_Const qs_bound_Const) (F_arith_pair_mov : FT ps_arith_pair_mov qs_arith_pair_mov) (F_arith_pair_rsh : FT ps_arith_pair_rsh qs_arith_pair_rsh)  : TE_arith_pair_narrow_4 := fun R x k => arith_narrowG F_arith_tidy F_bound_Size F_bound_Low F_bound_Value F_bound_Const F_arith_pair_mov F_arith_pair_rsh R x k
theorem S_arith_pair_narrow_4 {F_arith_tidy : FT ps_arith_tidy qs_arith_tidy} {F_bound_Size : FT ps_bound_Size qs_bound_Size} {F_bound_Low : FT ps_bound_Low qs_bound_Low} {F_bound_Value : FT ps_bound_Value qs_bound_Value} {F_bound_Const : FT ps_bound_Const qs_bound_Const} {F_arith_pair_mov : FT ps_arith_pair_mov qs_arith_pair_mov} {F_arith_pair_rsh : FT ps_arith_pair_rsh qs_arith_pair_rsh} (h_arith_tidy : SpecOk Try.prog 19 (mkS ps_arith_tidy qs_arith_tidy F_arith_tidy)) (h_bound_Size : SpecOk Try.prog 49 (mkS ps_bound_Size qs_bound_Size F_bound_Size)) (h_bound_Low : SpecOk Try.prog 46 (mkS ps_bound_Low qs_bound_Low F_bound_Low)) (h_bound_Value : SpecOk Try.prog 47 (mkS ps_bound_Value qs_bound_Value F_bound_Value)) (h_bound_Const : SpecOk Try.prog 48 (mkS ps_bound_Const qs_bound_Const F_bound_Const)) (h_arith_pair_mov : SpecOk Try.prog 33 (mkS ps_arith_pair_mov qs_arith_pair_mov F_arith_pair_mov)) (h_arith_pair_rsh : SpecOk Try.prog 41 (mkS ps_arith_pair_rsh qs_arith_pair_rsh F_arith_pair_rsh)) : ESpOk Try.prog 20 (mkE pa_arith_pair_narrow_4 ph_arith_pair_narrow_4 pr_arith_pair_narrow_4 pz_arith_pair_narrow_4 (N_arith_pair_narrow_4 F_arith_tidy F_bound_Size F_bound_Low F_bound_Value F_bound_Const F_arith_pair_mov F_arith_pair_rsh)) :=
  espOk_mk (fl := 10) (d := 11) (cfgOk_cons (cfgOk_cons (cfgOk_cons (cfgOk_cons (cfgOk_cons (cfgOk_cons (cfgOk_cons base h_arith_pair_rsh) h_arith_pair_mov) h_bound_Const) h_bound_Value) h_bound_Low) h_bound_Size) h_arith_tidy) esOk_nil (by rintro R ⟨y0, y1, y2, y3, y4, y5, y6, y7, y8, y9, y10, y11, y12, y13, y14, y15, y16, y17, y18, y19, y20, y21, y22, y23, y24, y25, y26, y27, y28, y29, y30, y31, y32, y33, y34, y35, y36, y37, y38, y39, y40, y41, y42, ⟨⟩⟩ k; kernel_rfl)
noncomputable def E_arith_pair_narrow_4 : TE_arith_pair_narrow_4 := N_arith_pair_narrow_4 F_arith_tidy F_bound_Size F_bound_Low F_bound_Value F_bound_Const F_arith_pair_mov F_arith_pair_rsh 
theorem okE_arith_pair_narrow_4 : ESpOk Try.prog 20 (mkE pa_arith_pair_narrow_4 ph_arith_pair_narrow_4 pr_arith_pair_narrow_4 pz_arith_pair_narrow_4 E_arith_pair_narrow_4) := S_arith_pair_narrow_4 ok_arith_tidy ok_bound_Size ok_bound_Low ok_bound_Value ok_bound_Const ok_arith_pair_mov ok_arith_pair_rsh
abbrev pa_arith_pair_narrow_5 : List PV := [(.agg [(.int .u64), (.int .u64), (.int .i64), (.int .i64), (.int .u64), (.int .u64), (.int .u64), (.int .u64), (.int .i64), (.int .i64), (.int .u64), (.int .u64)]), (.int .i64), (.fn 34 [])]
abbrev ph_arith_pair_narrow_5 : List PB := [pbD, pbD, pbD, pbM, (.cells [(.int .u64), (.int .u64), (.int .i64), (.int .i64), (.int .u64), (.int .u64), (.int .u64), (.int .u64), (.int .i64), (.int .i64), (.int .u64), (.int .u64)])]
abbrev pr_arith_pair_narrow_5 : PV := (.agg [(.int .u64), (.int .u64), (.int .i64), (.int .i64), (.int .u64), (.int .u64)])
abbrev pz_arith_pair_narrow_5 : List PB := [pbD, pbD, pbD, pbM, (.cells [(.int .u64), (.int .u64), (.int .i64), (.int .i64), (.int .u64), (.int .u64), (.int .u64), (.int .u64), (.int .i64), (.int .i64), (.int .u64), (.int .u64)])]
abbrev IT_arith_pair_narrow_5 : Type := (Int) × (Int) × (Int) × (Int) × (Int) × (Int) × (Int) × (Int) × (Int) × (Int) × (Int) × (Int) × (Int) × (Int) × (Int) × (Int) × (Int) × (Int) × (Int) × (Int) × (Int) × (Int) × (Int) × (Int) × (Int) × (Int) × (Int) × (Int) × (Int) × (Int) × (Int) × (Int) × (Int) × (Int) × (Int) × (Int) × (Int) × (Int) × (Int) × (Int) × (Int) × (Int) × (Int) × Unit
abbrev OT_arith_pair_narrow_5 : Type := (Int) × (Int) × (Int) × (Int) × (Int) × (Int) × (Int) × (Int) × (Int) × (Int) × (Int) × (Int) × (Int) × (Int) × (Int) × (Int) × (Int) × (Int) × (Int) × (Int) × (Int) × (Int) × (Int) × (Int) × (Int) × (Int) × (Int) × (Int) × (Int) × (Int) × (Int) × (Int) × (Int) × (Int) × (Int) × (Int) × Unit
abbrev TE_arith_pair_narrow_5 : Type 1 := (R : Type) → IT_arith_pair_narrow_5 → (OT_arith_pair_narrow_5 → Option R) → Option R
noncomputable def N_arith_pair_narrow_5 (F_arith_tidy : FT ps_arith_tidy qs_arith_tidy) (F_bound_Size : FT ps_bound_Size qs_bound_Size) (F_bound_Low : FT ps_bound_Low qs_bound_Low) (F_bound_Value : FT ps_bound_Value qs_bound_Value) (F_bound_Const : FT ps_bound_Const qs_bound_Const) (F_arith_pair_mul : FT ps_arith_pair_mul qs_arith_pair_mul) (F_arith_pair_rsh : FT ps_arith_pair_rsh qs_arith_pair_rsh)  : TE_arith_pair_narrow_5 := fun R x k => arith_narrowG F_arith_tidy F_bound_Size F_bound_Low F_bound_Value F_bound_Const F_arith_pair_mul F_arith_pair_rsh R x k
theorem S_arith_pair_narrow_5 {F_arith_tidy : FT ps_arith_tidy qs_arith_tidy} {F_bound_Size : FT ps_bound_Size qs_bound_Size} {F_bound_Low : FT ps_bound_Low qs_bound_Low} {F_bound_Value : FT ps_bound_Value qs_bound_Value} {F_bound_Const : FT ps_bound_Const qs_bound_Const} {F_arith_pair_mul : FT ps_arith_pair_mul qs_arith_pair_mul} {F_arith_pair_rsh : FT ps_arith_pair_rsh qs_arith_pair_rsh} (h_arith_tidy : SpecOk Try.prog 19 (mkS ps_arith_tidy qs_arith_tidy F_arith_tidy)) (h_bound_Size : SpecOk Try.prog 49 (mkS ps_bound_Size qs_bound_Size F_bound_Size)) (h_bound_Low : SpecOk Try.prog 46 (mkS ps_bound_Low qs_bound_Low F_bound_Low)) (h_bound_Value : SpecOk Try.prog 47 (mkS ps_bound_Value qs_bound_Value F_bound_Value)) (h_bound_Const : SpecOk Try.prog 48 (mkS ps_bound_Const qs_bound_Const F_bound_Const)) (h_arith_pair_mul : SpecOk Try.prog 34 (mkS ps_arith_pair_mul qs_arith_pair_mul F_arith_pair_mul)) (h_arith_pair_rsh : SpecOk Try.prog 41 (mkS ps_arith_pair_rsh qs_arith_pair_rsh F_arith_pair_rsh)) : ESpOk Try.prog 20 (mkE pa_arith_pair_narrow_5 ph_arith_pair_narrow_5 pr_arith_pair_narrow_5 pz_arith_pair_narrow_5 (N_arith_pair_narrow_5 F_arith_tidy F_bound_Size F_bound_Low F_bound_Value F_bound_Const F_arith_pair_mul F_arith_pair_rsh)) :=
  espOk_mk (fl := 10) (d := 11) (cfgOk_cons (cfgOk_cons (cfgOk_cons (cfgOk_cons (cfgOk_cons (cfgOk_cons (cfgOk_cons base h_arith_pair_rsh) h_arith_pair_mul) h_bound_Const) h_bound_Value) h_bound_Low) h_bound_Size) h_arith_tidy) esOk_nil (by rintro R ⟨y0, y1, y2, y3, y4, y5, y6, y7, y8, y9, y10, y11, y12, y13, y14, y15, y16, y17, y18, y19, y20, y21, y22, y23, y24, y25, y26, y27, y28, y29, y30, y31, y32, y33, y34, y35, y36, y37, y38, y39, y40, y41, y42, ⟨⟩⟩ k; kernel_rfl)
noncomputable def E_arith_pair_narrow_5 : TE_arith_pair_narrow_5 := N_arith_pair_narrow_5 F_arith_tidy F_bound_Size F_bound_Low F_bound_Value F_bound_Const F_arith_pair_mul F_arith_pair_rsh 
theorem okE_arith_pair_narrow_5 : ESpOk Try.prog 20 (mkE pa_arith_pair_narrow_5 ph_arith_pair_narrow_5 pr_arith_pair_narrow_5 pz_arith_pair_narrow_5 E_arith_pair_narrow_5) := S_arith_pair_narrow_5 ok_arith_tidy ok_bound_Size ok_bound_Low ok_bound_Value ok_bound_Const ok_arith_pair_mul ok_arith_pair_rsh
abbrev pa_arith_pair_narrow_6 : List PV := [(.agg [(.int .u64), (.int .u64), (.int .i64), (.int .i64), (.int .u64), (.int .u64), (.int .u64), (.int .u64), (.int .i64), (.int .i64), (.int .u64), (.int .u64)]), (.int .i64), (.fn 35 [])]
abbrev ph_arith_pair_narrow_6 : List PB := [pbD, pbD, pbD, pbM, (.cells [(.int .u64), (.int .u64), (.int .i64), (.int .i64), (.int .u64), (.int .u64), (.int .u64), (.int .u64), (.int .i64), (.int .i64), (.int .u64), (.int .u64)])]
abbrev pr_arith_pair_narrow_6 : PV := (.agg [(.int .u64), (.int .u64), (.int .i64), (.int .i64), (.int .u64), (.int .u64)])
abbrev pz_arith_pair_narrow_6 : List PB := [pbD, pbD, pbD, pbM, (.cells [(.int .u64), (.int .u64), (.int .i64), (.int .i64), (.int .u64), (.int .u64), (.int .u64), (.int .u64), (.int .i64), (.int .i64), (.int .u64), (.int .u64)])]
abbrev IT_arith_pair_narrow_6 : Type := (Int) × (Int) × (Int) × (Int) × (Int) × (Int) × (Int) × (Int) × (Int) × (Int) × (Int) × (Int) × (Int) × (Int) × (Int) × (Int) × (Int) × (Int) × (Int) × (Int) × (Int) × (Int) × (Int) × (Int) × (Int) × (Int) × (Int) × (Int) × (Int) × (Int) × (Int) × (Int) × (Int) × (Int) × (Int) × (Int) × (Int) × (Int) × (Int) × (Int) × (Int) × (Int) × (Int) × Unit
abbrev OT_arith_pair_narrow_6 : Type := (Int) × (Int) × (Int) × (Int) × (Int) × (Int) × (Int) × (Int) × (Int) × (Int) × (Int) × (Int) × (Int) × (Int) × (Int) × (Int) × (Int) × (Int) × (Int) × (Int) × (Int) × (Int) × (Int) × (Int) × (Int) × (Int) × (Int) × (Int) × (Int) × (Int) × (Int) × (Int) × (Int) × (Int) × (Int) × (Int) × Unit
abbrev TE_arith_pair_narrow_6 : Type 1 := (R : Type) → IT_arith_pair_narrow_6 → (OT_arith_pair_narrow_6 → Option R) → Option R
noncomputable def N_arith_pair_narrow_6 (F_arith_tidy : FT ps_arith_tidy qs_arith_tidy) (F_bound_Size : FT ps_bound_Size qs_bound_Size) (F_bound_Low : FT ps_bound_Low qs_bound_Low) (F_bound_Value : FT ps_bound_Value qs_bound_Value) (F_bound_Const : FT ps_bound_Const qs_bound_Const) (F_arith_pair_div : FT ps_arith_pair_div qs_arith_pair_div) (F_arith_pair_rsh : FT ps_arith_pair_rsh qs_arith_pair_rsh)  : TE_arith_pair_narrow_6 := fun R x k => arith_narrowG F_arith_tidy F_bound_Size F_bound_Low F_bound_Value F_bound_Const F_arith_pair_div F_arith_pair_rsh R x k
theorem S_arith_pair_narrow_6 {F_arith_tidy : FT ps_arith_tidy qs_arith_tidy} {F_bound_Size : FT ps_bound_Size qs_bound_Size} {F_bound_Low : FT ps_bound_Low qs_bound_Low} {F_bound_Value : FT ps_bound_Value qs_bound_Value} {F_bound_Const : FT ps_bound_Const qs_bound_Const} {F_arith_pair_div : FT ps_arith_pair_div qs_arith_pair_div} {F_arith_pair_rsh : FT ps_arith_pair_rsh qs_arith_pair_rsh} (h_arith_tidy : SpecOk Try.prog 19 (mkS ps_arith_tidy qs_arith_tidy F_arith_tidy)) (h_bound_Size : SpecOk Try.prog 49 (mkS ps_bound_Size qs_bound_Size F_bound_Size)) (h_bound_Low : SpecOk Try.prog 46 (mkS ps_bound_Low qs_bound_Low F_bound_Low)) (h_bound_Value : SpecOk Try.prog 47 (mkS ps_bound_Value qs_bound_Value F_bound_Value)) (h_bound_Const : SpecOk Try.prog 48 (mkS ps_bound_Const qs_bound_Const F_bound_Const)) (h_arith_pair_div : SpecOk Try.prog 35 (mkS ps_arith_pair_div qs_arith_pair_div F_arith_pair_div)) (h_arith_pair_rsh : SpecOk Try.prog 41 (mkS ps_arith_pair_rsh qs_arith_pair_rsh F_arith_pair_rsh)) : ESpOk Try.prog 20 (mkE pa_arith_pair_narrow_6 ph_arith_pair_narrow_6 pr_arith_pair_narrow_6 pz_arith_pair_narrow_6 (N_arith_pair_narrow_6 F_arith_tidy F_bound_Size F_bound_Low F_bound_Value F_bound_Const F_arith_pair_div F_arith_pair_rsh)) :=
  espOk_mk (fl := 10) (d := 11) (cfgOk_cons (cfgOk_cons (cfgOk_cons (cfgOk_cons (cfgOk_cons (cfgOk_cons (cfgOk_cons base h_arith_pair_rsh) h_arith_pair_div) h_bound_Const) h_bound_Value) h_bound_Low) h_bound_Size) h_arith_tidy) esOk_nil (by rintro R ⟨y0, y1, y2, y3, y4, y5, y6, y7, y8, y9, y10, y11, y12, y13, y14, y15, y16, y17, y18, y19, y20, y21, y22, y23, y24, y25, y26, y27, y28, y29, y30, y31, y32, y33, y34, y35, y36, y37, y38, y39, y40, y41, y42, ⟨⟩⟩ k; kernel_rfl)
noncomputable def E_arith_pair_narrow_6 : TE_arith_pair_narrow_6 := N_arith_pair_narrow_6 F_arith_tidy F_bound_Size F_bound_Low F_bound_Value F_bound_Const F_arith_pair_div F_arith_pair_rsh 
theorem okE_arith_pair_narrow_6 : ESpOk Try.prog 20 (mkE pa_arith_pair_narrow_6 ph_arith_pair_narrow_6 pr_arith_pair_narrow_6 pz_arith_pair_narrow_6 E_arith_pair_narrow_6) := S_arith_pair_narrow_6 ok_arith_tidy ok_bound_Size ok_bound_Low ok_bound_Value ok_bound_Const ok_arith_pair_div ok_arith_pair_rsh
abbrev pa_arith_pair_narrow_7 : List PV := [(.agg [(.int .u64), (.int .u64), (.int .i64), (.int .i64), (.int .u64), (.int .u64), (.int .u64), (.int .u64), (.int .i64), (.int .i64), (.int .u64), (.int .u64)]), (.int .i64), (.fn 36 [])]
abbrev ph_arith_pair_narrow_7 : List PB := [pbD, pbD, pbD, pbM, (.cells [(.int .u64), (.int .u64), (.int .i64), (.int .i64), (.int .u64), (.int .u64), (.int .u64), (.int .u64), (.int .i64), (.int .i64), (.int .u64), (.int .u64)])]
abbrev pr_arith_pair_narrow_7 : PV := (.agg [(.int .u64), (.int .u64), (.int .i64), (.int .i64), (.int .u64), (.int .u64)])
abbrev pz_arith_pair_narrow_7 : List PB := [pbD, pbD, pbD, pbM, (.cells [(.int .u64), (.int .u64), (.int .i64), (.int .i64), (.int .u64), (.int .u64), (.int .u64), (.int .u64), (.int .i64), (.int .i64), (.int .u64), (.int .u64)])]
abbrev IT_arith_pair_narrow_7 : Type := (Int) × (Int) × (Int) × (Int) × (Int) × (Int) × (Int) × (Int) × (Int) × (Int) × (Int) × (Int) × (Int) × (Int) × (Int) × (Int) × (Int) × (Int) × (Int) × (Int) × (Int) × (Int) × (Int) × (Int) × (Int) × (Int) × (Int) × (Int) × (Int) × (Int) × (Int) × (Int) × (Int) × (Int) × (Int) × (Int) × (Int) × (Int) × (Int) × (Int) × (Int) × (Int) × (Int) × Unit
abbrev OT_arith_pair_narrow_7 : Type := (Int) × (Int) × (Int) × (Int) × (Int) × (Int) × (Int) × (Int) × (Int) × (Int) × (Int) × (Int) × (Int) × (Int) × (Int) × (Int) × (Int) × (Int) × (Int) × (Int) × (Int) × (Int) × (Int) × (Int) × (Int) × (Int) × (Int) × (Int) × (Int) × (Int) × (Int) × (Int) × (Int) × (Int) × (Int) × (Int) × Unit
abbrev TE_arith_pair_narrow_7 : Type 1 := (R : Type) → IT_arith_pair_narrow_7 → (OT_arith_pair_narrow_7 → Option R) → Option R
noncomputable def N_arith_pair_narrow_7 (F_arith_tidy : FT ps_arith_tidy qs_arith_tidy) (F_bound_Size : FT ps_bound_Size qs_bound_Size) (F_bound_Low : FT ps_bound_Low qs_bound_Low) (F_bound_Value : FT ps_bound_Value qs_bound_Value) (F_bound_Const : FT ps_bound_Const qs_bound_Const) (F_arith_pair_mod : FT ps_arith_pair_mod qs_arith_pair_mod) (F_arith_pair_rsh : FT ps_arith_pair_rsh qs_arith_pair_rsh)  : TE_arith_pair_narrow_7 := fun R x k => arith_narrowG F_arith_tidy F_bound_Size F_bound_Low F_bound_Value F_bound_Const F_arith_pair_mod F_arith_pair_rsh R x k
theorem S_arith_pair_narrow_7 {F_arith_tidy : FT ps_arith_tidy qs_arith_tidy} {F_bound_Size : FT ps_bound_Size qs_bound_Size} {F_bound_Low : FT ps_bound_Low qs_bound_Low} {F_bound_Value : FT ps_bound_Value qs_bound_Value} {F_bound_Const : FT ps_bound_Const qs_bound_Const} {F_arith_pair_mod : FT ps_arith_pair_mod qs_arith_pair_mod} {F_arith_pair_rsh : FT ps_arith_pair_rsh qs_arith_pair_rsh} (h_arith_tidy : SpecOk Try.prog 19 (mkS ps_arith_tidy qs_arith_tidy F_arith_tidy)) (h_bound_Size : SpecOk Try.prog 49 (mkS ps_bound_Size qs_bound_Size F_bound_Size)) (h_bound_Low : SpecOk Try.prog 46 (mkS ps_bound_Low qs_bound_Low F_bound_Low)) (h_bound_Value : SpecOk Try.prog 47 (mkS ps_bound_Value qs_bound_Value F_bound_Value)) (h_bound_Const : SpecOk Try.prog 48 (mkS ps_bound_Const qs_bound_Const F_bound_Const)) (h_arith_pair_mod : SpecOk Try.prog 36 (mkS ps_arith_pair_mod qs_arith_pair_mod F_arith_pair_mod)) (h_arith_pair_rsh : SpecOk Try.prog 41 (mkS ps_arith_pair_rsh qs_arith_pair_rsh F_arith_pair_rsh)) : ESpOk Try.prog 20 (mkE pa_arith_pair_narrow_7 ph_arith_pair_narrow_7 pr_arith_pair_narrow_7 pz_arith_pair_narrow_7 (N_arith_pair_narrow_7 F_arith_tidy F_bound_Size F_bound_Low F_bound_Value F_bound_Const F_arith_pair_mod F_arith_pair_rsh)) :=
  espOk_mk (fl := 10) (d := 11) (cfgOk_cons (cfgOk_cons (cfgOk_cons (cfgOk_cons (cfgOk_cons (cfgOk_cons (cfgOk_cons base h_arith_pair_rsh) h_arith_pair_mod) h_bound_Const) h_bound_Value) h_bound_Low) h_bound_Size) h_arith_tidy) esOk_nil (by rintro R ⟨y0, y1, y2, y3, y4, y5, y6, y7, y8, y9, y10, y11, y12, y13, y14, y15, y16, y17, y18, y19, y20, y21, y22, y23, y24, y25, y26, y27, y28, y29, y30, y31, y32, y33, y34, y35, y36, y37, y38, y39, y40, y41, y42, ⟨⟩⟩ k; kernel_rfl)
noncomputable def E_arith_pair_narrow_7 : TE_arith_pair_narrow_7 := N_arith_pair_narrow_7 F_arith_tidy F_bound_Size F_bound_Low F_bound_Value F_bound_Const F_arith_pair_mod F_arith_pair_rsh 
theorem okE_arith_pair_narrow_7 : ESpOk Try.prog 20 (mkE pa_arith_pair_narrow_7 ph_arith_pair_narrow_7 pr_arith_pair_narrow_7 pz_arith_pair_narrow_7 E_arith_pair_narrow_7) := S_arith_pair_narrow_7 ok_arith_tidy ok_bound_Size ok_bound_Low ok_bound_Value ok_bound_Const ok_arith_pair_mod ok_arith_pair_rsh
abbrev pa_arith_pair_narrow_8 : List PV := [(.agg [(.int .u64), (.int .u64), (.int .i64), (.int .i64), (.int .u64), (.int .u64), (.int .u64), (.int .u64), (.int .i64), (.int .i64), (.int .u64), (.int .u64)]), (.int .i64), (.fn 37 [])]
abbrev ph_arith_pair_narrow_8 : List PB := [pbD, pbD, pbD, pbM, (.cells [(.int .u64), (.int .u64), (.int .i64), (.int .i64), (.int .u64), (.int .u64), (.int .u64), (.int .u64), (.int .i64), (.int .i64), (.int .u64), (.int .u64)])]
abbrev pr_arith_pair_narrow_8 : PV := (.agg [(.int .u64), (.int .u64), (.int .i64), (.int .i64), (.int .u64), (.int .u64)])
abbrev pz_arith_pair_narrow_8 : List PB := [pbD, pbD, pbD, pbM, (.cells [(.int .u64), (.int .u64), (.int .i64), (.int .i64), (.int .u64), (.int .u64), (.int .u64), (.int .u64), (.int .i64), (.int .i64), (.int .u64), (.int .u64)])]
abbrev IT_arith_pair_narrow_8 : Type := (Int) × (Int) × (Int) × (Int) × (Int) × (Int) × (Int) × (Int) × (Int) × (Int) × (Int) × (Int) × (Int) × (Int) × (Int) × (Int) × (Int) × (Int) × (Int) × (Int) × (Int) × (Int) × (Int) × (Int) × (Int) × (Int) × (Int) × (Int) × (Int) × (Int) × (Int) × (Int) × (Int) × (Int) × (Int) × (Int) × (Int) × (Int) × (Int) × (Int) × (Int) × (Int) × (Int) × Unit
abbrev OT_arith_pair_narrow_8 : Type := (Int) × (Int) × (Int) × (Int) × (Int) × (Int) × (Int) × (Int) × (Int) × (Int) × (Int) × (Int) × (Int) × (Int) × (Int) × (Int) × (Int) × (Int) × (Int) × (Int) × (Int) × (Int) × (Int) × (Int) × (Int) × (Int) × (Int) × (Int) × (Int) × (Int) × (Int) × (Int) × (Int) × (Int) × (Int) × (Int) × Unit
abbrev TE_arith_pair_narrow_8 : Type 1 := (R : Type) → IT_arith_pair_narrow_8 → (OT_arith_pair_narrow_8 → Option R) → Option R
noncomputable def N_arith_pair_narrow_8 (F_arith_tidy : FT ps_arith_tidy qs_arith_tidy) (F_bound_Size : FT ps_bound_Size qs_bound_Size) (F_bound_Low : FT ps_bound_Low qs_bound_Low) (F_bound_Value : FT ps_bound_Value qs_bound_Value) (F_bound_Const : FT ps_bound_Const qs_bound_Const) (F_arith_pair_and : FT ps_arith_pair_and qs_arith_pair_and) (F_arith_pair_rsh : FT ps_arith_pair_rsh qs_arith_pair_rsh)  : TE_arith_pair_narrow_8 := fun R x k => arith_narrowG F_arith_tidy F_bound_Size F_bound_Low F_bound_Value F_bound_Const F_arith_pair_and F_arith_pair_rsh R x k
theorem S_arith_pair_narrow_8 {F_arith_tidy : FT ps_arith_tidy qs_arith_tidy} {F_bound_Size : FT ps_bound_Size qs_bound_Size} {F_bound_Low : FT ps_bound_Low qs_bound_Low} {F_bound_Value : FT ps_bound_Value qs_bound_Value} {F_bound_Const : FT ps_bound_Const qs_bound_Const} {F_arith_pair_and : FT ps_arith_pair_and qs_arith_pair_and} {F_arith_pair_rsh : FT ps_arith_pair_rsh qs_arith_pair_rsh} (h_arith_tidy : SpecOk Try.prog 19 (mkS ps_arith_tidy qs_arith_tidy F_arith_tidy)) (h_bound_Size : SpecOk Try.prog 49 (mkS ps_bound_Size qs_bound_Size F_bound_Size)) (h_bound_Low : SpecOk Try.prog 46 (mkS ps_bound_Low qs_bound_Low F_bound_Low)) (h_bound_Value : SpecOk Try.prog 47 (mkS ps_bound_Value qs_bound_Value F_bound_Value)) (h_bound_Const : SpecOk Try.prog 48 (mkS ps_bound_Const qs_bound_Const F_bound_Const)) (h_arith_pair_and : SpecOk Try.prog 37 (mkS ps_arith_pair_and qs_arith_pair_and F_arith_pair_and)) (h_arith_pair_rsh : SpecOk Try.prog 41 (mkS ps_arith_pair_rsh qs_arith_pair_rsh F_arith_pair_rsh)) : ESpOk Try.prog 20 (mkE pa_arith_pair_narrow_8 ph_arith_pair_narrow_8 pr_arith_pair_narrow_8 pz_arith_pair_narrow_8 (N_arith_pair_narrow_8 F_arith_tidy F_bound_Size F_bound_Low F_bound_Value F_bound_Const F_arith_pair_and F_arith_pair_rsh)) :=
  espOk_mk (fl := 10) (d := 11) (cfgOk_cons (cfgOk_cons (cfgOk_cons (cfgOk_cons (cfgOk_cons (cfgOk_cons (cfgOk_cons base h_arith_pair_rsh) h_arith_pair_and) h_bound_Const) h_bound_Value) h_bound_Low) h_bound_Size) h_arith_tidy) esOk_nil (by rintro R ⟨y0, y1, y2, y3, y4, y5, y6, y7, y8, y9, y10, y11, y12, y13, y14, y15, y16, y17, y18, y19, y20, y21, y22, y23, y24, y25, y26, y27, y28, y29, y30, y31, y32, y33, y34, y35, y36, y37, y38, y39, y40, y41, y42, ⟨⟩⟩ k; kernel_rfl)
noncomputable def E_arith_pair_narrow_8 : TE_arith_pair_narrow_8 := N_arith_pair_narrow_8 F_arith_tidy F_bound_Size F_bound_Low F_bound_Value F_bound_Const F_arith_pair_and F_arith_pair_rsh 
theorem okE_arith_pair_narrow_8 : ESpOk Try.prog 20 (mkE pa_arith_pair_narrow_8 ph_arith_pair_narrow_8 pr_arith_pair_narrow_8 pz_arith_pair_narrow_8 E_arith_pair_narrow_8) := S_arith_pair_narrow_8 ok_arith_tidy ok_bound_Size ok_bound_Low ok_bound_Value ok_bound_Const ok_arith_pair_and ok_arith_pair_rsh
abbrev pa_arith_pair_narrow_9 : List PV := [(.agg [(.int .u64), (.int .u64), (.int .i64), (.int .i64), (.int .u64), (.int .u64), (.int .u64), (.int .u64), (.int .i64), (.int .i64), (.int .u64), (.int .u64)]), (.int .i64), (.fn 38 [])]
abbrev ph_arith_pair_narrow_9 : List PB := [pbD, pbD, pbD, pbM, (.cells [(.int .u64), (.int .u64), (.int .i64), (.int .i64), (.int .u64), (.int .u64), (.int .u64), (.int .u64), (.int .i64), (.int .i64), (.int .u64), (.int .u64)])]
abbrev pr_arith_pair_narrow_9 : PV := (.agg [(.int .u64), (.int .u64), (.int .i64), (.int .i64), (.int .u64), (.int .u64)])
abbrev pz_arith_pair_narrow_9 : List PB := [pbD, pbD, pbD, pbM, (.cells [(.int .u64), (.int .u64), (.int .i64), (.int .i64), (.int .u64), (.int .u64), (.int .u64), (.int .u64), (.int .i64), (.int .i64), (.int .u64), (.int .u64)])]
abbrev IT_arith_pair_narrow_9 : Type := (Int) × (Int) × (Int) × (Int) × (Int) × (Int) × (Int) × (Int) × (Int) × (Int) × (Int) × (Int) × (Int) × (Int) × (Int) × (Int) × (Int) × (Int) × (Int) × (Int) × (Int) × (Int) × (Int) × (Int) × (Int) × (Int) × (Int) × (Int) × (Int) × (Int) × (Int) × (Int) × (Int) × (Int) × (Int) × (Int) × (Int) × (Int) × (Int) × (Int) × (Int) × (Int) × (Int) × Unit
abbrev OT_arith_pair_narrow_9 : Type := (Int) × (Int) × (Int) × (Int) × (Int) × (Int) × (Int) × (Int) × (Int) × (Int) × (Int) × (Int) × (Int) × (Int) × (Int) × (Int) × (Int) × (Int) × (Int) × (Int) × (Int) × (Int) × (Int) × (Int) × (Int) × (Int) × (Int) × (Int) × (Int) × (Int) × (Int) × (Int) × (Int) × (Int) × (Int) × (Int) × Unit
abbrev TE_arith_pair_narrow_9 : Type 1 := (R : Type) → IT_arith_pair_narrow_9 → (OT_arith_pair_narrow_9 → Option R) → Option R
noncomputable def N_arith_pair_narrow_9 (F_arith_tidy : FT ps_arith_tidy qs_arith_tidy) (F_bound_Size : FT ps_bound_Size qs_bound_Size) (F_bound_Low : FT ps_bound_Low qs_bound_Low) (F_bound_Value : FT ps_bound_Value qs_bound_Value) (F_bound_Const : FT ps_bound_Const qs_bound_Const) (F_arith_pair_or : FT ps_arith_pair_or qs_arith_pair_or) (F_arith_pair_rsh : FT ps_arith_pair_rsh qs_arith_pair_rsh)  : TE_arith_pair_narrow_9 := fun R x k => arith_narrowG F_arith_tidy F_bound_Size F_bound_Low F_bound_Value F_bound_Const F_arith_pair_or F_arith_pair_rsh R x k
theorem S_arith_pair_narrow_9 {F_arith_tidy : FT ps_arith_tidy qs_arith_tidy} {F_bound_Size : FT ps_bound_Size qs_bound_Size} {F_bound_Low : FT ps_bound_Low qs_bound_Low} {F_bound_Value : FT ps_bound_Value qs_bound_Value} {F_bound_Const : FT ps_bound_Const qs_bound_Const} {F_arith_pair_or : FT ps_arith_pair_or qs_arith_pair_or} {F_arith_pair_rsh : FT ps_arith_pair_rsh qs_arith_pair_rsh} (h_arith_tidy : SpecOk Try.prog 19 (mkS ps_arith_tidy qs_arith_tidy F_arith_tidy)) (h_bound_Size : SpecOk Try.prog 49 (mkS ps_bound_Size qs_bound_Size F_bound_Size)) (h_bound_Low : SpecOk Try.prog 46 (mkS ps_bound_Low qs_bound_Low F_bound_Low)) (h_bound_Value : SpecOk Try.prog 47 (mkS ps_bound_Value qs_bound_Value F_bound_Value)) (h_bound_Const : SpecOk Try.prog 48 (mkS ps_bound_Const qs_bound_Const F_bound_Const)) (h_arith_pair_or : SpecOk Try.prog 38 (mkS ps_arith_pair_or qs_arith_pair_or F_arith_pair_or)) (h_arith_pair_rsh : SpecOk Try.prog 41 (mkS ps_arith_pair_rsh qs_arith_pair_rsh F_arith_pair_rsh)) : ESpOk Try.prog 20 (mkE pa_arith_pair_narrow_9 ph_arith_pair_narrow_9 pr_arith_pair_narrow_9 pz_arith_pair_narrow_9 (N_arith_pair_narrow_9 F_arith_tidy F_bound_Size F_bound_Low F_bound_Value F_bound_Const F_arith_pair_or F_arith_pair_rsh)) :=
  espOk_mk (fl := 10) (d := 11) (cfgOk_cons (cfgOk_cons (cfgOk_cons (cfgOk_cons (cfgOk_cons (cfgOk_cons (cfgOk_cons base h_arith_pair_rsh) h_arith_pair_or) h_bound_Const) h_bound_Value) h_bound_Low) h_bound_Size) h_arith_tidy) esOk_nil (by rintro R ⟨y0, y1, y2, y3, y4, y5, y6, y7, y8, y9, y10, y11, y12, y13, y14, y15, y16, y17, y18, y19, y20, y21, y22, y23, y24, y25, y26, y27, y28, y29, y30, y31, y32, y33, y34, y35, y36, y37, y38, y39, y40, y41, y42, ⟨⟩⟩ k; kernel_rfl)
noncomputable def E_arith_pair_narrow_9 : TE_arith_pair_narrow_9 := N_arith_pair_narrow_9 F_arith_tidy F_bound_Size F_bound_Low F_bound_Value F_bound_Const F_arith_pair_or F_arith_pair_rsh 
theorem okE_arith_pair_narrow_9 : ESpOk Try.prog 20 (mkE pa_arith_pair_narrow_9 ph_arith_pair_narrow_9 pr_arith_pair_narrow_9 pz_arith_pair_narrow_9 E_arith_pair_narrow_9) := S_arith_pair_narrow_9 ok_arith_tidy ok_bound_Size ok_bound_Low ok_bound_Value ok_bound_Const ok_arith_pair_or ok_arith_pair_rsh
abbrev pa_arith_pair_narrow_10 : List PV := [(.agg [(.int .u64), (.int .u64), (.int .i64), (.int .i64), (.int .u64), (.int .u64), (.int .u64), (.int .u64), (.int .i64), (.int .i64), (.int .u64), (.int .u64)]), (.int .i64), (.fn 39 [])]
abbrev ph_arith_pair_narrow_10 : List PB := [pbD, pbD, pbD, pbM, (.cells [(.int .u64), (.int .u64), (.int .i64), (.int .i64), (.int .u64), (.int .u64), (.int .u64), (.int .u64), (.int .i64), (.int .i64), (.int .u64), (.int .u64)])]
abbrev pr_arith_pair_narrow_10 : PV := (.agg [(.int .u64), (.int .u64), (.int .i64), (.int .i64), (.int .u64), (.int .u64)])
abbrev pz_arith_pair_narrow_10 : List PB := [pbD, pbD, pbD, pbM, (.cells [(.int .u64), (.int .u64), (.int .i64), (.int .i64), (.int .u64), (.int .u64), (.int .u64), (.int .u64), (.int .i64), (.int .i64), (.int .u64), (.int .u64)])]
abbrev IT_arith_pair_narrow_10 : Type := (Int) × (Int) × (Int) × (Int) × (Int) × (Int) × (Int) × (Int) × (Int) × (Int) × (Int) × (Int) × (Int) × (Int) × (Int) × (Int) × (Int) × (Int) × (Int) × (Int) × (Int) × (Int) × (Int) × (Int) × (Int) × (Int) × (Int) × (Int) × (Int) × (Int) × (Int) × (Int) × (Int) × (Int) × (Int) × (Int) × (Int) × (Int) × (Int) × (Int) × (Int) × (Int) × (Int) × Unit
abbrev OT_arith_pair_narrow_10 : Type := (Int) × (Int) × (Int) × (Int) × (Int) × (Int) × (Int) × (Int) × (Int) × (Int) × (Int) × (Int) × (Int) × (Int) × (Int) × (Int) × (Int) × (Int) × (Int) × (Int) × (Int) × (Int) × (Int) × (Int) × (Int) × (Int) × (Int) × (Int) × (Int) × (Int) × (Int) × (Int) × (Int) × (Int) × (Int) × (Int) × Unit
abbrev TE_arith_pair_narrow_10 : Type 1 := (R : Type) → IT_arith_pair_narrow_10 → (OT_arith_pair_narrow_10 → Option R) → Option R
noncomputable def N_arith_pair_narrow_10 (F_arith_tidy : FT ps_arith_tidy qs_arith_tidy) (F_bound_Size : FT ps_bound_Size qs_bound_Size) (F_bound_Low : FT ps_bound_Low qs_bound_Low) (F_bound_Value : FT ps_bound_Value qs_bound_Value) (F_bound_Const : FT ps_bound_Const qs_bound_Const) (F_arith_pair_xor : FT ps_arith_pair_xor qs_arith_pair_xor) (F_arith_pair_rsh : FT ps_arith_pair_rsh qs_arith_pair_rsh)  : TE_arith_pair_narrow_10 := fun R x k => arith_narrowG F_arith_tidy F_bound_Size F_bound_Low F_bound_Value F_bound_Const F_arith_pair_xor F_arith_pair_rsh R x k
theorem S_arith_pair_narrow_10 {F_arith_tidy : FT ps_arith_tidy qs_arith_tidy} {F_bound_Size : FT ps_bound_Size qs_bound_Size} {F_bound_Low : FT ps_bound_Low qs_bound_Low} {F_bound_Value : FT ps_bound_Value qs_bound_Value} {F_bound_Const : FT ps_bound_Const qs_bound_Const} {F_arith_pair_xor : FT ps_arith_pair_xor qs_arith_pair_xor} {F_arith_pair_rsh : FT ps_arith_pair_rsh qs_arith_pair_rsh} (h_arith_tidy : SpecOk Try.prog 19 (mkS ps_arith_tidy qs_arith_tidy F_arith_tidy)) (h_bound_Size : SpecOk Try.prog 49 (mkS ps_bound_Size qs_bound_Size F_bound_Size)) (h_bound_Low : SpecOk Try.prog 46 (mkS ps_bound_Low qs_bound_Low F_bound_Low)) (h_bound_Value : SpecOk Try.prog 47 (mkS ps_bound_Value qs_bound_Value F_bound_Value)) (h_bound_Const : SpecOk Try.prog 48 (mkS ps_bound_Const qs_bound_Const F_bound_Const)) (h_arith_pair_xor : SpecOk Try.prog 39 (mkS ps_arith_pair_xor qs_arith_pair_xor F_arith_pair_xor)) (h_arith_pair_rsh : SpecOk Try.prog 41 (mkS ps_arith_pair_rsh qs_arith_pair_rsh F_arith_pair_rsh)) : ESpOk Try.prog 20 (mkE pa_arith_pair_narrow_10 ph_arith_pair_narrow_10 pr_arith_pair_narrow_10 pz_arith_pair_narrow_10 (N_arith_pair_narrow_10 F_arith_tidy F_bound_Size F_bound_Low F_bound_Value F_bound_Const F_arith_pair_xor F_arith_pair_rsh)) :=
  espOk_mk (fl := 10) (d := 11) (cfgOk_cons (cfgOk_cons (cfgOk_cons (cfgOk_cons (cfgOk_cons (cfgOk_cons (cfgOk_cons base h_arith_pair_rsh) h_arith_pair_xor) h_bound_Const) h_bound_Value) h_bound_Low) h_bound_Size) h_arith_tidy) esOk_nil (by rintro R ⟨y0, y1, y2, y3, y4, y5, y6, y7, y8, y9, y10, y11, y12, y13, y14, y15, y16, y17, y18, y19, y20, y21, y22, y23, y24, y25, y26, y27, y28, y29, y30, y31, y32, y33, y34, y35, y36, y37, y38, y39, y40, y41, y42, ⟨⟩⟩ k; kernel_rfl)
noncomputable def E_arith_pair_narrow_10 : TE_arith_pair_narrow_10 := N_arith_pair_narrow_10 F_arith_tidy F_bound_Size F_bound_Low F_bound_Value F_bound_Const F_arith_pair_xor F_arith_pair_rsh 
theorem okE_arith_pair_narrow_10 : ESpOk Try.prog 20 (mkE pa_arith_pair_narrow_10 ph_arith_pair_narrow_10 pr_arith_pair_narrow_10 pz_arith_pair_narrow_10 E_arith_pair_narrow_10) := S_arith_pair_narrow_10 ok_arith_tidy ok_bound_Size ok_bound_Low ok_bound_Value ok_bound_Const ok_arith_pair_xor ok_arith_pair_rsh
abbrev pa_arith_pair_narrow_11 : List PV := [(.agg [(.int .u64), (.int .u64), (.int .i64), (.int .i64), (.int .u64), (.int .u64), (.int .u64), (.int .u64), (.int .i64), (.int .i64), (.int .u64), (.int .u64)]), (.int .i64), (.fn 40 [])]
abbrev ph_arith_pair_narrow_11 : List PB := [pbD, pbD, pbD, pbM, (.cells [(.int .u64), (.int .u64), (.int .i64), (.int .i64), (.int .u64), (.int .u64), (.int .u64), (.int .u64), (.int .i64), (.int .i64), (.int .u64), (.int .u64)])]
abbrev pr_arith_pair_narrow_11 : PV := (.agg [(.int .u64), (.int .u64), (.int .i64), (.int .i64), (.int .u64), (.int .u64)])
abbrev pz_arith_pair_narrow_11 : List PB := [pbD, pbD, pbD, pbM, (.cells [(.int .u64), (.int .u64), (.int .i64), (.int .i64), (.int .u64), (.int .u64), (.int .u64), (.int .u64), (.int .i64), (.int .i64), (.int .u64), (.int .u64)])]
abbrev IT_arith_pair_narrow_11 : Type := (Int) × (Int) × (Int) × (Int) × (Int) × (Int) × (Int) × (Int) × (Int) × (Int) × (Int) × (Int) × (Int) × (Int) × (Int) × (Int) × (Int) × (Int) × (Int) × (Int) × (Int) × (Int) × (Int) × (Int) × (Int) × (Int) × (Int) × (Int) × (Int) × (Int) × (Int) × (Int) × (Int) × (Int) × (Int) × (Int) × (Int) × (Int) × (Int) × (Int) × (Int) × (Int) × (Int) × Unit
abbrev OT_arith_pair_narrow_11 : Type := (Int) × (Int) × (Int) × (Int) × (Int) × (Int) × (Int) × (Int) × (Int) × (Int) × (Int) × (Int) × (Int) × (Int) × (Int) × (Int) × (Int) × (Int) × (Int) × (Int) × (Int) × (Int) × (Int) × (Int) × (Int) × (Int) × (Int) × (Int) × (Int) × (Int) × (Int) × (Int) × (Int) × (Int) × (Int) × (Int) × Unit
abbrev TE_arith_pair_narrow_11 : Type 1 := (R : Type) → IT_arith_pair_narrow_11 → (OT_arith_pair_narrow_11 → Option R) → Option R
noncomputable def N_arith_pair_narrow_11 (F_arith_tidy : FT ps_arith_tidy qs_arith_tidy) (F_bound_Size : FT ps_bound_Size qs_bound_Size) (F_bound_Low : FT ps_bound_Low qs_bound_Low) (F_bound_Value : FT ps_bound_Value qs_bound_Value) (F_bound_Const : FT ps_bound_Const qs_bound_Const) (F_arith_pair_lsh : FT ps_arith_pair_lsh qs_arith_pair_lsh) (F_arith_pair_rsh : FT ps_arith_pair_rsh qs_arith_pair_rsh)  : TE_arith_pair_narrow_11 := fun R x k => arith_narrowG F_arith_tidy F_bound_Size F_bound_Low F_bound_Value F_bound_Const F_arith_pair_lsh F_arith_pair_rsh R x k
theorem S_arith_pair_narrow_11 {F_arith_tidy : FT ps_arith_tidy qs_arith_tidy} {F_bound_Size : FT ps_bound_Size qs_bound_Size} {F_bound_Low : FT ps_bound_Low qs_bound_Low} {F_bound_Value : FT ps_bound_Value qs_bound_Value} {F_bound_Const : FT ps_bound_Const qs_bound_Const} {F_arith_pair_lsh : FT ps_arith_pair_lsh qs_arith_pair_lsh} {F_arith_pair_rsh : FT ps_arith_pair_rsh qs_arith_pair_rsh} (h_arith_tidy : SpecOk Try.prog 19 (mkS ps_arith_tidy qs_arith_tidy F_arith_tidy)) (h_bound_Size : SpecOk Try.prog 49 (mkS ps_bound_Size qs_bound_Size F_bound_Size)) (h_bound_Low : SpecOk Try.prog 46 (mkS ps_bound_Low qs_bound_Low F_bound_Low)) (h_bound_Value : SpecOk Try.prog 47 (mkS ps_bound_Value qs_bound_Value F_bound_Value)) (h_bound_Const : SpecOk Try.prog 48 (mkS ps_bound_Const qs_bound_Const F_bound_Const)) (h_arith_pair_lsh : SpecOk Try.prog 40 (mkS ps_arith_pair_lsh qs_arith_pair_lsh F_arith_pair_lsh)) (h_arith_pair_rsh : SpecOk Try.prog 41 (mkS ps_arith_pair_rsh qs_arith_pair_rsh F_arith_pair_rsh)) : ESpOk Try.prog 20 (mkE pa_arith_pair_narrow_11 ph_arith_pair_narrow_11 pr_arith_pair_narrow_11 pz_arith_pair_narrow_11 (N_arith_pair_narrow_11 F_arith_tidy F_bound_Size F_bound_Low F_bound_Value F_bound_Const F_arith_pair_lsh F_arith_pair_rsh)) :=
  espOk_mk (fl := 10) (d := 11) (cfgOk_cons (cfgOk_cons (cfgOk_cons (cfgOk_cons (cfgOk_cons (cfgOk_cons (cfgOk_cons base h_arith_pair_rsh) h_arith_pair_lsh) h_bound_Const) h_bound_Value) h_bound_Low) h_bound_Size) h_arith_tidy) esOk_nil (by rintro R ⟨y0, y1, y2, y3, y4, y5, y6, y7, y8, y9, y10, y11, y12, y13, y14, y15, y16, y17, y18, y19, y20, y21, y22, y23, y24, y25, y26, y27, y28, y29, y30, y31, y32, y33, y34, y35, y36, y37, y38, y39, y40, y41, y42, ⟨⟩⟩ k; kernel_rfl)
noncomputable def E_arith_pair_narrow_11 : TE_arith_pair_narrow_11 := N_arith_pair_narrow_11 F_arith_tidy F_bound_Size F_bound_Low F_bound_Value F_bound_Const F_arith_pair_lsh F_arith_pair_rsh 
theorem okE_arith_pair_narrow_11 : ESpOk Try.prog 20 (mkE pa_arith_pair_narrow_11 ph_arith_pair_narrow_11 pr_arith_pair_narrow_11 pz_arith_pair_narrow_11 E_arith_pair_narrow_11) := S_arith_pair_narrow_11 ok_arith_tidy ok_bound_Size ok_bound_Low ok_bound_Value ok_bound_Const ok_arith_pair_lsh ok_arith_pair_rsh
abbrev pa_arith_pair_narrow_12 : List PV := [(.agg [(.int .u64), (.int .u64), (.int .i64), (.int .i64), (.int .u64), (.int .u64), (.int .u64), (.int .u64), (.int .i64), (.int .i64), (.int .u64), (.int .u64)]), (.int .i64), (.fn 41 [])]
abbrev ph_arith_pair_narrow_12 : List PB := [pbD, pbD, pbD, pbM, (.cells [(.int .u64), (.int .u64), (.int .i64), (.int .i64), (.int .u64), (.int .u64), (.int .u64), (.int .u64), (.int .i64), (.int .i64), (.int .u64), (.int .u64)])]
abbrev pr_arith_pair_narrow_12 : PV := (.agg [(.int .u64), (.int .u64), (.int .i64), (.int .i64), (.int .u64), (.int .u64)])
abbrev pz_arith_pair_narrow_12 : List PB := [pbD, pbD, pbD, pbM, (.cells [(.int .u64), (.int .u64), (.int .i64), (.int .i64), (.int .u64), (.int .u64), (.int .u64), (.int .u64), (.int .i64), (.int .i64), (.int .u64), (.int .u64)])]
abbrev IT_arith_pair_narrow_12 : Type := (Int) × (Int) × (Int) × (Int) × (Int) × (Int) × (Int) × (Int) × (Int) × (Int) × (Int) × (Int) × (Int) × (Int) × (Int) × (Int) × (Int) × (Int) × (Int) × (Int) × (Int) × (Int) × (Int) × (Int) × (Int) × (Int) × (Int) × (Int) × (Int) × (Int) × (Int) × (Int) × (Int) × (Int) × (Int) × (Int) × (Int) × (Int) × (Int) × (Int) × (Int) × (Int) × (Int) × Unit
abbrev OT_arith_pair_narrow_12 : Type := (Int) × (Int) × (Int) × (Int) × (Int) × (Int) × (Int) × (Int) × (Int) × (Int) × (Int) × (Int) × (Int) × (Int) × (Int) × (Int) × (Int) × (Int) × (Int) × (Int) × (Int) × (Int) × (Int) × (Int) × (Int) × (Int) × (Int) × (Int) × (Int) × (Int) × (Int) × (Int) × (Int) × (Int) × (Int) × (Int) × Unit
abbrev TE_arith_pair_narrow_12 : Type 1 := (R : Type) → IT_arith_pair_narrow_12 → (OT_arith_pair_narrow_12 → Option R) → Option R
noncomputable def N_arith_pair_narrow_12 (F_arith_tidy : FT ps_arith_tidy qs_arith_tidy) (F_bound_Size : FT ps_bound_Size qs_bound_Size) (F_bound_Low : FT ps_bound_Low qs_bound_Low) (F_bound_Value : FT ps_bound_Value qs_bound_Value) (F_bound_Const : FT ps_bound_Const qs_bound_Const) (F_arith_pair_rsh : FT ps_arith_pair_rsh qs_arith_pair_rsh)  : TE_arith_pair_narrow_12 := fun R x k => arith_narrowG F_arith_tidy F_bound_Size F_bound_Low F_bound_Value F_bound_Const F_arith_pair_rsh F_arith_pair_rsh R x k
theorem S_arith_pair_narrow_12 {F_arith_tidy : FT ps_arith_tidy qs_arith_tidy} {F_bound_Size : FT ps_bound_Size qs_bound_Size} {F_bound_Low : FT ps_bound_Low qs_bound_Low} {F_bound_Value : FT ps_bound_Value qs_bound_Value} {F_bound_Const : FT ps_bound_Const qs_bound_Const} {F_arith_pair_rsh : FT ps_arith_pair_rsh qs_arith_pair_rsh} (h_arith_tidy : SpecOk Try.prog 19 (mkS ps_arith_tidy qs_arith_tidy F_arith_tidy)) (h_bound_Size : SpecOk Try.prog 49 (mkS ps_bound_Size qs_bound_Size F_bound_Size)) (h_bound_Low : SpecOk Try.prog 46 (mkS ps_bound_Low qs_bound_Low F_bound_Low)) (h_bound_Value : SpecOk Try.prog 47 (mkS ps_bound_Value qs_bound_Value F_bound_Value)) (h_bound_Const : SpecOk Try.prog 48 (mkS ps_bound_Const qs_bound_Const F_bound_Const)) (h_arith_pair_rsh : SpecOk Try.prog 41 (mkS ps_arith_pair_rsh qs_arith_pair_rsh F_arith_pair_rsh)) : ESpOk Try.prog 20 (mkE pa_arith_pair_narrow_12 ph_arith_pair_narrow_12 pr_arith_pair_narrow_12 pz_arith_pair_narrow_12 (N_arith_pair_narrow_12 F_arith_tidy F_bound_Size F_bound_Low F_bound_Value F_bound_Const F_arith_pair_rsh)) :=
  espOk_mk (fl := 10) (d := 11) (cfgOk_cons (cfgOk_cons (cfgOk_cons (cfgOk_cons (cfgOk_cons (cfgOk_cons base h_arith_pair_rsh) h_bound_Const) h_bound_Value) h_bound_Low) h_bound_Size) h_arith_tidy) esOk_nil (by rintro R ⟨y0, y1, y2, y3, y4, y5, y6, y7, y8, y9, y10, y11, y12, y13, y14, y15, y16, y17, y18, y19, y20, y21, y22, y23, y24, y25, y26, y27, y28, y29, y30, y31, y32, y33, y34, y35, y36, y37, y38, y39, y40, y41, y42, ⟨⟩⟩ k; kernel_rfl)
noncomputable def E_arith_pair_narrow_12 : TE_arith_pair_narrow_12 := N_arith_pair_narrow_12 F_arith_tidy F_bound_Size F_bound_Low F_bound_Value F_bound_Const F_arith_pair_rsh 
theorem okE_arith_pair_narrow_12 : ESpOk Try.prog 20 (mkE pa_arith_pair_narrow_12 ph_arith_pair_narrow_12 pr_arith_pair_narrow_12 pz_arith_pair_narrow_12 E_arith_pair_narrow_12) := S_arith_pair_narrow_12 ok_arith_tidy ok_bound_Size ok_bound_Low ok_bound_Value ok_bound_Const ok_arith_pair_rsh
abbrev pa_arith_pair_narrow_13 : List PV := [(.agg [(.int .u64), (.int .u64), (.int .i64), (.int .i64), (.int .u64), (.int .u64), (.int .u64), (.int .u64), (.int .i64), (.int .i64), (.int .u64), (.int .u64)]), (.int .i64), (.fn 42 [])]
abbrev ph_arith_pair_narrow_13 : List PB := [pbD, pbD, pbD, pbM, (.cells [(.int .u64), (.int .u64), (.int .i64), (.int .i64), (.int .u64), (.int .u64), (.int .u64), (.int .u64), (.int .i64), (.int .i64), (.int .u64), (.int .u64)])]
abbrev pr_arith_pair_narrow_13 : PV := (.agg [(.int .u64), (.int .u64), (.int .i64), (.int .i64), (.int .u64), (.int .u64)])
abbrev pz_arith_pair_narrow_13 : List PB := [pbD, pbD, pbD, pbM, (.cells [(.int .u64), (.int .u64), (.int .i64), (.int .i64), (.int .u64), (.int .u64), (.int .u64), (.int .u64), (.int .i64), (.int .i64), (.int .u64), (.int .u64)])]
abbrev IT_arith_pair_narrow_13 : Type := (Int) × (Int) × (Int) × (Int) × (Int) × (Int) × (Int) × (Int) × (Int) × (Int) × (Int) × (Int) × (Int) × (Int) × (Int) × (Int) × (Int) × (Int) × (Int) × (Int) × (Int) × (Int) × (Int) × (Int) × (Int) × (Int) × (Int) × (Int) × (Int) × (Int) × (Int) × (Int) × (Int) × (Int) × (Int) × (Int) × (Int) × (Int) × (Int) × (Int) × (Int) × (Int) × (Int) × Unit
abbrev OT_arith_pair_narrow_13 : Type := (Int) × (Int) × (Int) × (Int) × (Int) × (Int) × (Int) × (Int) × (Int) × (Int) × (Int) × (Int) × (Int) × (Int) × (Int) × (Int) × (Int) × (Int) × (Int) × (Int) × (Int) × (Int) × (Int) × (Int) × (Int) × (Int) × (Int) × (Int) × (Int) × (Int) × (Int) × (Int) × (Int) × (Int) × (Int) × (Int) × Unit
abbrev TE_arith_pair_narrow_13 : Type 1 := (R : Type) → IT_arith_pair_narrow_13 → (OT_arith_pair_narrow_13 → Option R) → Option R
noncomputable def N_arith_pair_narrow_13 (F_arith_tidy : FT ps_arith_tidy qs_arith_tidy) (F_bound_Size : FT ps_bound_Size qs_bound_Size) (F_bound_Low : FT ps_bound_Low qs_bound_Low) (F_bound_Value : FT ps_bound_Value qs_bound_Value) (F_bound_Const : FT ps_bound_Const qs_bound_Const) (F_arith_pair_rsh : FT ps_arith_pair_rsh qs_arith_pair_rsh) (F_arith_pair_arsh : FT ps_arith_pair_arsh qs_arith_pair_arsh)  : TE_arith_pair_narrow_13 := fun R x k => arith_narrowG F_arith_tidy F_bound_Size F_bound_Low F_bound_Value F_bound_Const F_arith_pair_arsh F_arith_pair_rsh R x k
theorem S_arith_pair_narrow_13 {F_arith_tidy : FT ps_arith_tidy qs_arith_tidy} {F_bound_Size : FT ps_bound_Size qs_bound_Size} {F_bound_Low : FT ps_bound_Low qs_bound_Low} {F_bound_Value : FT ps_bound_Value qs_bound_Value} {F_bound_Const : FT ps_bound_Const qs_bound_Const} {F_arith_pair_rsh : FT ps_arith_pair_rsh qs_arith_pair_rsh} {F_arith_pair_arsh : FT ps_arith_pair_arsh qs_arith_pair_arsh} (h_arith_tidy : SpecOk Try.prog 19 (mkS ps_arith_tidy qs_arith_tidy F_arith_tidy)) (h_bound_Size : SpecOk Try.prog 49 (mkS ps_bound_Size qs_bound_Size F_bound_Size)) (h_bound_Low : SpecOk Try.prog 46 (mkS ps_bound_Low qs_bound_Low F_bound_Low)) (h_bound_Value : SpecOk Try.prog 47 (mkS ps_bound_Value qs_bound_Value F_bound_Value)) (h_bound_Const : SpecOk Try.prog 48 (mkS ps_bound_Const qs_bound_Const F_bound_Const)) (h_arith_pair_rsh : SpecOk Try.prog 41 (mkS ps_arith_pair_rsh qs_arith_pair_rsh F_arith_pair_rsh)) (h_arith_pair_arsh : SpecOk Try.prog 42 (mkS ps_arith_pair_arsh qs_arith_pair_arsh F_arith_pair_arsh)) : ESpOk Try.prog 20 (mkE pa_arith_pair_narrow_13 ph_arith_pair_narrow_13 pr_arith_pair_narrow_13 pz_arith_pair_narrow_13 (N_arith_pair_narrow_13 F_arith_tidy F_bound_Size F_bound_Low F_bound_Value F_bound_Const F_arith_pair_rsh F_arith_pair_arsh)) :=
  espOk_mk (fl := 10) (d := 11) (cfgOk_cons (cfgOk_cons (cfgOk_cons (cfgOk_cons (cfgOk_cons (cfgOk_cons (cfgOk_cons base h_arith_pair_arsh) h_arith_pair_rsh) h_bound_Const) h_bound_Value) h_bound_Low) h_bound_Size) h_arith_tidy) esOk_nil (by rintro R ⟨y0, y1, y2, y3, y4, y5, y6, y7, y8, y9, y10, y11, y12, y13, y14, y15, y16, y17, y18, y19, y20, y21, y22, y23, y24, y25, y26, y27, y28, y29, y30, y31, y32, y33, y34, y35, y36, y37, y38, y39, y40, y41, y42, ⟨⟩⟩ k; kernel_rfl)
noncomputable def E_arith_pair_narrow_13 : TE_arith_pair_narrow_13 := N_arith_pair_narrow_13 F_arith_tidy F_bound_Size F_bound_Low F_bound_Value F_bound_Const F_arith_pair_rsh F_arith_pair_arsh 
theorem okE_arith_pair_narrow_13 : ESpOk Try.prog 20 (mkE pa_arith_pair_narrow_13 ph_arith_pair_narrow_13 pr_arith_pair_narrow_13 pz_arith_pair_narrow_13 E_arith_pair_narrow_13) := S_arith_pair_narrow_13 ok_arith_tidy ok_bound_Size ok_bound_Low ok_bound_Value ok_bound_Const ok_arith_pair_rsh ok_arith_pair_arsh
end Go.Proofs.Ytomdfcjnmogcbaa
