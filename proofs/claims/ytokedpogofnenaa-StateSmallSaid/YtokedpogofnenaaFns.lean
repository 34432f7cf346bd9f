import Derived.Test.YtokedpogofnenaaProg
import Derived.Test.YtokedpogofnenaaEnwZ4
import Derived.KernelRfl
set_option maxHeartbeats 0
set_option maxRecDepth 1000000
set_option linter.unusedVariables false
namespace Go.Proofs.Ytokedpogofnenaa
open Go Go.Eng
theorem base : CfgOk (Cw Try.prog [] noH) := cfgOk_nil (noGo_of (by kernel_rfl)) (by kernel_rfl)
abbrev ps_tnum_tidy : List PT := [.one (.int .u64), .one (.int .u64)]
abbrev qs_tnum_tidy : List PT := [.agg ((.prod (.int .u64) (.int .u64)))]
noncomputable def N_tnum_tidy   : FT ps_tnum_tidy qs_tnum_tidy := fun R x k => match x with
  | (x0, x1) => 
      k (W.wrap IntKind.u64 (W.andNot IntKind.u64 x0 x1), x1)
theorem S_tnum_tidy   : SpecOk Try.prog 62 (mkS ps_tnum_tidy qs_tnum_tidy (N_tnum_tidy )) :=
  specOk_mk (fl := 10) (d := 12) base (by rintro R ⟨x0, x1⟩ k; kernel_rfl)
noncomputable def F_tnum_tidy : FT ps_tnum_tidy qs_tnum_tidy := N_tnum_tidy  
theorem ok_tnum_tidy : SpecOk Try.prog 62 (mkS ps_tnum_tidy qs_tnum_tidy F_tnum_tidy) := S_tnum_tidy 
abbrev ps_tnum_Check : List PT := [.agg ((.prod (.int .u64) (.int .u64)))]
abbrev qs_tnum_Check : List PT := [.one (.bool)]
noncomputable def N_tnum_Check (F_tnum_tidy : FT ps_tnum_tidy qs_tnum_tidy)  : FT ps_tnum_Check qs_tnum_Check := fun R x k => match x with
  | (x0Value, x0Mask) => 
      F_tnum_tidy R (x0Value, x0Mask) fun y => k (W.and2 (W.eq x0Value y.1) (W.and2 (W.eq x0Mask y.2) true))
theorem S_tnum_Check {F_tnum_tidy : FT ps_tnum_tidy qs_tnum_tidy} (h_tnum_tidy : SpecOk Try.prog 62 (mkS ps_tnum_tidy qs_tnum_tidy F_tnum_tidy)) : SpecOk Try.prog 58 (mkS ps_tnum_Check qs_tnum_Check (N_tnum_Check F_tnum_tidy)) :=
  specOk_mk (fl := 10) (d := 12) (cfgOk_cons base h_tnum_tidy) (by rintro R ⟨x0Value, x0Mask⟩ k; kernel_rfl)
noncomputable def F_tnum_Check : FT ps_tnum_Check qs_tnum_Check := N_tnum_Check F_tnum_tidy 
theorem ok_tnum_Check : SpecOk Try.prog 58 (mkS ps_tnum_Check qs_tnum_Check F_tnum_Check) := S_tnum_Check ok_tnum_tidy
abbrev ps_bound_Check : List PT := [.agg ((.prod (.int .u64) (.prod (.int .u64) (.prod (.int .i64) (.prod (.int .i64) ((.prod (.int .u64) (.int .u64))))))))]
abbrev qs_bound_Check : List PT := [.one (.bool)]
noncomputable def N_bound_Check (F_tnum_Check : FT ps_tnum_Check qs_tnum_Check)  : FT ps_bound_Check qs_bound_Check := fun R x k => match x with
  | (x0Umin, x0Umax, x0Smin, x0Smax, (x0Bits_Value, x0Bits_Mask)) => 
      br (W.pick (W.le x0Umin x0Umax) (W.le x0Smin x0Smax) false) (F_tnum_Check R (x0Bits_Value, x0Bits_Mask) fun y => k (W.pick true y false)) (k false)
theorem S_bound_Check {F_tnum_Check : FT ps_tnum_Check qs_tnum_Check} (h_tnum_Check : SpecOk Try.prog 58 (mkS ps_tnum_Check qs_tnum_Check F_tnum_Check)) : SpecOk Try.prog 49 (mkS ps_bound_Check qs_bound_Check (N_bound_Check F_tnum_Check)) :=
  specOk_mk (fl := 10) (d := 12) (cfgOk_cons base h_tnum_Check) (by rintro R ⟨x0Umin, x0Umax, x0Smin, x0Smax, ⟨x0Bits_Value, x0Bits_Mask⟩⟩ k; kernel_rfl)
noncomputable def F_bound_Check : FT ps_bound_Check qs_bound_Check := N_bound_Check F_tnum_Check 
theorem ok_bound_Check : SpecOk Try.prog 49 (mkS ps_bound_Check qs_bound_Check F_bound_Check) := S_bound_Check ok_tnum_Check
abbrev ps_state_right : List PT := [.agg ((.prod (.int .i64) (.prod ((.prod (.int .u64) (.prod (.int .u64) (.prod (.int .i64) (.prod (.int .i64) ((.prod (.int .u64) (.int .u64)))))))) (.int .i64))))]
abbrev qs_state_right : List PT := [.one (.bool)]
noncomputable def N_state_right (F_bound_Check : FT ps_bound_Check qs_bound_Check)  : FT ps_state_right qs_state_right := fun R x k => match x with
  | (x0Kind, (x0Num_Umin, x0Num_Umax, x0Num_Smin, x0Num_Smax, (x0Num_Bits_Value, x0Num_Bits_Mask)), x0Region) => 
      br (W.eq x0Kind 0)
        (k
          (W.and2 (W.eq x0Kind 0)
            (W.and2 (W.eq x0Num_Umin 0)
              (W.and2 (W.eq x0Num_Umax 0)
                (W.and2 (W.eq x0Num_Smin 0) (W.and2 (W.eq x0Num_Smax 0) (W.and2 (W.eq x0Num_Bits_Value 0) (W.and2 (W.eq x0Num_Bits_Mask 0) (W.and2 (W.eq x0Region 0) true)))))))))
        (br (W.eq x0Kind 1) (br (W.eq x0Region 0) (F_bound_Check R (x0Num_Umin, x0Num_Umax, x0Num_Smin, x0Num_Smax, x0Num_Bits_Value, x0Num_Bits_Mask) fun y => k (W.pick true y false)) (k false))
          (br (W.eq x0Kind 2)
            (br (W.pick (W.ge x0Region 1) (W.le x0Region 10) false)
              (F_bound_Check R (x0Num_Umin, x0Num_Umax, x0Num_Smin, x0Num_Smax, x0Num_Bits_Value, x0Num_Bits_Mask) fun y => k (W.pick true y false)) (k false))
            (k false)))
theorem S_state_right {F_bound_Check : FT ps_bound_Check qs_bound_Check} (h_bound_Check : SpecOk Try.prog 49 (mkS ps_bound_Check qs_bound_Check F_bound_Check)) : SpecOk Try.prog 28 (mkS ps_state_right qs_state_right (N_state_right F_bound_Check)) :=
  specOk_mk (fl := 10) (d := 12) (cfgOk_cons base h_bound_Check) (by rintro R ⟨x0Kind, ⟨x0Num_Umin, x0Num_Umax, x0Num_Smin, x0Num_Smax, ⟨x0Num_Bits_Value, x0Num_Bits_Mask⟩⟩, x0Region⟩ k; kernel_rfl)
noncomputable def F_state_right : FT ps_state_right qs_state_right := N_state_right F_bound_Check 
theorem ok_state_right : SpecOk Try.prog 28 (mkS ps_state_right qs_state_right F_state_right) := S_state_right ok_bound_Check
abbrev pa_state_every_1 : List PV := [(.int .i64), (.int .i64), (.fn 27 [(.ptr 0 0)])]
abbrev ph_state_every_1 : List PB := [(.cells [(.ro true (.prod (.int .i64) (.prod (.prod (.int .u64) (.prod (.int .u64) (.prod (.int .i64) (.prod (.int .i64) (.prod (.int .u64) (.int .u64)))))) (.int .i64)))), (.ro true .bool), (.ro true (.prod (.int .i64) (.prod (.prod (.int .u64) (.prod (.int .u64) (.prod (.int .i64) (.prod (.int .i64) (.prod (.int .u64) (.int .u64)))))) (.int .i64))))]), (.cells [(.fn 25 [(.ptr 0 0)])])]
abbrev pr_state_every_1 : PV := .bool
abbrev pz_state_every_1 : List PB := [(.cells [(.ro true (.prod (.int .i64) (.prod (.prod (.int .u64) (.prod (.int .u64) (.prod (.int .i64) (.prod (.int .i64) (.prod (.int .u64) (.int .u64)))))) (.int .i64)))), (.ro true .bool), (.ro true (.prod (.int .i64) (.prod (.prod (.int .u64) (.prod (.int .u64) (.prod (.int .i64) (.prod (.int .i64) (.prod (.int .u64) (.int .u64)))))) (.int .i64))))]), (.cells [(.fn 25 [(.ptr 0 0)])])]
abbrev IT_state_every_1 : Type := (Int) × (Int) × (List (Int × ((Int × (Int × (Int × (Int × (Int × Int))))) × Int))) × (List Bool) × (List (Int × ((Int × (Int × (Int × (Int × (Int × Int))))) × Int))) × Unit
abbrev OT_state_every_1 : Type := (Bool) × (List (Int × ((Int × (Int × (Int × (Int × (Int × Int))))) × Int))) × (List Bool) × (List (Int × ((Int × (Int × (Int × (Int × (Int × Int))))) × Int))) × Unit
abbrev TE_state_every_1 : Type 1 := (R : Type) → IT_state_every_1 → (OT_state_every_1 → Option R) → Option R
noncomputable def PL_state_every_1_2_0 (F_state_right : FT ps_state_right qs_state_right) (fl : Nat)  (R : Type) (k : OT_state_every_1 → Option R) : LoopI R :=
  locate (Cw Try.prog [(28, mkS ps_state_right qs_state_right F_state_right)] noH) fl (callE (Cw Try.prog [(28, mkS ps_state_right qs_state_right F_state_right)] noH) [] fl 11) 2 26 2 [] (getE ph_state_every_1.length pr_state_every_1 pz_state_every_1 k)
noncomputable def P_state_every_1_2_0 (F_state_right : FT ps_state_right qs_state_right) (fl : Nat)  (n : Nat) (R : Type) (y0 : Int) (y1 : Int) (y2 : List (Int × (Int × Int × Int × Int × Int × Int) × Int)) (y3 : List Bool) (y4 : List (Int × (Int × Int × Int × Int × Int × Int) × Int)) (k : OT_state_every_1 → Option R) : Option R :=
  loopH (PL_state_every_1_2_0 F_state_right fl  R k).body (PL_state_every_1_2_0 F_state_right fl  R k).head n (some (
      S.mk [V.any, V.int IntKind.i64 y0, V.fn 27 [V.ptr 0 0], V.any, V.any, V.any, V.any, V.int IntKind.i64 y1, V.any, V.any, V.any, V.any, V.any, V.any, V.any, V.any, V.any, V.any] []
        [Blk.cells
            [V.ro true
                (Ty.prod (Ty.int IntKind.i64)
                  (Ty.prod (Ty.prod (Ty.int IntKind.u64) (Ty.prod (Ty.int IntKind.u64) (Ty.prod (Ty.int IntKind.i64) (Ty.prod (Ty.int IntKind.i64) (Ty.prod (Ty.int IntKind.u64) (Ty.int IntKind.u64))))))
                    (Ty.int IntKind.i64)))
                y2,
              V.ro true Ty.bool y3,
              V.ro true
                (Ty.prod (Ty.int IntKind.i64)
                  (Ty.prod (Ty.prod (Ty.int IntKind.u64) (Ty.prod (Ty.int IntKind.u64) (Ty.prod (Ty.int IntKind.i64) (Ty.prod (Ty.int IntKind.i64) (Ty.prod (Ty.int IntKind.u64) (Ty.int IntKind.u64))))))
                    (Ty.int IntKind.i64)))
                y4],
          Blk.cells [V.fn 25 [V.ptr 0 0]]])) (PL_state_every_1_2_0 F_state_right fl  R k).kont
theorem P_state_every_1_2_0_s {F_state_right : FT ps_state_right qs_state_right} (fl : Nat)  (n : Nat) (R : Type) (y0 : Int) (y1 : Int) (y2 : List (Int × (Int × Int × Int × Int × Int × Int) × Int)) (y3 : List Bool) (y4 : List (Int × (Int × Int × Int × Int × Int × Int) × Int)) (k : OT_state_every_1 → Option R) : P_state_every_1_2_0 F_state_right fl  (n + 1) R y0 y1 y2 y3 y4 k =
      br (W.lt y1 y0)
        (br (W.and2 (W.le 0 y1) (W.lt y1 (W.ofNat (W.len y2))))
          (F_state_right R
            ((W.get y2 (W.toNat y1) (0, (0, 0, 0, 0, 0, 0), 0)).1,
              ((W.get y2 (W.toNat y1) (0, (0, 0, 0, 0, 0, 0), 0)).2.1.1, (W.get y2 (W.toNat y1) (0, (0, 0, 0, 0, 0, 0), 0)).2.1.2.1, (W.get y2 (W.toNat y1) (0, (0, 0, 0, 0, 0, 0), 0)).2.1.2.2.1,
                (W.get y2 (W.toNat y1) (0, (0, 0, 0, 0, 0, 0), 0)).2.1.2.2.2.1, (W.get y2 (W.toNat y1) (0, (0, 0, 0, 0, 0, 0), 0)).2.1.2.2.2.2.1,
                (W.get y2 (W.toNat y1) (0, (0, 0, 0, 0, 0, 0), 0)).2.1.2.2.2.2.2),
              (W.get y2 (W.toNat y1) (0, (0, 0, 0, 0, 0, 0), 0)).2.2)
            fun y =>
            br (W.not y) (k (false, y2, y3, y4, ()))
              (P_state_every_1_2_0 F_state_right fl n R y0 (W.wrap IntKind.i64 (W.add y1 1)) y2 y3 y4 k))
          none)
        (k (true, y2, y3, y4, ())) := by kernel_rfl
noncomputable def N_state_every_1 (F_state_right : FT ps_state_right qs_state_right) (fl : Nat) : TE_state_every_1 := fun R x k => match x with
  | (y0, y1, y2, y3, y4, ()) => 
      P_state_every_1_2_0 F_state_right fl fl R y1 y0 y2 y3 y4 k
theorem Q_state_every_1 {F_state_right : FT ps_state_right qs_state_right} (fl : Nat) (R : Type) (x : IT_state_every_1) (k : OT_state_every_1 → Option R) : execFn (Cw Try.prog [(28, mkS ps_state_right qs_state_right F_state_right)] noH) fl (callE (Cw Try.prog [(28, mkS ps_state_right qs_state_right F_state_right)] noH) [] fl 11) 26 (encE1 pa_state_every_1 ph_state_every_1 x) (encE2 pa_state_every_1 ph_state_every_1 x) (getE ph_state_every_1.length pr_state_every_1 pz_state_every_1 k) = N_state_every_1 F_state_right fl R x k := by
  obtain ⟨y0, y1, y2, y3, y4, ⟨⟩⟩ := x; kernel_rfl
theorem S_state_every_1 {F_state_right : FT ps_state_right qs_state_right} (h_state_right : SpecOk Try.prog 28 (mkS ps_state_right qs_state_right F_state_right)) : ESpOk Try.prog 26 (mkE pa_state_every_1 ph_state_every_1 pr_state_every_1 pz_state_every_1 (N_state_every_1 F_state_right W.big)) :=
  espOk_mk (fl := W.big) (d := 11) (cfgOk_cons base h_state_right) esOk_nil (fun R x k => Q_state_every_1 W.big R x k)
noncomputable def E_state_every_1 : TE_state_every_1 := N_state_every_1 F_state_right W.big
theorem okE_state_every_1 : ESpOk Try.prog 26 (mkE pa_state_every_1 ph_state_every_1 pr_state_every_1 pz_state_every_1 E_state_every_1) := S_state_every_1 ok_state_right
abbrev pa_state_every_6 : List PV := [(.int .i64), (.int .i64), (.fn 25 [(.ptr 0 0)])]
abbrev ph_state_every_6 : List PB := [(.cells [(.ro true (.prod (.int .i64) (.prod (.prod (.int .u64) (.prod (.int .u64) (.prod (.int .i64) (.prod (.int .i64) (.prod (.int .u64) (.int .u64)))))) (.int .i64)))), (.ro true .bool), (.ro true (.prod (.int .i64) (.prod (.prod (.int .u64) (.prod (.int .u64) (.prod (.int .i64) (.prod (.int .i64) (.prod (.int .u64) (.int .u64)))))) (.int .i64))))]), (.cells [(.fn 25 [(.ptr 0 0)])]), (.cells [(.int .i64), (.int .u64), (.int .u64), (.int .i64), (.int .i64), (.int .u64), (.int .u64), (.int .i64)])]
abbrev pr_state_every_6 : PV := .bool
abbrev pz_state_every_6 : List PB := [(.cells [(.ro true (.prod (.int .i64) (.prod (.prod (.int .u64) (.prod (.int .u64) (.prod (.int .i64) (.prod (.int .i64) (.prod (.int .u64) (.int .u64)))))) (.int .i64)))), (.ro true .bool), (.ro true (.prod (.int .i64) (.prod (.prod (.int .u64) (.prod (.int .u64) (.prod (.int .i64) (.prod (.int .i64) (.prod (.int .u64) (.int .u64)))))) (.int .i64))))]), (.cells [(.fn 25 [(.ptr 0 0)])]), (.cells [(.int .i64), (.int .u64), (.int .u64), (.int .i64), (.int .i64), (.int .u64), (.int .u64), (.int .i64)])]
abbrev IT_state_every_6 : Type := (Int) × (Int) × (List (Int × ((Int × (Int × (Int × (Int × (Int × Int))))) × Int))) × (List Bool) × (List (Int × ((Int × (Int × (Int × (Int × (Int × Int))))) × Int))) × (Int) × (Int) × (Int) × (Int) × (Int) × (Int) × (Int) × (Int) × Unit
abbrev OT_state_every_6 : Type := (Bool) × (List (Int × ((Int × (Int × (Int × (Int × (Int × Int))))) × Int))) × (List Bool) × (List (Int × ((Int × (Int × (Int × (Int × (Int × Int))))) × Int))) × (Int) × (Int) × (Int) × (Int) × (Int) × (Int) × (Int) × (Int) × Unit
abbrev TE_state_every_6 : Type 1 := (R : Type) → IT_state_every_6 → (OT_state_every_6 → Option R) → Option R
noncomputable def PL_state_every_6_2_0  (fl : Nat)  (R : Type) (k : OT_state_every_6 → Option R) : LoopI R :=
  locate (Cw Try.prog [] noH) fl (callE (Cw Try.prog [] noH) [] fl 11) 3 26 2 [] (getE ph_state_every_6.length pr_state_every_6 pz_state_every_6 k)
noncomputable def P_state_every_6_2_0  (fl : Nat)  (n : Nat) (R : Type) (y0 : Int) (y1 : Int) (y2 : List (Int × (Int × Int × Int × Int × Int × Int) × Int)) (y3 : List Bool) (y4 : List (Int × (Int × Int × Int × Int × Int × Int) × Int)) (y5 : Int) (y6 : Int) (y7 : Int) (y8 : Int) (y9 : Int) (y10 : Int) (y11 : Int) (y12 : Int) (k : OT_state_every_6 → Option R) : Option R :=
  loopH (PL_state_every_6_2_0  fl  R k).body (PL_state_every_6_2_0  fl  R k).head n (some (
      S.mk [V.any, V.int IntKind.i64 y0, V.fn 25 [V.ptr 0 0], V.any, V.any, V.any, V.any, V.int IntKind.i64 y1, V.any, V.any, V.any, V.any, V.any, V.any, V.any, V.any, V.any, V.any] []
        [Blk.cells
            [V.ro true
                (Ty.prod (Ty.int IntKind.i64)
                  (Ty.prod (Ty.prod (Ty.int IntKind.u64) (Ty.prod (Ty.int IntKind.u64) (Ty.prod (Ty.int IntKind.i64) (Ty.prod (Ty.int IntKind.i64) (Ty.prod (Ty.int IntKind.u64) (Ty.int IntKind.u64))))))
                    (Ty.int IntKind.i64)))
                y2,
              V.ro true Ty.bool y3,
              V.ro true
                (Ty.prod (Ty.int IntKind.i64)
                  (Ty.prod (Ty.prod (Ty.int IntKind.u64) (Ty.prod (Ty.int IntKind.u64) (Ty.prod (Ty.int IntKind.i64) (Ty.prod (Ty.int IntKind.i64) (Ty.prod (Ty.int IntKind.u64) (Ty.int IntKind.u64))))))
                    (Ty.int IntKind.i64)))
                y4],
          Blk.cells [V.fn 25 [V.ptr 0 0]],
          Blk.cells [V.int IntKind.i64 y5, V.int IntKind.u64 y6, V.int IntKind.u64 y7, V.int IntKind.i64 y8, V.int IntKind.i64 y9, V.int IntKind.u64 y10, V.int IntKind.u64 y11, V.int IntKind.i64 y12]])) (PL_state_every_6_2_0  fl  R k).kont
theorem P_state_every_6_2_0_s  (fl : Nat)  (n : Nat) (R : Type) (y0 : Int) (y1 : Int) (y2 : List (Int × (Int × Int × Int × Int × Int × Int) × Int)) (y3 : List Bool) (y4 : List (Int × (Int × Int × Int × Int × Int × Int) × Int)) (y5 : Int) (y6 : Int) (y7 : Int) (y8 : Int) (y9 : Int) (y10 : Int) (y11 : Int) (y12 : Int) (k : OT_state_every_6 → Option R) : P_state_every_6_2_0  fl  (n + 1) R y0 y1 y2 y3 y4 y5 y6 y7 y8 y9 y10 y11 y12 k =
      br (W.lt y1 y0)
        (br (W.and2 (W.le 0 y1) (W.lt y1 (W.ofNat (W.len y3))))
          (br (W.not (W.get y3 (W.toNat y1) false)) (k (false, y2, y3, y4, y5, y6, y7, y8, y9, y10, y11, y12, ()))
            (P_state_every_6_2_0 fl n R y0 (W.wrap IntKind.i64 (W.add y1 1)) y2 y3 y4 y5 y6 y7 y8 y9 y10 y11
              y12 k))
          none)
        (k (true, y2, y3, y4, y5, y6, y7, y8, y9, y10, y11, y12, ())) := by kernel_rfl
noncomputable def N_state_every_6  (fl : Nat) : TE_state_every_6 := fun R x k => match x with
  | (y0, y1, y2, y3, y4, y5, y6, y7, y8, y9, y10, y11, y12, ()) => 
      P_state_every_6_2_0 fl fl R y1 y0 y2 y3 y4 y5 y6 y7 y8 y9 y10 y11 y12 k
theorem Q_state_every_6  (fl : Nat) (R : Type) (x : IT_state_every_6) (k : OT_state_every_6 → Option R) : execFn (Cw Try.prog [] noH) fl (callE (Cw Try.prog [] noH) [] fl 11) 26 (encE1 pa_state_every_6 ph_state_every_6 x) (encE2 pa_state_every_6 ph_state_every_6 x) (getE ph_state_every_6.length pr_state_every_6 pz_state_every_6 k) = N_state_every_6  fl R x k := by
  obtain ⟨y0, y1, y2, y3, y4, y5, y6, y7, y8, y9, y10, y11, y12, ⟨⟩⟩ := x; kernel_rfl
theorem S_state_every_6   : ESpOk Try.prog 26 (mkE pa_state_every_6 ph_state_every_6 pr_state_every_6 pz_state_every_6 (N_state_every_6  W.big)) :=
  espOk_mk (fl := W.big) (d := 11) base esOk_nil (fun R x k => Q_state_every_6 W.big R x k)
noncomputable def E_state_every_6 : TE_state_every_6 := N_state_every_6  W.big
theorem okE_state_every_6 : ESpOk Try.prog 26 (mkE pa_state_every_6 ph_state_every_6 pr_state_every_6 pz_state_every_6 E_state_every_6) := S_state_every_6 
abbrev pa_state_every_4 : List PV := [(.int .i64), (.int .i64), (.fn 29 [(.ptr 0 0), (.ptr 1 0)])]
abbrev ph_state_every_4 : List PB := [(.cells [(.ro true (.prod (.int .i64) (.prod (.prod (.int .u64) (.prod (.int .u64) (.prod (.int .i64) (.prod (.int .i64) (.prod (.int .u64) (.int .u64)))))) (.int .i64)))), (.ro true .bool), (.ro true (.prod (.int .i64) (.prod (.prod (.int .u64) (.prod (.int .u64) (.prod (.int .i64) (.prod (.int .i64) (.prod (.int .u64) (.int .u64)))))) (.int .i64))))]), (.cells [(.fn 25 [(.ptr 0 0)])])]
abbrev pr_state_every_4 : PV := .bool
abbrev pz_state_every_4 : List PB := [(.cells [(.ro true (.prod (.int .i64) (.prod (.prod (.int .u64) (.prod (.int .u64) (.prod (.int .i64) (.prod (.int .i64) (.prod (.int .u64) (.int .u64)))))) (.int .i64)))), (.ro true .bool), (.ro true (.prod (.int .i64) (.prod (.prod (.int .u64) (.prod (.int .u64) (.prod (.int .i64) (.prod (.int .i64) (.prod (.int .u64) (.int .u64)))))) (.int .i64))))]), (.cells [(.fn 25 [(.ptr 0 0)])])]
abbrev IT_state_every_4 : Type := (Int) × (Int) × (List (Int × ((Int × (Int × (Int × (Int × (Int × Int))))) × Int))) × (List Bool) × (List (Int × ((Int × (Int × (Int × (Int × (Int × Int))))) × Int))) × Unit
abbrev OT_state_every_4 : Type := (Bool) × (List (Int × ((Int × (Int × (Int × (Int × (Int × Int))))) × Int))) × (List Bool) × (List (Int × ((Int × (Int × (Int × (Int × (Int × Int))))) × Int))) × Unit
abbrev TE_state_every_4 : Type 1 := (R : Type) → IT_state_every_4 → (OT_state_every_4 → Option R) → Option R
noncomputable def PL_state_every_4_2_0 (F_state_right : FT ps_state_right qs_state_right) (E_state_every_6 : TE_state_every_6) (fl : Nat)  (R : Type) (k : OT_state_every_4 → Option R) : LoopI R :=
  locate (Cw Try.prog [(28, mkS ps_state_right qs_state_right F_state_right)] noH) fl (callE (Cw Try.prog [(28, mkS ps_state_right qs_state_right F_state_right)] noH) [(26, mkE pa_state_every_6 ph_state_every_6 pr_state_every_6 pz_state_every_6 E_state_every_6)] fl 11) 2 26 2 [] (getE ph_state_every_4.length pr_state_every_4 pz_state_every_4 k)
noncomputable def P_state_every_4_2_0 (F_state_right : FT ps_state_right qs_state_right) (E_state_every_6 : TE_state_every_6) (fl : Nat)  (n : Nat) (R : Type) (y0 : Int) (y1 : Int) (y2 : List (Int × (Int × Int × Int × Int × Int × Int) × Int)) (y3 : List Bool) (y4 : List (Int × (Int × Int × Int × Int × Int × Int) × Int)) (k : OT_state_every_4 → Option R) : Option R :=
  loopH (PL_state_every_4_2_0 F_state_right E_state_every_6 fl  R k).body (PL_state_every_4_2_0 F_state_right E_state_every_6 fl  R k).head n (some (
      S.mk [V.any, V.int IntKind.i64 y0, V.fn 29 [V.ptr 0 0, V.ptr 1 0], V.any, V.any, V.any, V.any, V.int IntKind.i64 y1, V.any, V.any, V.any, V.any, V.any, V.any, V.any, V.any, V.any, V.any] []
        [Blk.cells
            [V.ro true
                (Ty.prod (Ty.int IntKind.i64)
                  (Ty.prod (Ty.prod (Ty.int IntKind.u64) (Ty.prod (Ty.int IntKind.u64) (Ty.prod (Ty.int IntKind.i64) (Ty.prod (Ty.int IntKind.i64) (Ty.prod (Ty.int IntKind.u64) (Ty.int IntKind.u64))))))
                    (Ty.int IntKind.i64)))
                y2,
              V.ro true Ty.bool y3,
              V.ro true
                (Ty.prod (Ty.int IntKind.i64)
                  (Ty.prod (Ty.prod (Ty.int IntKind.u64) (Ty.prod (Ty.int IntKind.u64) (Ty.prod (Ty.int IntKind.i64) (Ty.prod (Ty.int IntKind.i64) (Ty.prod (Ty.int IntKind.u64) (Ty.int IntKind.u64))))))
                    (Ty.int IntKind.i64)))
                y4],
          Blk.cells [V.fn 25 [V.ptr 0 0]]])) (PL_state_every_4_2_0 F_state_right E_state_every_6 fl  R k).kont
theorem P_state_every_4_2_0_s {F_state_right : FT ps_state_right qs_state_right} {E_state_every_6 : TE_state_every_6} (fl : Nat)  (n : Nat) (R : Type) (y0 : Int) (y1 : Int) (y2 : List (Int × (Int × Int × Int × Int × Int × Int) × Int)) (y3 : List Bool) (y4 : List (Int × (Int × Int × Int × Int × Int × Int) × Int)) (k : OT_state_every_4 → Option R) : P_state_every_4_2_0 F_state_right E_state_every_6 fl  (n + 1) R y0 y1 y2 y3 y4 k =
      br (W.lt y1 y0)
        (br (W.and2 (W.le 0 y1) (W.lt y1 (W.ofNat (W.len y4))))
          (F_state_right R
            ((W.get y4 (W.toNat y1) (0, (0, 0, 0, 0, 0, 0), 0)).1,
              ((W.get y4 (W.toNat y1) (0, (0, 0, 0, 0, 0, 0), 0)).2.1.1, (W.get y4 (W.toNat y1) (0, (0, 0, 0, 0, 0, 0), 0)).2.1.2.1, (W.get y4 (W.toNat y1) (0, (0, 0, 0, 0, 0, 0), 0)).2.1.2.2.1,
                (W.get y4 (W.toNat y1) (0, (0, 0, 0, 0, 0, 0), 0)).2.1.2.2.2.1, (W.get y4 (W.toNat y1) (0, (0, 0, 0, 0, 0, 0), 0)).2.1.2.2.2.2.1,
                (W.get y4 (W.toNat y1) (0, (0, 0, 0, 0, 0, 0), 0)).2.1.2.2.2.2.2),
              (W.get y4 (W.toNat y1) (0, (0, 0, 0, 0, 0, 0), 0)).2.2)
            fun y =>
            br (W.and2 y (W.not (W.eq (W.get y4 (W.toNat y1) (0, (0, 0, 0, 0, 0, 0), 0)).1 0)))
              (E_state_every_6 R
                (W.wrap IntKind.i64 (W.mul 8 y1), W.wrap IntKind.i64 (W.add (W.wrap IntKind.i64 (W.mul 8 y1)) 8), y2, y3, y4, (W.get y4 (W.toNat y1) (0, (0, 0, 0, 0, 0, 0), 0)).1,
                  (W.get y4 (W.toNat y1) (0, (0, 0, 0, 0, 0, 0), 0)).2.1.1, (W.get y4 (W.toNat y1) (0, (0, 0, 0, 0, 0, 0), 0)).2.1.2.1, (W.get y4 (W.toNat y1) (0, (0, 0, 0, 0, 0, 0), 0)).2.1.2.2.1,
                  (W.get y4 (W.toNat y1) (0, (0, 0, 0, 0, 0, 0), 0)).2.1.2.2.2.1, (W.get y4 (W.toNat y1) (0, (0, 0, 0, 0, 0, 0), 0)).2.1.2.2.2.2.1,
                  (W.get y4 (W.toNat y1) (0, (0, 0, 0, 0, 0, 0), 0)).2.1.2.2.2.2.2, (W.get y4 (W.toNat y1) (0, (0, 0, 0, 0, 0, 0), 0)).2.2, ())
                fun z =>
                br (W.not (W.pick y (W.pick (W.eq (W.get y4 (W.toNat y1) (0, (0, 0, 0, 0, 0, 0), 0)).1 0) true z.1) false)) (k (false, z.2.1, z.2.2.1, z.2.2.2.1, ()))
                  (P_state_every_4_2_0 F_state_right E_state_every_6 fl n R y0 (W.wrap IntKind.i64 (W.add y1 1)) z.2.1 z.2.2.1
                    z.2.2.2.1 k))
              (br y
                (br (W.eq (W.get y4 (W.toNat y1) (0, (0, 0, 0, 0, 0, 0), 0)).1 0)
                  (P_state_every_4_2_0 F_state_right E_state_every_6 fl n R y0 (W.wrap IntKind.i64 (W.add y1 1)) y2 y3 y4 k)
                  none)
                (k (false, y2, y3, y4, ()))))
          none)
        (k (true, y2, y3, y4, ())) := by kernel_rfl
noncomputable def N_state_every_4 (F_state_right : FT ps_state_right qs_state_right) (E_state_every_6 : TE_state_every_6) (fl : Nat) : TE_state_every_4 := fun R x k => match x with
  | (y0, y1, y2, y3, y4, ()) => 
      P_state_every_4_2_0 F_state_right E_state_every_6 fl fl R y1 y0 y2 y3 y4 k
theorem Q_state_every_4 {F_state_right : FT ps_state_right qs_state_right} {E_state_every_6 : TE_state_every_6} (fl : Nat) (R : Type) (x : IT_state_every_4) (k : OT_state_every_4 → Option R) : execFn (Cw Try.prog [(28, mkS ps_state_right qs_state_right F_state_right)] noH) fl (callE (Cw Try.prog [(28, mkS ps_state_right qs_state_right F_state_right)] noH) [(26, mkE pa_state_every_6 ph_state_every_6 pr_state_every_6 pz_state_every_6 E_state_every_6)] fl 11) 26 (encE1 pa_state_every_4 ph_state_every_4 x) (encE2 pa_state_every_4 ph_state_every_4 x) (getE ph_state_every_4.length pr_state_every_4 pz_state_every_4 k) = N_state_every_4 F_state_right E_state_every_6 fl R x k := by
  obtain ⟨y0, y1, y2, y3, y4, ⟨⟩⟩ := x; kernel_rfl
theorem S_state_every_4 {F_state_right : FT ps_state_right qs_state_right} {E_state_every_6 : TE_state_every_6} (h_state_right : SpecOk Try.prog 28 (mkS ps_state_right qs_state_right F_state_right)) (h_state_every_6 : ESpOk Try.prog 26 (mkE pa_state_every_6 ph_state_every_6 pr_state_every_6 pz_state_every_6 E_state_every_6)) : ESpOk Try.prog 26 (mkE pa_state_every_4 ph_state_every_4 pr_state_every_4 pz_state_every_4 (N_state_every_4 F_state_right E_state_every_6 W.big)) :=
  espOk_mk (fl := W.big) (d := 11) (cfgOk_cons base h_state_right) (esOk_cons esOk_nil h_state_every_6) (fun R x k => Q_state_every_4 W.big R x k)
noncomputable def E_state_every_4 : TE_state_every_4 := N_state_every_4 F_state_right E_state_every_6 W.big
theorem okE_state_every_4 : ESpOk Try.prog 26 (mkE pa_state_every_4 ph_state_every_4 pr_state_every_4 pz_state_every_4 E_state_every_4) := S_state_every_4 ok_state_right okE_state_every_6
abbrev ps_state_Check : List PT := [.agg ((.prod (.slice ((.prod (.int .i64) (.prod ((.prod (.int .u64) (.prod (.int .u64) (.prod (.int .i64) (.prod (.int .i64) ((.prod (.int .u64) (.int .u64)))))))) (.int .i64))))) (.prod (.slice (.bool)) (.slice ((.prod (.int .i64) (.prod ((.prod (.int .u64) (.prod (.int .u64) (.prod (.int .i64) (.prod (.int .i64) ((.prod (.int .u64) (.int .u64)))))))) (.int .i64))))))))]
abbrev qs_state_Check : List PT := [.one (.bool)]
noncomputable def N_state_Check (F_state_right : FT ps_state_right qs_state_right) (E_state_every_1 : TE_state_every_1) (E_state_every_4 : TE_state_every_4)  : FT ps_state_Check qs_state_Check := fun R x k => match x with
  | (x0Regs, x0Set, x0Saved) => 
      br (W.pick (W.pick (W.ne (W.ofNat (W.len x0Regs)) 11) true (W.ne (W.ofNat (W.len x0Set)) 512)) true (W.ne (W.ofNat (W.len x0Saved)) 64)) (k false)
        (E_state_every_1 R (0, 11, x0Regs, x0Set, x0Saved, ()) fun z => br z.1 (E_state_every_4 R (0, 64, z.2.1, z.2.2.1, z.2.2.2.1, ()) fun z => k (W.pick true z.1 false)) (k false))
theorem S_state_Check {F_state_right : FT ps_state_right qs_state_right} {E_state_every_1 : TE_state_every_1} {E_state_every_4 : TE_state_every_4} (h_state_right : SpecOk Try.prog 28 (mkS ps_state_right qs_state_right F_state_right)) (h_state_every_1 : ESpOk Try.prog 26 (mkE pa_state_every_1 ph_state_every_1 pr_state_every_1 pz_state_every_1 E_state_every_1)) (h_state_every_4 : ESpOk Try.prog 26 (mkE pa_state_every_4 ph_state_every_4 pr_state_every_4 pz_state_every_4 E_state_every_4)) : SpecOk Try.prog 8 (mkS ps_state_Check qs_state_Check (N_state_Check F_state_right E_state_every_1 E_state_every_4)) :=
  specOkE_mk (fl := 10) (d := 12) (cfgOk_cons base h_state_right) (esOk_cons (esOk_cons esOk_nil h_state_every_4) h_state_every_1) (by rintro R ⟨x0Regs, x0Set, x0Saved⟩ k; kernel_rfl)
noncomputable def F_state_Check : FT ps_state_Check qs_state_Check := N_state_Check F_state_right E_state_every_1 E_state_every_4 
theorem ok_state_Check : SpecOk Try.prog 8 (mkS ps_state_Check qs_state_Check F_state_Check) := S_state_Check ok_state_right okE_state_every_1 okE_state_every_4
abbrev ps_clevisref07Check : List PT := [.agg ((.prod (.int .u64) (.int .u64)))]
abbrev qs_clevisref07Check : List PT := [.one (.bool)]
noncomputable def N_clevisref07Check   : FT ps_clevisref07Check qs_clevisref07Check := fun R x k => match x with
  | (x0Value, x0Mask) => 
      k (W.eq (W.wrap IntKind.u64 (W.and IntKind.u64 x0Value x0Mask)) 0)
theorem S_clevisref07Check   : SpecOk Try.prog 50 (mkS ps_clevisref07Check qs_clevisref07Check (N_clevisref07Check )) :=
  specOk_mk (fl := 10) (d := 12) base (by rintro R ⟨x0Value, x0Mask⟩ k; kernel_rfl)
noncomputable def F_clevisref07Check : FT ps_clevisref07Check qs_clevisref07Check := N_clevisref07Check  
theorem ok_clevisref07Check : SpecOk Try.prog 50 (mkS ps_clevisref07Check qs_clevisref07Check F_clevisref07Check) := S_clevisref07Check 
abbrev ps_clevisref08Check : List PT := [.agg ((.prod (.int .u64) (.prod (.int .u64) (.prod (.int .i64) (.prod (.int .i64) ((.prod (.int .u64) (.int .u64))))))))]
abbrev qs_clevisref08Check : List PT := [.one (.bool)]
noncomputable def N_clevisref08Check (F_clevisref07Check : FT ps_clevisref07Check qs_clevisref07Check)  : FT ps_clevisref08Check qs_clevisref08Check := fun R x k => match x with
  | (x0Umin, x0Umax, x0Smin, x0Smax, (x0Bits_Value, x0Bits_Mask)) => 
      br (W.pick (W.le x0Umin x0Umax) (W.le x0Smin x0Smax) false) (F_clevisref07Check R (x0Bits_Value, x0Bits_Mask) fun y => k (W.pick true y false)) (k false)
theorem S_clevisref08Check {F_clevisref07Check : FT ps_clevisref07Check qs_clevisref07Check} (h_clevisref07Check : SpecOk Try.prog 50 (mkS ps_clevisref07Check qs_clevisref07Check F_clevisref07Check)) : SpecOk Try.prog 30 (mkS ps_clevisref08Check qs_clevisref08Check (N_clevisref08Check F_clevisref07Check)) :=
  specOk_mk (fl := 10) (d := 12) (cfgOk_cons base h_clevisref07Check) (by rintro R ⟨x0Umin, x0Umax, x0Smin, x0Smax, ⟨x0Bits_Value, x0Bits_Mask⟩⟩ k; kernel_rfl)
noncomputable def F_clevisref08Check : FT ps_clevisref08Check qs_clevisref08Check := N_clevisref08Check F_clevisref07Check 
theorem ok_clevisref08Check : SpecOk Try.prog 30 (mkS ps_clevisref08Check qs_clevisref08Check F_clevisref08Check) := S_clevisref08Check ok_clevisref07Check
abbrev ps_clevisref11Right : List PT := [.agg ((.prod (.int .i64) (.prod ((.prod (.int .u64) (.prod (.int .u64) (.prod (.int .i64) (.prod (.int .i64) ((.prod (.int .u64) (.int .u64)))))))) (.int .i64))))]
abbrev qs_clevisref11Right : List PT := [.one (.bool)]
noncomputable def N_clevisref11Right (F_clevisref08Check : FT ps_clevisref08Check qs_clevisref08Check)  : FT ps_clevisref11Right qs_clevisref11Right := fun R x k => match x with
  | (x0Kind, (x0Num_Umin, x0Num_Umax, x0Num_Smin, x0Num_Smax, (x0Num_Bits_Value, x0Num_Bits_Mask)), x0Region) => 
      br (W.eq x0Kind 0)
        (k
          (W.and2 (W.eq x0Kind 0)
            (W.and2 (W.eq x0Num_Umin 0)
              (W.and2 (W.eq x0Num_Umax 0)
                (W.and2 (W.eq x0Num_Smin 0) (W.and2 (W.eq x0Num_Smax 0) (W.and2 (W.eq x0Num_Bits_Value 0) (W.and2 (W.eq x0Num_Bits_Mask 0) (W.and2 (W.eq x0Region 0) true)))))))))
        (br (W.eq x0Kind 1) (F_clevisref08Check R (x0Num_Umin, x0Num_Umax, x0Num_Smin, x0Num_Smax, x0Num_Bits_Value, x0Num_Bits_Mask) fun y => k (W.pick y (W.eq x0Region 0) false))
          (br (W.eq x0Kind 2)
            (F_clevisref08Check R (x0Num_Umin, x0Num_Umax, x0Num_Smin, x0Num_Smax, x0Num_Bits_Value, x0Num_Bits_Mask) fun y =>
              k (W.pick (W.pick y (W.ge x0Region 1) false) (W.le x0Region 10) false))
            (k false)))
theorem S_clevisref11Right {F_clevisref08Check : FT ps_clevisref08Check qs_clevisref08Check} (h_clevisref08Check : SpecOk Try.prog 30 (mkS ps_clevisref08Check qs_clevisref08Check F_clevisref08Check)) : SpecOk Try.prog 9 (mkS ps_clevisref11Right qs_clevisref11Right (N_clevisref11Right F_clevisref08Check)) :=
  specOk_mk (fl := 10) (d := 12) (cfgOk_cons base h_clevisref08Check) (by rintro R ⟨x0Kind, ⟨x0Num_Umin, x0Num_Umax, x0Num_Smin, x0Num_Smax, ⟨x0Num_Bits_Value, x0Num_Bits_Mask⟩⟩, x0Region⟩ k; kernel_rfl)
noncomputable def F_clevisref11Right : FT ps_clevisref11Right qs_clevisref11Right := N_clevisref11Right F_clevisref08Check 
theorem ok_clevisref11Right : SpecOk Try.prog 9 (mkS ps_clevisref11Right qs_clevisref11Right F_clevisref11Right) := S_clevisref11Right ok_clevisref08Check
abbrev ps_state_places : List PT := [.agg ((.prod (.slice ((.prod (.int .i64) (.prod ((.prod (.int .u64) (.prod (.int .u64) (.prod (.int .i64) (.prod (.int .i64) ((.prod (.int .u64) (.int .u64)))))))) (.int .i64))))) (.prod (.slice (.bool)) (.slice ((.prod (.int .i64) (.prod ((.prod (.int .u64) (.prod (.int .u64) (.prod (.int .i64) (.prod (.int .i64) ((.prod (.int .u64) (.int .u64)))))))) (.int .i64)))))))), .one (.int .i64), .one (.int .i64), .one (.int .i64)]
abbrev qs_state_places : List PT := [.one (.bool)]
noncomputable def N_state_places (F_state_Check : FT ps_state_Check qs_state_Check)  : FT ps_state_places qs_state_places := fun R x k => match x with
  | ((x0Regs, x0Set, x0Saved), x1, x2, x3) => 
      br (W.pick (W.pick (W.pick (W.pick (W.ge x1 0) (W.le x1 x2) false) (W.ge x3 1) false) (W.le x3 512) false) (W.le x2 (W.wrap IntKind.i64 (W.sub 512 x3))) false)
        (F_state_Check R (x0Regs, x0Set, x0Saved) fun y => k (W.pick true y false)) (k false)
theorem S_state_places {F_state_Check : FT ps_state_Check qs_state_Check} (h_state_Check : SpecOk Try.prog 8 (mkS ps_state_Check qs_state_Check F_state_Check)) : SpecOk Try.prog 34 (mkS ps_state_places qs_state_places (N_state_places F_state_Check)) :=
  specOk_mk (fl := 10) (d := 12) (cfgOk_cons base h_state_Check) (by rintro R ⟨⟨x0Regs, x0Set, x0Saved⟩, x1, x2, x3⟩ k; kernel_rfl)
noncomputable def F_state_places : FT ps_state_places qs_state_places := N_state_places F_state_Check 
theorem ok_state_places : SpecOk Try.prog 34 (mkS ps_state_places qs_state_places F_state_places) := S_state_places ok_state_Check
abbrev ps_state_exact : List PT := [.one (.int .i64), .one (.int .i64), .one (.int .i64)]
abbrev qs_state_exact : List PT := [.one (.bool)]
noncomputable def N_state_exact   : FT ps_state_exact qs_state_exact := fun R x k => match x with
  | (x0, x1, x2) => 
      br (W.or2 (W.not (W.pick (W.eq x0 x1) (W.eq x2 8) false)) true) (k (W.pick (W.pick (W.eq x0 x1) (W.eq x2 8) false) (W.eq (W.rem x0 8) 0) false)) none
theorem S_state_exact   : SpecOk Try.prog 35 (mkS ps_state_exact qs_state_exact (N_state_exact )) :=
  specOk_mk (fl := 10) (d := 12) base (by rintro R ⟨x0, x1, x2⟩ k; kernel_rfl)
noncomputable def F_state_exact : FT ps_state_exact qs_state_exact := N_state_exact  
theorem ok_state_exact : SpecOk Try.prog 35 (mkS ps_state_exact qs_state_exact F_state_exact) := S_state_exact 
abbrev ps_state_Store : List PT := [.agg ((.prod (.slice ((.prod (.int .i64) (.prod ((.prod (.int .u64) (.prod (.int .u64) (.prod (.int .i64) (.prod (.int .i64) ((.prod (.int .u64) (.int .u64)))))))) (.int .i64))))) (.prod (.slice (.bool)) (.slice ((.prod (.int .i64) (.prod ((.prod (.int .u64) (.prod (.int .u64) (.prod (.int .i64) (.prod (.int .i64) ((.prod (.int .u64) (.int .u64)))))))) (.int .i64)))))))), .one (.int .i64), .one (.int .i64), .one (.int .i64), .agg ((.prod (.int .i64) (.prod ((.prod (.int .u64) (.prod (.int .u64) (.prod (.int .i64) (.prod (.int .i64) ((.prod (.int .u64) (.int .u64)))))))) (.int .i64))))]
abbrev qs_state_Store : List PT := [.agg ((.prod (.slice ((.prod (.int .i64) (.prod ((.prod (.int .u64) (.prod (.int .u64) (.prod (.int .i64) (.prod (.int .i64) ((.prod (.int .u64) (.int .u64)))))))) (.int .i64))))) (.prod (.slice (.bool)) (.slice ((.prod (.int .i64) (.prod ((.prod (.int .u64) (.prod (.int .u64) (.prod (.int .i64) (.prod (.int .i64) ((.prod (.int .u64) (.int .u64)))))))) (.int .i64))))))))]
noncomputable def PL_state_Store_5_0 (F_state_right : FT ps_state_right qs_state_right) (F_state_places : FT ps_state_places qs_state_places) (F_state_exact : FT ps_state_exact qs_state_exact) (fl : Nat)  (R : Type) (k : PTs.D qs_state_Store → Option R) : LoopI R :=
  locate (Cw Try.prog [(28, mkS ps_state_right qs_state_right F_state_right), (34, mkS ps_state_places qs_state_places F_state_places), (35, mkS ps_state_exact qs_state_exact F_state_exact)] noH) fl (call (Cw Try.prog [(28, mkS ps_state_right qs_state_right F_state_right), (34, mkS ps_state_places qs_state_places F_state_places), (35, mkS ps_state_exact qs_state_exact F_state_exact)] noH) fl 11) 0 11 5 [] (getR qs_state_Store k)
noncomputable def P_state_Store_5_0 (F_state_right : FT ps_state_right qs_state_right) (F_state_places : FT ps_state_places qs_state_places) (F_state_exact : FT ps_state_exact qs_state_exact) (fl : Nat)  (n : Nat) (R : Type) (y0 : Int) (y1 : Int) (y2 : Int) (y3 : Int) (y4 : Int) (y5 : Int) (y6 : Int) (y7 : Int) (y8 : Int) (y9 : Int) (y10 : Int) (y11 : Int) (y12 : Nat) (y13 : Nat) (y14 : Nat) (y15 : List (Int × (Int × Int × Int × Int × Int × Int) × Int)) (y16 : List Bool) (y17 : List (Int × (Int × Int × Int × Int × Int × Int) × Int)) (k : PTs.D qs_state_Store → Option R) : Option R :=
  loopH (PL_state_Store_5_0 F_state_right F_state_places F_state_exact fl  R k).body (PL_state_Store_5_0 F_state_right F_state_places F_state_exact fl  R k).head n (some (
      S.mk
        [V.any, V.int IntKind.i64 y0, V.int IntKind.i64 y1, V.int IntKind.i64 y2, V.any, V.any, V.any, V.any, V.any, V.ptr 0 0, V.ptr 1 0, V.ptr 2 0, V.int IntKind.i64 y3, V.any, V.any, V.any, V.any, V.any,
          V.any, V.any, V.any, V.any, V.any, V.any, V.any, V.any, V.any, V.any, V.any, V.any, V.any, V.any, V.any, V.any, V.any, V.any, V.any, V.any, V.any, V.any, V.any, V.any, V.any, V.any, V.any, V.any,
          V.any, V.any, V.any, V.any, V.any, V.any, V.any, V.any, V.any, V.any, V.any, V.any, V.any, V.any, V.any, V.any, V.any, V.any, V.any, V.any, V.any, V.any, V.any]
        []
        [Blk.cells [V.int IntKind.i64 y4, V.int IntKind.u64 y5, V.int IntKind.u64 y6, V.int IntKind.i64 y7, V.int IntKind.i64 y8, V.int IntKind.u64 y9, V.int IntKind.u64 y10, V.int IntKind.i64 y11],
          Blk.cells [V.nsl, V.nsl, V.nsl], Blk.cells [V.sl 3 8 y12, V.sl 4 1 y13, V.sl 5 8 y14],
          Blk.row
            (Ty.prod (Ty.int IntKind.i64)
              (Ty.prod (Ty.prod (Ty.int IntKind.u64) (Ty.prod (Ty.int IntKind.u64) (Ty.prod (Ty.int IntKind.i64) (Ty.prod (Ty.int IntKind.i64) (Ty.prod (Ty.int IntKind.u64) (Ty.int IntKind.u64))))))
                (Ty.int IntKind.i64)))
            y15,
          Blk.row Ty.bool y16,
          Blk.row
            (Ty.prod (Ty.int IntKind.i64)
              (Ty.prod (Ty.prod (Ty.int IntKind.u64) (Ty.prod (Ty.int IntKind.u64) (Ty.prod (Ty.int IntKind.i64) (Ty.prod (Ty.int IntKind.i64) (Ty.prod (Ty.int IntKind.u64) (Ty.int IntKind.u64))))))
                (Ty.int IntKind.i64)))
            y17])) (PL_state_Store_5_0 F_state_right F_state_places F_state_exact fl  R k).kont
noncomputable def PL_state_Store_10_0 (F_state_right : FT ps_state_right qs_state_right) (F_state_places : FT ps_state_places qs_state_places) (F_state_exact : FT ps_state_exact qs_state_exact) (fl : Nat)  (R : Type) (k : PTs.D qs_state_Store → Option R) : LoopI R :=
  locate (Cw Try.prog [(28, mkS ps_state_right qs_state_right F_state_right), (34, mkS ps_state_places qs_state_places F_state_places), (35, mkS ps_state_exact qs_state_exact F_state_exact)] noH) fl (call (Cw Try.prog [(28, mkS ps_state_right qs_state_right F_state_right), (34, mkS ps_state_places qs_state_places F_state_places), (35, mkS ps_state_exact qs_state_exact F_state_exact)] noH) fl 11) 0 11 10 [] (getR qs_state_Store k)
noncomputable def P_state_Store_10_0 (F_state_right : FT ps_state_right qs_state_right) (F_state_places : FT ps_state_places qs_state_places) (F_state_exact : FT ps_state_exact qs_state_exact) (fl : Nat)  (n : Nat) (R : Type) (y0 : Int) (y1 : Int) (y2 : Int) (y3 : Int) (y4 : Int) (y5 : Int) (y6 : Int) (y7 : Int) (y8 : Int) (y9 : Int) (y10 : Int) (y11 : Int) (y12 : Int) (y13 : Nat) (y14 : Nat) (y15 : Nat) (y16 : List (Int × (Int × Int × Int × Int × Int × Int) × Int)) (y17 : List Bool) (y18 : List (Int × (Int × Int × Int × Int × Int × Int) × Int)) (k : PTs.D qs_state_Store → Option R) : Option R :=
  loopH (PL_state_Store_10_0 F_state_right F_state_places F_state_exact fl  R k).body (PL_state_Store_10_0 F_state_right F_state_places F_state_exact fl  R k).head n (some (
      S.mk
        [V.any, V.int IntKind.i64 y0, V.int IntKind.i64 y1, V.int IntKind.i64 y2, V.any, V.any, V.any, V.any, V.any, V.ptr 0 0, V.ptr 1 0, V.ptr 2 0, V.any, V.any, V.any, V.any, V.any, V.any, V.any, V.any,
          V.any, V.any, V.any, V.any, V.any, V.any, V.any, V.any, V.any, V.any, V.any, V.any, V.any, V.any, V.any, V.any, V.any, V.any, V.any, V.any, V.any, V.any, V.any, V.any, V.any, V.any, V.any,
          V.int IntKind.i64 y3, V.int IntKind.i64 y4, V.any, V.any, V.any, V.any, V.any, V.any, V.any, V.any, V.any, V.any, V.any, V.any, V.any, V.any, V.any, V.any, V.any, V.any, V.any, V.any]
        []
        [Blk.cells [V.int IntKind.i64 y5, V.int IntKind.u64 y6, V.int IntKind.u64 y7, V.int IntKind.i64 y8, V.int IntKind.i64 y9, V.int IntKind.u64 y10, V.int IntKind.u64 y11, V.int IntKind.i64 y12],
          Blk.cells [V.nsl, V.nsl, V.nsl], Blk.cells [V.sl 3 8 y13, V.sl 4 1 y14, V.sl 5 8 y15],
          Blk.row
            (Ty.prod (Ty.int IntKind.i64)
              (Ty.prod (Ty.prod (Ty.int IntKind.u64) (Ty.prod (Ty.int IntKind.u64) (Ty.prod (Ty.int IntKind.i64) (Ty.prod (Ty.int IntKind.i64) (Ty.prod (Ty.int IntKind.u64) (Ty.int IntKind.u64))))))
                (Ty.int IntKind.i64)))
            y16,
          Blk.row Ty.bool y17,
          Blk.row
            (Ty.prod (Ty.int IntKind.i64)
              (Ty.prod (Ty.prod (Ty.int IntKind.u64) (Ty.prod (Ty.int IntKind.u64) (Ty.prod (Ty.int IntKind.i64) (Ty.prod (Ty.int IntKind.i64) (Ty.prod (Ty.int IntKind.u64) (Ty.int IntKind.u64))))))
                (Ty.int IntKind.i64)))
            y18])) (PL_state_Store_10_0 F_state_right F_state_places F_state_exact fl  R k).kont
theorem P_state_Store_5_0_s {F_state_right : FT ps_state_right qs_state_right} {F_state_places : FT ps_state_places qs_state_places} {F_state_exact : FT ps_state_exact qs_state_exact} (fl : Nat)  (n : Nat) (R : Type) (y0 : Int) (y1 : Int) (y2 : Int) (y3 : Int) (y4 : Int) (y5 : Int) (y6 : Int) (y7 : Int) (y8 : Int) (y9 : Int) (y10 : Int) (y11 : Int) (y12 : Nat) (y13 : Nat) (y14 : Nat) (y15 : List (Int × (Int × Int × Int × Int × Int × Int) × Int)) (y16 : List Bool) (y17 : List (Int × (Int × Int × Int × Int × Int × Int) × Int)) (k : PTs.D qs_state_Store → Option R) : P_state_Store_5_0 F_state_right F_state_places F_state_exact fl  (n + 1) R y0 y1 y2 y3 y4 y5 y6 y7 y8 y9 y10 y11 y12 y13 y14 y15 y16 y17 k =
      br (W.le y3 (W.wrap IntKind.i64 (W.quo (W.wrap IntKind.i64 (W.sub (W.wrap IntKind.i64 (W.add y1 y2)) 1)) 8)))
        (br (W.and2 (W.le 0 y3) (W.lt y3 (W.ofNat y14)))
          (P_state_Store_5_0 F_state_right F_state_places F_state_exact fl n R y0 y1 y2 (W.wrap IntKind.i64 (W.add y3 1)) y4 y5 y6 y7 y8 y9 y10 y11 y12 y13 y14 y15 y16
            (W.set y17 (W.toNat y3) (0, (0, 0, 0, 0, 0, 0), 0)) k)
          none)
        (br (W.eq y0 y1) (P_state_Store_10_0 F_state_right F_state_places F_state_exact fl fl R y0 y1 y2 y2 0 y4 y5 y6 y7 y8 y9 y10 y11 y12 y13 y14 y15 y16 y17 k)
          (F_state_exact R (y0, y1, y2) fun y =>
            br y
              (br (W.and2 (W.le 0 (W.wrap IntKind.i64 (W.quo y0 8))) (W.lt (W.wrap IntKind.i64 (W.quo y0 8)) (W.ofNat y14)))
                (k (y15, y16, W.set y17 (W.toNat (W.wrap IntKind.i64 (W.quo y0 8))) (y4, (y5, y6, y7, y8, y9, y10), y11))) none)
              (k (y15, y16, y17)))) := by kernel_rfl
theorem P_state_Store_10_0_s {F_state_right : FT ps_state_right qs_state_right} {F_state_places : FT ps_state_places qs_state_places} {F_state_exact : FT ps_state_exact qs_state_exact} (fl : Nat)  (n : Nat) (R : Type) (y0 : Int) (y1 : Int) (y2 : Int) (y3 : Int) (y4 : Int) (y5 : Int) (y6 : Int) (y7 : Int) (y8 : Int) (y9 : Int) (y10 : Int) (y11 : Int) (y12 : Int) (y13 : Nat) (y14 : Nat) (y15 : Nat) (y16 : List (Int × (Int × Int × Int × Int × Int × Int) × Int)) (y17 : List Bool) (y18 : List (Int × (Int × Int × Int × Int × Int × Int) × Int)) (k : PTs.D qs_state_Store → Option R) : P_state_Store_10_0 F_state_right F_state_places F_state_exact fl  (n + 1) R y0 y1 y2 y3 y4 y5 y6 y7 y8 y9 y10 y11 y12 y13 y14 y15 y16 y17 y18 k =
      br (W.lt y4 y3)
        (br (W.and2 (W.le 0 (W.wrap IntKind.i64 (W.add y0 y4))) (W.lt (W.wrap IntKind.i64 (W.add y0 y4)) (W.ofNat y14)))
          (P_state_Store_10_0 F_state_right F_state_places F_state_exact fl n R y0 y1 y2 y3 (W.wrap IntKind.i64 (W.add y4 1)) y5 y6 y7 y8 y9 y10 y11 y12 y13 y14 y15 y16
            (W.set y17 (W.toNat (W.wrap IntKind.i64 (W.add y0 y4))) true) y18 k)
          none)
        (F_state_exact R (y0, y1, y2) fun y =>
          br y
            (br (W.and2 (W.le 0 (W.wrap IntKind.i64 (W.quo y0 8))) (W.lt (W.wrap IntKind.i64 (W.quo y0 8)) (W.ofNat y15)))
              (k (y16, y17, W.set y18 (W.toNat (W.wrap IntKind.i64 (W.quo y0 8))) (y5, (y6, y7, y8, y9, y10, y11), y12))) none)
            (k (y16, y17, y18))) := by kernel_rfl
noncomputable def N_state_Store (F_state_right : FT ps_state_right qs_state_right) (F_state_places : FT ps_state_places qs_state_places) (F_state_exact : FT ps_state_exact qs_state_exact) (fl : Nat) : FT ps_state_Store qs_state_Store := fun R x k => match x with
  | ((x0Regs, x0Set, x0Saved), x1, x2, x3, (x4Kind, (x4Num_Umin, x4Num_Umax, x4Num_Smin, x4Num_Smax, (x4Num_Bits_Value, x4Num_Bits_Mask)), x4Region)) => 
      br (W.and2 (W.le 0 (W.ofNat (W.len x0Regs))) (W.le (W.mul (W.ofNat 64) (W.ofNat (W.len x0Regs))) 281474976710656))
        (br (W.and2 (W.le 0 (W.ofNat (W.len x0Set))) (W.le (W.mul (W.ofNat 1) (W.ofNat (W.len x0Set))) 281474976710656))
          (br (W.and2 (W.le 0 (W.ofNat (W.len x0Saved))) (W.le (W.mul (W.ofNat 64) (W.ofNat (W.len x0Saved))) 281474976710656))
            (F_state_places R ((x0Regs, x0Set, x0Saved), x1, x2, x3) fun y =>
              br (W.not (W.not y))
                (F_state_right R (x4Kind, (x4Num_Umin, x4Num_Umax, x4Num_Smin, x4Num_Smax, x4Num_Bits_Value, x4Num_Bits_Mask), x4Region) fun y =>
                  br (W.pick false true (W.not y))
                    (k
                      (W.over (W.rep (W.toNat (W.ofNat (W.len x0Regs))) (0, (0, 0, 0, 0, 0, 0), 0)) 0 (W.slice x0Regs 0 (W.minN (W.len x0Regs) (W.toNat (W.ofNat (W.len x0Regs))))),
                        W.over (W.rep (W.toNat (W.ofNat (W.len x0Set))) false) 0 (W.slice x0Set 0 (W.minN (W.len x0Set) (W.toNat (W.ofNat (W.len x0Set))))),
                        W.over (W.rep (W.toNat (W.ofNat (W.len x0Saved))) (0, (0, 0, 0, 0, 0, 0), 0)) 0 (W.slice x0Saved 0 (W.minN (W.len x0Saved) (W.toNat (W.ofNat (W.len x0Saved)))))))
                    (P_state_Store_5_0 F_state_right F_state_places F_state_exact fl fl R x1 x2 x3 (W.wrap IntKind.i64 (W.quo x1 8)) x4Kind x4Num_Umin x4Num_Umax x4Num_Smin x4Num_Smax x4Num_Bits_Value
                      x4Num_Bits_Mask x4Region (W.toNat (W.ofNat (W.len x0Regs))) (W.toNat (W.ofNat (W.len x0Set))) (W.toNat (W.ofNat (W.len x0Saved)))
                      (W.over (W.rep (W.toNat (W.ofNat (W.len x0Regs))) (0, (0, 0, 0, 0, 0, 0), 0)) 0 (W.slice x0Regs 0 (W.minN (W.len x0Regs) (W.toNat (W.ofNat (W.len x0Regs))))))
                      (W.over (W.rep (W.toNat (W.ofNat (W.len x0Set))) false) 0 (W.slice x0Set 0 (W.minN (W.len x0Set) (W.toNat (W.ofNat (W.len x0Set))))))
                      (W.over (W.rep (W.toNat (W.ofNat (W.len x0Saved))) (0, (0, 0, 0, 0, 0, 0), 0)) 0 (W.slice x0Saved 0 (W.minN (W.len x0Saved) (W.toNat (W.ofNat (W.len x0Saved)))))) k))
                (k
                  (W.over (W.rep (W.toNat (W.ofNat (W.len x0Regs))) (0, (0, 0, 0, 0, 0, 0), 0)) 0 (W.slice x0Regs 0 (W.minN (W.len x0Regs) (W.toNat (W.ofNat (W.len x0Regs))))),
                    W.over (W.rep (W.toNat (W.ofNat (W.len x0Set))) false) 0 (W.slice x0Set 0 (W.minN (W.len x0Set) (W.toNat (W.ofNat (W.len x0Set))))),
                    W.over (W.rep (W.toNat (W.ofNat (W.len x0Saved))) (0, (0, 0, 0, 0, 0, 0), 0)) 0 (W.slice x0Saved 0 (W.minN (W.len x0Saved) (W.toNat (W.ofNat (W.len x0Saved))))))))
            none)
          none)
        none
theorem Q_state_Store {F_state_right : FT ps_state_right qs_state_right} {F_state_places : FT ps_state_places qs_state_places} {F_state_exact : FT ps_state_exact qs_state_exact} (fl : Nat) (R : Type) (x : PTs.D ps_state_Store) (k : PTs.D qs_state_Store → Option R) : call (Cw Try.prog [(28, mkS ps_state_right qs_state_right F_state_right), (34, mkS ps_state_places qs_state_places F_state_places), (35, mkS ps_state_exact qs_state_exact F_state_exact)] noH) fl 12 11 (encL true ps_state_Store x) [] (getR qs_state_Store k) = N_state_Store F_state_right F_state_places F_state_exact fl R x k := by
  obtain ⟨⟨x0Regs, x0Set, x0Saved⟩, x1, x2, x3, ⟨x4Kind, ⟨x4Num_Umin, x4Num_Umax, x4Num_Smin, x4Num_Smax, ⟨x4Num_Bits_Value, x4Num_Bits_Mask⟩⟩, x4Region⟩⟩ := x; kernel_rfl
theorem S_state_Store {F_state_right : FT ps_state_right qs_state_right} {F_state_places : FT ps_state_places qs_state_places} {F_state_exact : FT ps_state_exact qs_state_exact} (h_state_right : SpecOk Try.prog 28 (mkS ps_state_right qs_state_right F_state_right)) (h_state_places : SpecOk Try.prog 34 (mkS ps_state_places qs_state_places F_state_places)) (h_state_exact : SpecOk Try.prog 35 (mkS ps_state_exact qs_state_exact F_state_exact)) : SpecOk Try.prog 11 (mkS ps_state_Store qs_state_Store (N_state_Store F_state_right F_state_places F_state_exact W.big)) :=
  specOk_mk (fl := W.big) (d := 12) (cfgOk_cons (cfgOk_cons (cfgOk_cons base h_state_exact) h_state_places) h_state_right) (fun R x k => Q_state_Store W.big R x k)
noncomputable def F_state_Store : FT ps_state_Store qs_state_Store := N_state_Store F_state_right F_state_places F_state_exact W.big
theorem ok_state_Store : SpecOk Try.prog 11 (mkS ps_state_Store qs_state_Store F_state_Store) := S_state_Store ok_state_right ok_state_places ok_state_exact
abbrev pa_state_every_2 : List PV := [(.int .i64), (.int .i64), (.fn 47 [(.ptr 0 0)])]
abbrev ph_state_every_2 : List PB := [(.cells [(.ro true (.prod (.int .i64) (.prod (.prod (.int .u64) (.prod (.int .u64) (.prod (.int .i64) (.prod (.int .i64) (.prod (.int .u64) (.int .u64)))))) (.int .i64)))), (.ro true .bool), (.ro true (.prod (.int .i64) (.prod (.prod (.int .u64) (.prod (.int .u64) (.prod (.int .i64) (.prod (.int .i64) (.prod (.int .u64) (.int .u64)))))) (.int .i64))))])]
abbrev pr_state_every_2 : PV := .bool
abbrev pz_state_every_2 : List PB := [(.cells [(.ro true (.prod (.int .i64) (.prod (.prod (.int .u64) (.prod (.int .u64) (.prod (.int .i64) (.prod (.int .i64) (.prod (.int .u64) (.int .u64)))))) (.int .i64)))), (.ro true .bool), (.ro true (.prod (.int .i64) (.prod (.prod (.int .u64) (.prod (.int .u64) (.prod (.int .i64) (.prod (.int .i64) (.prod (.int .u64) (.int .u64)))))) (.int .i64))))])]
abbrev IT_state_every_2 : Type := (Int) × (Int) × (List (Int × ((Int × (Int × (Int × (Int × (Int × Int))))) × Int))) × (List Bool) × (List (Int × ((Int × (Int × (Int × (Int × (Int × Int))))) × Int))) × Unit
abbrev OT_state_every_2 : Type := (Bool) × (List (Int × ((Int × (Int × (Int × (Int × (Int × Int))))) × Int))) × (List Bool) × (List (Int × ((Int × (Int × (Int × (Int × (Int × Int))))) × Int))) × Unit
abbrev TE_state_every_2 : Type 1 := (R : Type) → IT_state_every_2 → (OT_state_every_2 → Option R) → Option R
noncomputable def PL_state_every_2_2_0  (fl : Nat)  (R : Type) (k : OT_state_every_2 → Option R) : LoopI R :=
  locate (Cw Try.prog [] noH) fl (callE (Cw Try.prog [] noH) [] fl 11) 1 26 2 [] (getE ph_state_every_2.length pr_state_every_2 pz_state_every_2 k)
noncomputable def P_state_every_2_2_0  (fl : Nat)  (n : Nat) (R : Type) (y0 : Int) (y1 : Int) (y2 : List (Int × (Int × Int × Int × Int × Int × Int) × Int)) (y3 : List Bool) (y4 : List (Int × (Int × Int × Int × Int × Int × Int) × Int)) (k : OT_state_every_2 → Option R) : Option R :=
  loopH (PL_state_every_2_2_0  fl  R k).body (PL_state_every_2_2_0  fl  R k).head n (some (
      S.mk [V.any, V.int IntKind.i64 y0, V.fn 47 [V.ptr 0 0], V.any, V.any, V.any, V.any, V.int IntKind.i64 y1, V.any, V.any, V.any, V.any, V.any, V.any, V.any, V.any, V.any, V.any] []
        [Blk.cells
            [V.ro true
                (Ty.prod (Ty.int IntKind.i64)
                  (Ty.prod (Ty.prod (Ty.int IntKind.u64) (Ty.prod (Ty.int IntKind.u64) (Ty.prod (Ty.int IntKind.i64) (Ty.prod (Ty.int IntKind.i64) (Ty.prod (Ty.int IntKind.u64) (Ty.int IntKind.u64))))))
                    (Ty.int IntKind.i64)))
                y2,
              V.ro true Ty.bool y3,
              V.ro true
                (Ty.prod (Ty.int IntKind.i64)
                  (Ty.prod (Ty.prod (Ty.int IntKind.u64) (Ty.prod (Ty.int IntKind.u64) (Ty.prod (Ty.int IntKind.i64) (Ty.prod (Ty.int IntKind.i64) (Ty.prod (Ty.int IntKind.u64) (Ty.int IntKind.u64))))))
                    (Ty.int IntKind.i64)))
                y4]])) (PL_state_every_2_2_0  fl  R k).kont
theorem P_state_every_2_2_0_s  (fl : Nat)  (n : Nat) (R : Type) (y0 : Int) (y1 : Int) (y2 : List (Int × (Int × Int × Int × Int × Int × Int) × Int)) (y3 : List Bool) (y4 : List (Int × (Int × Int × Int × Int × Int × Int) × Int)) (k : OT_state_every_2 → Option R) : P_state_every_2_2_0  fl  (n + 1) R y0 y1 y2 y3 y4 k =
      br (W.lt y1 y0)
        (br (W.and2 (W.le 0 y1) (W.lt y1 (W.ofNat (W.len y3))))
          (br (W.not (W.get y3 (W.toNat y1) false)) (k (false, y2, y3, y4, ()))
            (P_state_every_2_2_0 fl n R y0 (W.wrap IntKind.i64 (W.add y1 1)) y2 y3 y4 k))
          none)
        (k (true, y2, y3, y4, ())) := by kernel_rfl
noncomputable def N_state_every_2  (fl : Nat) : TE_state_every_2 := fun R x k => match x with
  | (y0, y1, y2, y3, y4, ()) => 
      P_state_every_2_2_0 fl fl R y1 y0 y2 y3 y4 k
theorem Q_state_every_2  (fl : Nat) (R : Type) (x : IT_state_every_2) (k : OT_state_every_2 → Option R) : execFn (Cw Try.prog [] noH) fl (callE (Cw Try.prog [] noH) [] fl 11) 26 (encE1 pa_state_every_2 ph_state_every_2 x) (encE2 pa_state_every_2 ph_state_every_2 x) (getE ph_state_every_2.length pr_state_every_2 pz_state_every_2 k) = N_state_every_2  fl R x k := by
  obtain ⟨y0, y1, y2, y3, y4, ⟨⟩⟩ := x; kernel_rfl
theorem S_state_every_2   : ESpOk Try.prog 26 (mkE pa_state_every_2 ph_state_every_2 pr_state_every_2 pz_state_every_2 (N_state_every_2  W.big)) :=
  espOk_mk (fl := W.big) (d := 11) base esOk_nil (fun R x k => Q_state_every_2 W.big R x k)
noncomputable def E_state_every_2 : TE_state_every_2 := N_state_every_2  W.big
theorem okE_state_every_2 : ESpOk Try.prog 26 (mkE pa_state_every_2 ph_state_every_2 pr_state_every_2 pz_state_every_2 E_state_every_2) := S_state_every_2 
abbrev ps_state_Ready : List PT := [.agg ((.prod (.slice ((.prod (.int .i64) (.prod ((.prod (.int .u64) (.prod (.int .u64) (.prod (.int .i64) (.prod (.int .i64) ((.prod (.int .u64) (.int .u64)))))))) (.int .i64))))) (.prod (.slice (.bool)) (.slice ((.prod (.int .i64) (.prod ((.prod (.int .u64) (.prod (.int .u64) (.prod (.int .i64) (.prod (.int .i64) ((.prod (.int .u64) (.int .u64)))))))) (.int .i64)))))))), .one (.int .i64), .one (.int .i64)]
abbrev qs_state_Ready : List PT := [.one (.bool)]
noncomputable def N_state_Ready (F_state_Check : FT ps_state_Check qs_state_Check) (E_state_every_2 : TE_state_every_2)  : FT ps_state_Ready qs_state_Ready := fun R x k => match x with
  | ((x0Regs, x0Set, x0Saved), x1, x2) => 
      br (W.pick (W.pick (W.ge x1 0) (W.le x1 x2) false) (W.le x2 512) false)
        (F_state_Check R (x0Regs, x0Set, x0Saved) fun y => br (W.pick true y false) (E_state_every_2 R (x1, x2, x0Regs, x0Set, x0Saved, ()) fun z => k (W.pick true z.1 false)) (k false))
        (k false)
theorem S_state_Ready {F_state_Check : FT ps_state_Check qs_state_Check} {E_state_every_2 : TE_state_every_2} (h_state_Check : SpecOk Try.prog 8 (mkS ps_state_Check qs_state_Check F_state_Check)) (h_state_every_2 : ESpOk Try.prog 26 (mkE pa_state_every_2 ph_state_every_2 pr_state_every_2 pz_state_every_2 E_state_every_2)) : SpecOk Try.prog 23 (mkS ps_state_Ready qs_state_Ready (N_state_Ready F_state_Check E_state_every_2)) :=
  specOkE_mk (fl := 10) (d := 12) (cfgOk_cons base h_state_Check) (esOk_cons esOk_nil h_state_every_2) (by rintro R ⟨⟨x0Regs, x0Set, x0Saved⟩, x1, x2⟩ k; kernel_rfl)
noncomputable def F_state_Ready : FT ps_state_Ready qs_state_Ready := N_state_Ready F_state_Check E_state_every_2 
theorem ok_state_Ready : SpecOk Try.prog 23 (mkS ps_state_Ready qs_state_Ready F_state_Ready) := S_state_Ready ok_state_Check okE_state_every_2
abbrev ps_tnum_Any : List PT := []
abbrev qs_tnum_Any : List PT := [.agg ((.prod (.int .u64) (.int .u64)))]
noncomputable def N_tnum_Any   : FT ps_tnum_Any qs_tnum_Any := fun R x k => match x with
  | () => 
      k (0, 18446744073709551615)
theorem S_tnum_Any   : SpecOk Try.prog 60 (mkS ps_tnum_Any qs_tnum_Any (N_tnum_Any )) :=
  specOk_mk (fl := 10) (d := 12) base (by intro R x k; kernel_rfl)
noncomputable def F_tnum_Any : FT ps_tnum_Any qs_tnum_Any := N_tnum_Any  
theorem ok_tnum_Any : SpecOk Try.prog 60 (mkS ps_tnum_Any qs_tnum_Any F_tnum_Any) := S_tnum_Any 
abbrev ps_bound_Any : List PT := []
abbrev qs_bound_Any : List PT := [.agg ((.prod (.int .u64) (.prod (.int .u64) (.prod (.int .i64) (.prod (.int .i64) ((.prod (.int .u64) (.int .u64))))))))]
noncomputable def N_bound_Any (F_tnum_Any : FT ps_tnum_Any qs_tnum_Any)  : FT ps_bound_Any qs_bound_Any := fun R x k => match x with
  | () => 
      F_tnum_Any R () fun y => k (0, 18446744073709551615, -9223372036854775808, 9223372036854775807, y.1, y.2)
theorem S_bound_Any {F_tnum_Any : FT ps_tnum_Any qs_tnum_Any} (h_tnum_Any : SpecOk Try.prog 60 (mkS ps_tnum_Any qs_tnum_Any F_tnum_Any)) : SpecOk Try.prog 53 (mkS ps_bound_Any qs_bound_Any (N_bound_Any F_tnum_Any)) :=
  specOk_mk (fl := 10) (d := 12) (cfgOk_cons base h_tnum_Any) (by intro R x k; kernel_rfl)
noncomputable def F_bound_Any : FT ps_bound_Any qs_bound_Any := N_bound_Any F_tnum_Any 
theorem ok_bound_Any : SpecOk Try.prog 53 (mkS ps_bound_Any qs_bound_Any F_bound_Any) := S_bound_Any ok_tnum_Any
abbrev ps_bound_Size : List PT := [.one (.int .i64)]
abbrev qs_bound_Size : List PT := [.agg ((.prod (.int .u64) (.prod (.int .u64) (.prod (.int .i64) (.prod (.int .i64) ((.prod (.int .u64) (.int .u64))))))))]
noncomputable def N_bound_Size (F_bound_Any : FT ps_bound_Any qs_bound_Any)  : FT ps_bound_Size qs_bound_Size := fun R x k => match x with
  | x0 => 
      br (W.pick (W.pick (W.ne x0 1) (W.ne x0 2) false) (W.ne x0 4) false) (F_bound_Any R () fun y => k (y.1, y.2.1, y.2.2.1, y.2.2.2.1, y.2.2.2.2.1, y.2.2.2.2.2))
        (br (W.lt (W.wrap IntKind.i64 (W.mul 8 x0)) 0) none
          (k
            (0, W.wrap IntKind.u64 (W.sub (W.wrap IntKind.u64 (W.shl IntKind.u64 1 (W.wrap IntKind.i64 (W.mul 8 x0)))) 1), 0,
              W.wrap IntKind.i64 (W.wrap IntKind.u64 (W.sub (W.wrap IntKind.u64 (W.shl IntKind.u64 1 (W.wrap IntKind.i64 (W.mul 8 x0)))) 1)), 0,
              W.wrap IntKind.u64 (W.sub (W.wrap IntKind.u64 (W.shl IntKind.u64 1 (W.wrap IntKind.i64 (W.mul 8 x0)))) 1))))
theorem S_bound_Size {F_bound_Any : FT ps_bound_Any qs_bound_Any} (h_bound_Any : SpecOk Try.prog 53 (mkS ps_bound_Any qs_bound_Any F_bound_Any)) : SpecOk Try.prog 36 (mkS ps_bound_Size qs_bound_Size (N_bound_Size F_bound_Any)) :=
  specOk_mk (fl := 10) (d := 12) (cfgOk_cons base h_bound_Any) (by intro R x0 k; kernel_rfl)
noncomputable def F_bound_Size : FT ps_bound_Size qs_bound_Size := N_bound_Size F_bound_Any 
theorem ok_bound_Size : SpecOk Try.prog 36 (mkS ps_bound_Size qs_bound_Size F_bound_Size) := S_bound_Size ok_bound_Any
abbrev ps_state_Load : List PT := [.agg ((.prod (.slice ((.prod (.int .i64) (.prod ((.prod (.int .u64) (.prod (.int .u64) (.prod (.int .i64) (.prod (.int .i64) ((.prod (.int .u64) (.int .u64)))))))) (.int .i64))))) (.prod (.slice (.bool)) (.slice ((.prod (.int .i64) (.prod ((.prod (.int .u64) (.prod (.int .u64) (.prod (.int .i64) (.prod (.int .i64) ((.prod (.int .u64) (.int .u64)))))))) (.int .i64)))))))), .one (.int .i64), .one (.int .i64), .one (.int .i64)]
abbrev qs_state_Load : List PT := [.agg ((.prod (.int .i64) (.prod ((.prod (.int .u64) (.prod (.int .u64) (.prod (.int .i64) (.prod (.int .i64) ((.prod (.int .u64) (.int .u64)))))))) (.int .i64)))), .one (.bool)]
noncomputable def N_state_Load (F_state_places : FT ps_state_places qs_state_places) (F_state_exact : FT ps_state_exact qs_state_exact) (F_state_Ready : FT ps_state_Ready qs_state_Ready) (F_bound_Size : FT ps_bound_Size qs_bound_Size)  : FT ps_state_Load qs_state_Load := fun R x k => match x with
  | ((x0Regs, x0Set, x0Saved), x1, x2, x3) => 
      F_state_places R ((x0Regs, x0Set, x0Saved), x1, x2, x3) fun y =>
        br (W.not (W.not y))
          (F_state_Ready R ((x0Regs, x0Set, x0Saved), x1, W.wrap IntKind.i64 (W.add x2 x3)) fun y =>
            br (W.pick false true (W.not y)) (k ((0, (0, 0, 0, 0, 0, 0), 0), false))
              (F_state_exact R (x1, x2, x3) fun y =>
                br (W.or2 (W.not y) true)
                  (br (W.or2 (W.not y) (W.and2 (W.le 0 (W.wrap IntKind.i64 (W.quo x1 8))) (W.lt (W.wrap IntKind.i64 (W.quo x1 8)) (W.ofNat (W.len x0Saved)))))
                    (br (W.pick y (W.ne (W.get x0Saved (W.toNat (W.wrap IntKind.i64 (W.quo x1 8))) (0, (0, 0, 0, 0, 0, 0), 0)).1 0) false)
                      (br (W.and2 (W.le 0 (W.wrap IntKind.i64 (W.quo x1 8))) (W.lt (W.wrap IntKind.i64 (W.quo x1 8)) (W.ofNat (W.len x0Saved))))
                        (k
                          (((W.get x0Saved (W.toNat (W.wrap IntKind.i64 (W.quo x1 8))) (0, (0, 0, 0, 0, 0, 0), 0)).1,
                              ((W.get x0Saved (W.toNat (W.wrap IntKind.i64 (W.quo x1 8))) (0, (0, 0, 0, 0, 0, 0), 0)).2.1.1,
                                (W.get x0Saved (W.toNat (W.wrap IntKind.i64 (W.quo x1 8))) (0, (0, 0, 0, 0, 0, 0), 0)).2.1.2.1,
                                (W.get x0Saved (W.toNat (W.wrap IntKind.i64 (W.quo x1 8))) (0, (0, 0, 0, 0, 0, 0), 0)).2.1.2.2.1,
                                (W.get x0Saved (W.toNat (W.wrap IntKind.i64 (W.quo x1 8))) (0, (0, 0, 0, 0, 0, 0), 0)).2.1.2.2.2.1,
                                (W.get x0Saved (W.toNat (W.wrap IntKind.i64 (W.quo x1 8))) (0, (0, 0, 0, 0, 0, 0), 0)).2.1.2.2.2.2.1,
                                (W.get x0Saved (W.toNat (W.wrap IntKind.i64 (W.quo x1 8))) (0, (0, 0, 0, 0, 0, 0), 0)).2.1.2.2.2.2.2),
                              (W.get x0Saved (W.toNat (W.wrap IntKind.i64 (W.quo x1 8))) (0, (0, 0, 0, 0, 0, 0), 0)).2.2),
                            true))
                        none)
                      (F_bound_Size R x3 fun y => k ((1, (y.1, y.2.1, y.2.2.1, y.2.2.2.1, y.2.2.2.2.1, y.2.2.2.2.2), 0), true)))
                    none)
                  none))
          (k ((0, (0, 0, 0, 0, 0, 0), 0), false))
theorem S_state_Load {F_state_places : FT ps_state_places qs_state_places} {F_state_exact : FT ps_state_exact qs_state_exact} {F_state_Ready : FT ps_state_Ready qs_state_Ready} {F_bound_Size : FT ps_bound_Size qs_bound_Size} (h_state_places : SpecOk Try.prog 34 (mkS ps_state_places qs_state_places F_state_places)) (h_state_exact : SpecOk Try.prog 35 (mkS ps_state_exact qs_state_exact F_state_exact)) (h_state_Ready : SpecOk Try.prog 23 (mkS ps_state_Ready qs_state_Ready F_state_Ready)) (h_bound_Size : SpecOk Try.prog 36 (mkS ps_bound_Size qs_bound_Size F_bound_Size)) : SpecOk Try.prog 12 (mkS ps_state_Load qs_state_Load (N_state_Load F_state_places F_state_exact F_state_Ready F_bound_Size)) :=
  specOk_mk (fl := 10) (d := 12) (cfgOk_cons (cfgOk_cons (cfgOk_cons (cfgOk_cons base h_bound_Size) h_state_Ready) h_state_exact) h_state_places) (by rintro R ⟨⟨x0Regs, x0Set, x0Saved⟩, x1, x2, x3⟩ k; kernel_rfl)
noncomputable def F_state_Load : FT ps_state_Load qs_state_Load := N_state_Load F_state_places F_state_exact F_state_Ready F_bound_Size 
theorem ok_state_Load : SpecOk Try.prog 12 (mkS ps_state_Load qs_state_Load F_state_Load) := S_state_Load ok_state_places ok_state_exact ok_state_Ready ok_bound_Size
abbrev ps_bound_among_uint64 : List PT := [.one (.int .u64), .one (.int .u64), .one (.int .u64)]
abbrev qs_bound_among_uint64 : List PT := [.one (.bool)]
noncomputable def N_bound_among_uint64   : FT ps_bound_among_uint64 qs_bound_among_uint64 := fun R x k => match x with
  | (x0, x1, x2) => 
      k (W.pick (W.le x1 x0) (W.le x0 x2) false)
theorem S_bound_among_uint64   : SpecOk Try.prog 55 (mkS ps_bound_among_uint64 qs_bound_among_uint64 (N_bound_among_uint64 )) :=
  specOk_mk (fl := 10) (d := 12) base (by rintro R ⟨x0, x1, x2⟩ k; kernel_rfl)
noncomputable def F_bound_among_uint64 : FT ps_bound_among_uint64 qs_bound_among_uint64 := N_bound_among_uint64  
theorem ok_bound_among_uint64 : SpecOk Try.prog 55 (mkS ps_bound_among_uint64 qs_bound_among_uint64 F_bound_among_uint64) := S_bound_among_uint64 
abbrev ps_bound_among_int64 : List PT := [.one (.int .i64), .one (.int .i64), .one (.int .i64)]
abbrev qs_bound_among_int64 : List PT := [.one (.bool)]
noncomputable def N_bound_among_int64   : FT ps_bound_among_int64 qs_bound_among_int64 := fun R x k => match x with
  | (x0, x1, x2) => 
      k (W.pick (W.le x1 x0) (W.le x0 x2) false)
theorem S_bound_among_int64   : SpecOk Try.prog 56 (mkS ps_bound_among_int64 qs_bound_among_int64 (N_bound_among_int64 )) :=
  specOk_mk (fl := 10) (d := 12) base (by rintro R ⟨x0, x1, x2⟩ k; kernel_rfl)
noncomputable def F_bound_among_int64 : FT ps_bound_among_int64 qs_bound_among_int64 := N_bound_among_int64  
theorem ok_bound_among_int64 : SpecOk Try.prog 56 (mkS ps_bound_among_int64 qs_bound_among_int64 F_bound_among_int64) := S_bound_among_int64 
abbrev ps_tnum_In : List PT := [.agg ((.prod (.int .u64) (.int .u64))), .one (.int .u64)]
abbrev qs_tnum_In : List PT := [.one (.bool)]
noncomputable def N_tnum_In (F_tnum_tidy : FT ps_tnum_tidy qs_tnum_tidy)  : FT ps_tnum_In qs_tnum_In := fun R x k => match x with
  | ((x0Value, x0Mask), x1) => 
      F_tnum_tidy R (x1, x0Mask) fun y => k (W.and2 (W.eq y.1 x0Value) (W.and2 (W.eq y.2 x0Mask) true))
theorem S_tnum_In {F_tnum_tidy : FT ps_tnum_tidy qs_tnum_tidy} (h_tnum_tidy : SpecOk Try.prog 62 (mkS ps_tnum_tidy qs_tnum_tidy F_tnum_tidy)) : SpecOk Try.prog 57 (mkS ps_tnum_In qs_tnum_In (N_tnum_In F_tnum_tidy)) :=
  specOk_mk (fl := 10) (d := 12) (cfgOk_cons base h_tnum_tidy) (by rintro R ⟨⟨x0Value, x0Mask⟩, x1⟩ k; kernel_rfl)
noncomputable def F_tnum_In : FT ps_tnum_In qs_tnum_In := N_tnum_In F_tnum_tidy 
theorem ok_tnum_In : SpecOk Try.prog 57 (mkS ps_tnum_In qs_tnum_In F_tnum_In) := S_tnum_In ok_tnum_tidy
abbrev ps_tnum_Within : List PT := [.agg ((.prod (.int .u64) (.int .u64))), .agg ((.prod (.int .u64) (.int .u64)))]
abbrev qs_tnum_Within : List PT := [.one (.bool)]
noncomputable def N_tnum_Within (F_tnum_In : FT ps_tnum_In qs_tnum_In)  : FT ps_tnum_Within qs_tnum_Within := fun R x k => match x with
  | ((x0Value, x0Mask), (x1Value, x1Mask)) => 
      br (W.eq (W.wrap IntKind.u64 (W.or IntKind.u64 x1Mask x0Mask)) x0Mask) (F_tnum_In R ((x0Value, x0Mask), x1Value) fun y => k (W.pick true y false)) (k false)
theorem S_tnum_Within {F_tnum_In : FT ps_tnum_In qs_tnum_In} (h_tnum_In : SpecOk Try.prog 57 (mkS ps_tnum_In qs_tnum_In F_tnum_In)) : SpecOk Try.prog 61 (mkS ps_tnum_Within qs_tnum_Within (N_tnum_Within F_tnum_In)) :=
  specOk_mk (fl := 10) (d := 12) (cfgOk_cons base h_tnum_In) (by rintro R ⟨⟨x0Value, x0Mask⟩, ⟨x1Value, x1Mask⟩⟩ k; kernel_rfl)
noncomputable def F_tnum_Within : FT ps_tnum_Within qs_tnum_Within := N_tnum_Within F_tnum_In 
theorem ok_tnum_Within : SpecOk Try.prog 61 (mkS ps_tnum_Within qs_tnum_Within F_tnum_Within) := S_tnum_Within ok_tnum_In
abbrev ps_bound_Within : List PT := [.agg ((.prod (.int .u64) (.prod (.int .u64) (.prod (.int .i64) (.prod (.int .i64) ((.prod (.int .u64) (.int .u64)))))))), .agg ((.prod (.int .u64) (.prod (.int .u64) (.prod (.int .i64) (.prod (.int .i64) ((.prod (.int .u64) (.int .u64))))))))]
abbrev qs_bound_Within : List PT := [.one (.bool)]
noncomputable def N_bound_Within (F_bound_among_uint64 : FT ps_bound_among_uint64 qs_bound_among_uint64) (F_bound_among_int64 : FT ps_bound_among_int64 qs_bound_among_int64) (F_tnum_Within : FT ps_tnum_Within qs_tnum_Within)  : FT ps_bound_Within qs_bound_Within := fun R x k => match x with
  | ((x0Umin, x0Umax, x0Smin, x0Smax, (x0Bits_Value, x0Bits_Mask)), (x1Umin, x1Umax, x1Smin, x1Smax, (x1Bits_Value, x1Bits_Mask))) => 
      F_bound_among_uint64 R (x1Umin, x0Umin, x0Umax) fun y =>
        br y
          (F_bound_among_uint64 R (x1Umax, x0Umin, x0Umax) fun y =>
            F_bound_among_int64 R (x1Smin, x0Smin, x0Smax) fun y_1 =>
              br y_1
                (F_bound_among_int64 R (x1Smax, x0Smin, x0Smax) fun y_2 =>
                  br (W.pick (W.pick true y false) (W.pick true y_2 false) false) (F_tnum_Within R ((x0Bits_Value, x0Bits_Mask), x1Bits_Value, x1Bits_Mask) fun y => k (W.pick true y false)) (k false))
                (br (W.pick (W.pick true y false) false false) (F_tnum_Within R ((x0Bits_Value, x0Bits_Mask), x1Bits_Value, x1Bits_Mask) fun y => k (W.pick true y false)) (k false)))
          (F_bound_among_int64 R (x1Smin, x0Smin, x0Smax) fun y =>
            br y
              (F_bound_among_int64 R (x1Smax, x0Smin, x0Smax) fun y =>
                br (W.pick false (W.pick true y false) false) (F_tnum_Within R ((x0Bits_Value, x0Bits_Mask), x1Bits_Value, x1Bits_Mask) fun y => k (W.pick true y false)) (k false))
              (k false))
theorem S_bound_Within {F_bound_among_uint64 : FT ps_bound_among_uint64 qs_bound_among_uint64} {F_bound_among_int64 : FT ps_bound_among_int64 qs_bound_among_int64} {F_tnum_Within : FT ps_tnum_Within qs_tnum_Within} (h_bound_among_uint64 : SpecOk Try.prog 55 (mkS ps_bound_among_uint64 qs_bound_among_uint64 F_bound_among_uint64)) (h_bound_among_int64 : SpecOk Try.prog 56 (mkS ps_bound_among_int64 qs_bound_among_int64 F_bound_among_int64)) (h_tnum_Within : SpecOk Try.prog 61 (mkS ps_tnum_Within qs_tnum_Within F_tnum_Within)) : SpecOk Try.prog 54 (mkS ps_bound_Within qs_bound_Within (N_bound_Within F_bound_among_uint64 F_bound_among_int64 F_tnum_Within)) :=
  specOk_mk (fl := 10) (d := 12) (cfgOk_cons (cfgOk_cons (cfgOk_cons base h_tnum_Within) h_bound_among_int64) h_bound_among_uint64) (by rintro R ⟨⟨x0Umin, x0Umax, x0Smin, x0Smax, ⟨x0Bits_Value, x0Bits_Mask⟩⟩, ⟨x1Umin, x1Umax, x1Smin, x1Smax, ⟨x1Bits_Value, x1Bits_Mask⟩⟩⟩ k; kernel_rfl)
noncomputable def F_bound_Within : FT ps_bound_Within qs_bound_Within := N_bound_Within F_bound_among_uint64 F_bound_among_int64 F_tnum_Within 
theorem ok_bound_Within : SpecOk Try.prog 54 (mkS ps_bound_Within qs_bound_Within F_bound_Within) := S_bound_Within ok_bound_among_uint64 ok_bound_among_int64 ok_tnum_Within
abbrev ps_state_within : List PT := [.agg ((.prod (.int .i64) (.prod ((.prod (.int .u64) (.prod (.int .u64) (.prod (.int .i64) (.prod (.int .i64) ((.prod (.int .u64) (.int .u64)))))))) (.int .i64)))), .agg ((.prod (.int .i64) (.prod ((.prod (.int .u64) (.prod (.int .u64) (.prod (.int .i64) (.prod (.int .i64) ((.prod (.int .u64) (.int .u64)))))))) (.int .i64))))]
abbrev qs_state_within : List PT := [.one (.bool)]
noncomputable def N_state_within (F_bound_Within : FT ps_bound_Within qs_bound_Within)  : FT ps_state_within qs_state_within := fun R x k => match x with
  | ((x0Kind, (x0Num_Umin, x0Num_Umax, x0Num_Smin, x0Num_Smax, (x0Num_Bits_Value, x0Num_Bits_Mask)), x0Region), (x1Kind, (x1Num_Umin, x1Num_Umax, x1Num_Smin, x1Num_Smax, (x1Num_Bits_Value, x1Num_Bits_Mask)), x1Region)) => 
      br (W.and2 (W.not (W.eq x0Kind 0)) (W.pick (W.eq x0Kind x1Kind) (W.eq x0Region x1Region) false))
        (F_bound_Within R ((x0Num_Umin, x0Num_Umax, x0Num_Smin, x0Num_Smax, x0Num_Bits_Value, x0Num_Bits_Mask), x1Num_Umin, x1Num_Umax, x1Num_Smin, x1Num_Smax, x1Num_Bits_Value, x1Num_Bits_Mask)
          fun y => k (W.pick (W.eq x0Kind 0) true (W.pick (W.pick (W.eq x0Kind x1Kind) (W.eq x0Region x1Region) false) y false)))
        (br (W.not (W.eq x0Kind 0)) (br (W.pick (W.eq x0Kind x1Kind) (W.eq x0Region x1Region) false) none (k false)) (k true))
theorem S_state_within {F_bound_Within : FT ps_bound_Within qs_bound_Within} (h_bound_Within : SpecOk Try.prog 54 (mkS ps_bound_Within qs_bound_Within F_bound_Within)) : SpecOk Try.prog 40 (mkS ps_state_within qs_state_within (N_state_within F_bound_Within)) :=
  specOk_mk (fl := 10) (d := 12) (cfgOk_cons base h_bound_Within) (by rintro R ⟨⟨x0Kind, ⟨x0Num_Umin, x0Num_Umax, x0Num_Smin, x0Num_Smax, ⟨x0Num_Bits_Value, x0Num_Bits_Mask⟩⟩, x0Region⟩, ⟨x1Kind, ⟨x1Num_Umin, x1Num_Umax, x1Num_Smin, x1Num_Smax, ⟨x1Num_Bits_Value, x1Num_Bits_Mask⟩⟩, x1Region⟩⟩ k; kernel_rfl)
noncomputable def F_state_within : FT ps_state_within qs_state_within := N_state_within F_bound_Within 
theorem ok_state_within : SpecOk Try.prog 40 (mkS ps_state_within qs_state_within F_state_within) := S_state_within ok_bound_Within
abbrev pa_state_every_3 : List PV := [(.int .i64), (.int .i64), (.fn 39 [(.ptr 0 0), (.ptr 1 0)])]
abbrev ph_state_every_3 : List PB := [(.cells [(.ro true (.prod (.int .i64) (.prod (.prod (.int .u64) (.prod (.int .u64) (.prod (.int .i64) (.prod (.int .i64) (.prod (.int .u64) (.int .u64)))))) (.int .i64)))), (.ro true .bool), (.ro true (.prod (.int .i64) (.prod (.prod (.int .u64) (.prod (.int .u64) (.prod (.int .i64) (.prod (.int .i64) (.prod (.int .u64) (.int .u64)))))) (.int .i64))))]), (.cells [(.ro true (.prod (.int .i64) (.prod (.prod (.int .u64) (.prod (.int .u64) (.prod (.int .i64) (.prod (.int .i64) (.prod (.int .u64) (.int .u64)))))) (.int .i64)))), (.ro true .bool), (.ro true (.prod (.int .i64) (.prod (.prod (.int .u64) (.prod (.int .u64) (.prod (.int .i64) (.prod (.int .i64) (.prod (.int .u64) (.int .u64)))))) (.int .i64))))])]
abbrev pr_state_every_3 : PV := .bool
abbrev pz_state_every_3 : List PB := [(.cells [(.ro true (.prod (.int .i64) (.prod (.prod (.int .u64) (.prod (.int .u64) (.prod (.int .i64) (.prod (.int .i64) (.prod (.int .u64) (.int .u64)))))) (.int .i64)))), (.ro true .bool), (.ro true (.prod (.int .i64) (.prod (.prod (.int .u64) (.prod (.int .u64) (.prod (.int .i64) (.prod (.int .i64) (.prod (.int .u64) (.int .u64)))))) (.int .i64))))]), (.cells [(.ro true (.prod (.int .i64) (.prod (.prod (.int .u64) (.prod (.int .u64) (.prod (.int .i64) (.prod (.int .i64) (.prod (.int .u64) (.int .u64)))))) (.int .i64)))), (.ro true .bool), (.ro true (.prod (.int .i64) (.prod (.prod (.int .u64) (.prod (.int .u64) (.prod (.int .i64) (.prod (.int .i64) (.prod (.int .u64) (.int .u64)))))) (.int .i64))))])]
abbrev IT_state_every_3 : Type := (Int) × (Int) × (List (Int × ((Int × (Int × (Int × (Int × (Int × Int))))) × Int))) × (List Bool) × (List (Int × ((Int × (Int × (Int × (Int × (Int × Int))))) × Int))) × (List (Int × ((Int × (Int × (Int × (Int × (Int × Int))))) × Int))) × (List Bool) × (List (Int × ((Int × (Int × (Int × (Int × (Int × Int))))) × Int))) × Unit
abbrev OT_state_every_3 : Type := (Bool) × (List (Int × ((Int × (Int × (Int × (Int × (Int × Int))))) × Int))) × (List Bool) × (List (Int × ((Int × (Int × (Int × (Int × (Int × Int))))) × Int))) × (List (Int × ((Int × (Int × (Int × (Int × (Int × Int))))) × Int))) × (List Bool) × (List (Int × ((Int × (Int × (Int × (Int × (Int × Int))))) × Int))) × Unit
abbrev TE_state_every_3 : Type 1 := (R : Type) → IT_state_every_3 → (OT_state_every_3 → Option R) → Option R
noncomputable def PL_state_every_3_2_0 (F_state_within : FT ps_state_within qs_state_within) (fl : Nat)  (R : Type) (k : OT_state_every_3 → Option R) : LoopI R :=
  locate (Cw Try.prog [(40, mkS ps_state_within qs_state_within F_state_within)] noH) fl (callE (Cw Try.prog [(40, mkS ps_state_within qs_state_within F_state_within)] noH) [] fl 11) 2 26 2 [] (getE ph_state_every_3.length pr_state_every_3 pz_state_every_3 k)
noncomputable def P_state_every_3_2_0 (F_state_within : FT ps_state_within qs_state_within) (fl : Nat)  (n : Nat) (R : Type) (y0 : Int) (y1 : Int) (y2 : List (Int × (Int × Int × Int × Int × Int × Int) × Int)) (y3 : List Bool) (y4 : List (Int × (Int × Int × Int × Int × Int × Int) × Int)) (y5 : List (Int × (Int × Int × Int × Int × Int × Int) × Int)) (y6 : List Bool) (y7 : List (Int × (Int × Int × Int × Int × Int × Int) × Int)) (k : OT_state_every_3 → Option R) : Option R :=
  loopH (PL_state_every_3_2_0 F_state_within fl  R k).body (PL_state_every_3_2_0 F_state_within fl  R k).head n (some (
      S.mk [V.any, V.int IntKind.i64 y0, V.fn 39 [V.ptr 0 0, V.ptr 1 0], V.any, V.any, V.any, V.any, V.int IntKind.i64 y1, V.any, V.any, V.any, V.any, V.any, V.any, V.any, V.any, V.any, V.any] []
        [Blk.cells
            [V.ro true
                (Ty.prod (Ty.int IntKind.i64)
                  (Ty.prod (Ty.prod (Ty.int IntKind.u64) (Ty.prod (Ty.int IntKind.u64) (Ty.prod (Ty.int IntKind.i64) (Ty.prod (Ty.int IntKind.i64) (Ty.prod (Ty.int IntKind.u64) (Ty.int IntKind.u64))))))
                    (Ty.int IntKind.i64)))
                y2,
              V.ro true Ty.bool y3,
              V.ro true
                (Ty.prod (Ty.int IntKind.i64)
                  (Ty.prod (Ty.prod (Ty.int IntKind.u64) (Ty.prod (Ty.int IntKind.u64) (Ty.prod (Ty.int IntKind.i64) (Ty.prod (Ty.int IntKind.i64) (Ty.prod (Ty.int IntKind.u64) (Ty.int IntKind.u64))))))
                    (Ty.int IntKind.i64)))
                y4],
          Blk.cells
            [V.ro true
                (Ty.prod (Ty.int IntKind.i64)
                  (Ty.prod (Ty.prod (Ty.int IntKind.u64) (Ty.prod (Ty.int IntKind.u64) (Ty.prod (Ty.int IntKind.i64) (Ty.prod (Ty.int IntKind.i64) (Ty.prod (Ty.int IntKind.u64) (Ty.int IntKind.u64))))))
                    (Ty.int IntKind.i64)))
                y5,
              V.ro true Ty.bool y6,
              V.ro true
                (Ty.prod (Ty.int IntKind.i64)
                  (Ty.prod (Ty.prod (Ty.int IntKind.u64) (Ty.prod (Ty.int IntKind.u64) (Ty.prod (Ty.int IntKind.i64) (Ty.prod (Ty.int IntKind.i64) (Ty.prod (Ty.int IntKind.u64) (Ty.int IntKind.u64))))))
                    (Ty.int IntKind.i64)))
                y7]])) (PL_state_every_3_2_0 F_state_within fl  R k).kont
theorem P_state_every_3_2_0_s {F_state_within : FT ps_state_within qs_state_within} (fl : Nat)  (n : Nat) (R : Type) (y0 : Int) (y1 : Int) (y2 : List (Int × (Int × Int × Int × Int × Int × Int) × Int)) (y3 : List Bool) (y4 : List (Int × (Int × Int × Int × Int × Int × Int) × Int)) (y5 : List (Int × (Int × Int × Int × Int × Int × Int) × Int)) (y6 : List Bool) (y7 : List (Int × (Int × Int × Int × Int × Int × Int) × Int)) (k : OT_state_every_3 → Option R) : P_state_every_3_2_0 F_state_within fl  (n + 1) R y0 y1 y2 y3 y4 y5 y6 y7 k =
      br (W.lt y1 y0)
        (br (W.and2 (W.le 0 y1) (W.lt y1 (W.ofNat (W.len y2))))
          (br (W.and2 (W.le 0 y1) (W.lt y1 (W.ofNat (W.len y5))))
            (F_state_within R
              (((W.get y2 (W.toNat y1) (0, (0, 0, 0, 0, 0, 0), 0)).1,
                  ((W.get y2 (W.toNat y1) (0, (0, 0, 0, 0, 0, 0), 0)).2.1.1, (W.get y2 (W.toNat y1) (0, (0, 0, 0, 0, 0, 0), 0)).2.1.2.1, (W.get y2 (W.toNat y1) (0, (0, 0, 0, 0, 0, 0), 0)).2.1.2.2.1,
                    (W.get y2 (W.toNat y1) (0, (0, 0, 0, 0, 0, 0), 0)).2.1.2.2.2.1, (W.get y2 (W.toNat y1) (0, (0, 0, 0, 0, 0, 0), 0)).2.1.2.2.2.2.1,
                    (W.get y2 (W.toNat y1) (0, (0, 0, 0, 0, 0, 0), 0)).2.1.2.2.2.2.2),
                  (W.get y2 (W.toNat y1) (0, (0, 0, 0, 0, 0, 0), 0)).2.2),
                (W.get y5 (W.toNat y1) (0, (0, 0, 0, 0, 0, 0), 0)).1,
                ((W.get y5 (W.toNat y1) (0, (0, 0, 0, 0, 0, 0), 0)).2.1.1, (W.get y5 (W.toNat y1) (0, (0, 0, 0, 0, 0, 0), 0)).2.1.2.1, (W.get y5 (W.toNat y1) (0, (0, 0, 0, 0, 0, 0), 0)).2.1.2.2.1,
                  (W.get y5 (W.toNat y1) (0, (0, 0, 0, 0, 0, 0), 0)).2.1.2.2.2.1, (W.get y5 (W.toNat y1) (0, (0, 0, 0, 0, 0, 0), 0)).2.1.2.2.2.2.1,
                  (W.get y5 (W.toNat y1) (0, (0, 0, 0, 0, 0, 0), 0)).2.1.2.2.2.2.2),
                (W.get y5 (W.toNat y1) (0, (0, 0, 0, 0, 0, 0), 0)).2.2)
              fun y =>
              br (W.not y) (k (false, y2, y3, y4, y5, y6, y7, ()))
                (P_state_every_3_2_0 F_state_within fl n R y0 (W.wrap IntKind.i64 (W.add y1 1)) y2 y3 y4 y5 y6
                  y7 k))
            none)
          none)
        (k (true, y2, y3, y4, y5, y6, y7, ())) := by kernel_rfl
noncomputable def N_state_every_3 (F_state_within : FT ps_state_within qs_state_within) (fl : Nat) : TE_state_every_3 := fun R x k => match x with
  | (y0, y1, y2, y3, y4, y5, y6, y7, ()) => 
      P_state_every_3_2_0 F_state_within fl fl R y1 y0 y2 y3 y4 y5 y6 y7 k
theorem Q_state_every_3 {F_state_within : FT ps_state_within qs_state_within} (fl : Nat) (R : Type) (x : IT_state_every_3) (k : OT_state_every_3 → Option R) : execFn (Cw Try.prog [(40, mkS ps_state_within qs_state_within F_state_within)] noH) fl (callE (Cw Try.prog [(40, mkS ps_state_within qs_state_within F_state_within)] noH) [] fl 11) 26 (encE1 pa_state_every_3 ph_state_every_3 x) (encE2 pa_state_every_3 ph_state_every_3 x) (getE ph_state_every_3.length pr_state_every_3 pz_state_every_3 k) = N_state_every_3 F_state_within fl R x k := by
  obtain ⟨y0, y1, y2, y3, y4, y5, y6, y7, ⟨⟩⟩ := x; kernel_rfl
theorem S_state_every_3 {F_state_within : FT ps_state_within qs_state_within} (h_state_within : SpecOk Try.prog 40 (mkS ps_state_within qs_state_within F_state_within)) : ESpOk Try.prog 26 (mkE pa_state_every_3 ph_state_every_3 pr_state_every_3 pz_state_every_3 (N_state_every_3 F_state_within W.big)) :=
  espOk_mk (fl := W.big) (d := 11) (cfgOk_cons base h_state_within) esOk_nil (fun R x k => Q_state_every_3 W.big R x k)
noncomputable def E_state_every_3 : TE_state_every_3 := N_state_every_3 F_state_within W.big
theorem okE_state_every_3 : ESpOk Try.prog 26 (mkE pa_state_every_3 ph_state_every_3 pr_state_every_3 pz_state_every_3 E_state_every_3) := S_state_every_3 ok_state_within
abbrev pa_state_every_5 : List PV := [(.int .i64), (.int .i64), (.fn 41 [(.ptr 1 0), (.ptr 0 0)])]
abbrev ph_state_every_5 : List PB := [(.cells [(.ro true (.prod (.int .i64) (.prod (.prod (.int .u64) (.prod (.int .u64) (.prod (.int .i64) (.prod (.int .i64) (.prod (.int .u64) (.int .u64)))))) (.int .i64)))), (.ro true .bool), (.ro true (.prod (.int .i64) (.prod (.prod (.int .u64) (.prod (.int .u64) (.prod (.int .i64) (.prod (.int .i64) (.prod (.int .u64) (.int .u64)))))) (.int .i64))))]), (.cells [(.ro true (.prod (.int .i64) (.prod (.prod (.int .u64) (.prod (.int .u64) (.prod (.int .i64) (.prod (.int .i64) (.prod (.int .u64) (.int .u64)))))) (.int .i64)))), (.ro true .bool), (.ro true (.prod (.int .i64) (.prod (.prod (.int .u64) (.prod (.int .u64) (.prod (.int .i64) (.prod (.int .i64) (.prod (.int .u64) (.int .u64)))))) (.int .i64))))])]
abbrev pr_state_every_5 : PV := .bool
abbrev pz_state_every_5 : List PB := [(.cells [(.ro true (.prod (.int .i64) (.prod (.prod (.int .u64) (.prod (.int .u64) (.prod (.int .i64) (.prod (.int .i64) (.prod (.int .u64) (.int .u64)))))) (.int .i64)))), (.ro true .bool), (.ro true (.prod (.int .i64) (.prod (.prod (.int .u64) (.prod (.int .u64) (.prod (.int .i64) (.prod (.int .i64) (.prod (.int .u64) (.int .u64)))))) (.int .i64))))]), (.cells [(.ro true (.prod (.int .i64) (.prod (.prod (.int .u64) (.prod (.int .u64) (.prod (.int .i64) (.prod (.int .i64) (.prod (.int .u64) (.int .u64)))))) (.int .i64)))), (.ro true .bool), (.ro true (.prod (.int .i64) (.prod (.prod (.int .u64) (.prod (.int .u64) (.prod (.int .i64) (.prod (.int .i64) (.prod (.int .u64) (.int .u64)))))) (.int .i64))))])]
abbrev IT_state_every_5 : Type := (Int) × (Int) × (List (Int × ((Int × (Int × (Int × (Int × (Int × Int))))) × Int))) × (List Bool) × (List (Int × ((Int × (Int × (Int × (Int × (Int × Int))))) × Int))) × (List (Int × ((Int × (Int × (Int × (Int × (Int × Int))))) × Int))) × (List Bool) × (List (Int × ((Int × (Int × (Int × (Int × (Int × Int))))) × Int))) × Unit
abbrev OT_state_every_5 : Type := (Bool) × (List (Int × ((Int × (Int × (Int × (Int × (Int × Int))))) × Int))) × (List Bool) × (List (Int × ((Int × (Int × (Int × (Int × (Int × Int))))) × Int))) × (List (Int × ((Int × (Int × (Int × (Int × (Int × Int))))) × Int))) × (List Bool) × (List (Int × ((Int × (Int × (Int × (Int × (Int × Int))))) × Int))) × Unit
abbrev TE_state_every_5 : Type 1 := (R : Type) → IT_state_every_5 → (OT_state_every_5 → Option R) → Option R
noncomputable def PL_state_every_5_2_0  (fl : Nat)  (R : Type) (k : OT_state_every_5 → Option R) : LoopI R :=
  locate (Cw Try.prog [] noH) fl (callE (Cw Try.prog [] noH) [] fl 11) 2 26 2 [] (getE ph_state_every_5.length pr_state_every_5 pz_state_every_5 k)
noncomputable def P_state_every_5_2_0  (fl : Nat)  (n : Nat) (R : Type) (y0 : Int) (y1 : Int) (y2 : List (Int × (Int × Int × Int × Int × Int × Int) × Int)) (y3 : List Bool) (y4 : List (Int × (Int × Int × Int × Int × Int × Int) × Int)) (y5 : List (Int × (Int × Int × Int × Int × Int × Int) × Int)) (y6 : List Bool) (y7 : List (Int × (Int × Int × Int × Int × Int × Int) × Int)) (k : OT_state_every_5 → Option R) : Option R :=
  loopH (PL_state_every_5_2_0  fl  R k).body (PL_state_every_5_2_0  fl  R k).head n (some (
      S.mk [V.any, V.int IntKind.i64 y0, V.fn 41 [V.ptr 1 0, V.ptr 0 0], V.any, V.any, V.any, V.any, V.int IntKind.i64 y1, V.any, V.any, V.any, V.any, V.any, V.any, V.any, V.any, V.any, V.any] []
        [Blk.cells
            [V.ro true
                (Ty.prod (Ty.int IntKind.i64)
                  (Ty.prod (Ty.prod (Ty.int IntKind.u64) (Ty.prod (Ty.int IntKind.u64) (Ty.prod (Ty.int IntKind.i64) (Ty.prod (Ty.int IntKind.i64) (Ty.prod (Ty.int IntKind.u64) (Ty.int IntKind.u64))))))
                    (Ty.int IntKind.i64)))
                y2,
              V.ro true Ty.bool y3,
              V.ro true
                (Ty.prod (Ty.int IntKind.i64)
                  (Ty.prod (Ty.prod (Ty.int IntKind.u64) (Ty.prod (Ty.int IntKind.u64) (Ty.prod (Ty.int IntKind.i64) (Ty.prod (Ty.int IntKind.i64) (Ty.prod (Ty.int IntKind.u64) (Ty.int IntKind.u64))))))
                    (Ty.int IntKind.i64)))
                y4],
          Blk.cells
            [V.ro true
                (Ty.prod (Ty.int IntKind.i64)
                  (Ty.prod (Ty.prod (Ty.int IntKind.u64) (Ty.prod (Ty.int IntKind.u64) (Ty.prod (Ty.int IntKind.i64) (Ty.prod (Ty.int IntKind.i64) (Ty.prod (Ty.int IntKind.u64) (Ty.int IntKind.u64))))))
                    (Ty.int IntKind.i64)))
                y5,
              V.ro true Ty.bool y6,
              V.ro true
                (Ty.prod (Ty.int IntKind.i64)
                  (Ty.prod (Ty.prod (Ty.int IntKind.u64) (Ty.prod (Ty.int IntKind.u64) (Ty.prod (Ty.int IntKind.i64) (Ty.prod (Ty.int IntKind.i64) (Ty.prod (Ty.int IntKind.u64) (Ty.int IntKind.u64))))))
                    (Ty.int IntKind.i64)))
                y7]])) (PL_state_every_5_2_0  fl  R k).kont
theorem P_state_every_5_2_0_s  (fl : Nat)  (n : Nat) (R : Type) (y0 : Int) (y1 : Int) (y2 : List (Int × (Int × Int × Int × Int × Int × Int) × Int)) (y3 : List Bool) (y4 : List (Int × (Int × Int × Int × Int × Int × Int) × Int)) (y5 : List (Int × (Int × Int × Int × Int × Int × Int) × Int)) (y6 : List Bool) (y7 : List (Int × (Int × Int × Int × Int × Int × Int) × Int)) (k : OT_state_every_5 → Option R) : P_state_every_5_2_0  fl  (n + 1) R y0 y1 y2 y3 y4 y5 y6 y7 k =
      br (W.lt y1 y0)
        (br (W.and2 (W.le 0 y1) (W.lt y1 (W.ofNat (W.len y6))))
          (br (W.or2 (W.not (W.not (W.get y6 (W.toNat y1) false))) (W.and2 (W.le 0 y1) (W.lt y1 (W.ofNat (W.len y3)))))
            (br (W.not (W.pick (W.get y6 (W.toNat y1) false) true (W.not (W.get y3 (W.toNat y1) false)))) (k (false, y2, y3, y4, y5, y6, y7, ()))
              (P_state_every_5_2_0 fl n R y0 (W.wrap IntKind.i64 (W.add y1 1)) y2 y3 y4 y5 y6 y7 k))
            none)
          none)
        (k (true, y2, y3, y4, y5, y6, y7, ())) := by kernel_rfl
noncomputable def N_state_every_5  (fl : Nat) : TE_state_every_5 := fun R x k => match x with
  | (y0, y1, y2, y3, y4, y5, y6, y7, ()) => 
      P_state_every_5_2_0 fl fl R y1 y0 y2 y3 y4 y5 y6 y7 k
theorem Q_state_every_5  (fl : Nat) (R : Type) (x : IT_state_every_5) (k : OT_state_every_5 → Option R) : execFn (Cw Try.prog [] noH) fl (callE (Cw Try.prog [] noH) [] fl 11) 26 (encE1 pa_state_every_5 ph_state_every_5 x) (encE2 pa_state_every_5 ph_state_every_5 x) (getE ph_state_every_5.length pr_state_every_5 pz_state_every_5 k) = N_state_every_5  fl R x k := by
  obtain ⟨y0, y1, y2, y3, y4, y5, y6, y7, ⟨⟩⟩ := x; kernel_rfl
theorem S_state_every_5   : ESpOk Try.prog 26 (mkE pa_state_every_5 ph_state_every_5 pr_state_every_5 pz_state_every_5 (N_state_every_5  W.big)) :=
  espOk_mk (fl := W.big) (d := 11) base esOk_nil (fun R x k => Q_state_every_5 W.big R x k)
noncomputable def E_state_every_5 : TE_state_every_5 := N_state_every_5  W.big
theorem okE_state_every_5 : ESpOk Try.prog 26 (mkE pa_state_every_5 ph_state_every_5 pr_state_every_5 pz_state_every_5 E_state_every_5) := S_state_every_5 
abbrev pa_state_every_7 : List PV := [(.int .i64), (.int .i64), (.fn 42 [(.ptr 0 0), (.ptr 1 0)])]
abbrev ph_state_every_7 : List PB := [(.cells [(.ro true (.prod (.int .i64) (.prod (.prod (.int .u64) (.prod (.int .u64) (.prod (.int .i64) (.prod (.int .i64) (.prod (.int .u64) (.int .u64)))))) (.int .i64)))), (.ro true .bool), (.ro true (.prod (.int .i64) (.prod (.prod (.int .u64) (.prod (.int .u64) (.prod (.int .i64) (.prod (.int .i64) (.prod (.int .u64) (.int .u64)))))) (.int .i64))))]), (.cells [(.ro true (.prod (.int .i64) (.prod (.prod (.int .u64) (.prod (.int .u64) (.prod (.int .i64) (.prod (.int .i64) (.prod (.int .u64) (.int .u64)))))) (.int .i64)))), (.ro true .bool), (.ro true (.prod (.int .i64) (.prod (.prod (.int .u64) (.prod (.int .u64) (.prod (.int .i64) (.prod (.int .i64) (.prod (.int .u64) (.int .u64)))))) (.int .i64))))])]
abbrev pr_state_every_7 : PV := .bool
abbrev pz_state_every_7 : List PB := [(.cells [(.ro true (.prod (.int .i64) (.prod (.prod (.int .u64) (.prod (.int .u64) (.prod (.int .i64) (.prod (.int .i64) (.prod (.int .u64) (.int .u64)))))) (.int .i64)))), (.ro true .bool), (.ro true (.prod (.int .i64) (.prod (.prod (.int .u64) (.prod (.int .u64) (.prod (.int .i64) (.prod (.int .i64) (.prod (.int .u64) (.int .u64)))))) (.int .i64))))]), (.cells [(.ro true (.prod (.int .i64) (.prod (.prod (.int .u64) (.prod (.int .u64) (.prod (.int .i64) (.prod (.int .i64) (.prod (.int .u64) (.int .u64)))))) (.int .i64)))), (.ro true .bool), (.ro true (.prod (.int .i64) (.prod (.prod (.int .u64) (.prod (.int .u64) (.prod (.int .i64) (.prod (.int .i64) (.prod (.int .u64) (.int .u64)))))) (.int .i64))))])]
abbrev IT_state_every_7 : Type := (Int) × (Int) × (List (Int × ((Int × (Int × (Int × (Int × (Int × Int))))) × Int))) × (List Bool) × (List (Int × ((Int × (Int × (Int × (Int × (Int × Int))))) × Int))) × (List (Int × ((Int × (Int × (Int × (Int × (Int × Int))))) × Int))) × (List Bool) × (List (Int × ((Int × (Int × (Int × (Int × (Int × Int))))) × Int))) × Unit
abbrev OT_state_every_7 : Type := (Bool) × (List (Int × ((Int × (Int × (Int × (Int × (Int × Int))))) × Int))) × (List Bool) × (List (Int × ((Int × (Int × (Int × (Int × (Int × Int))))) × Int))) × (List (Int × ((Int × (Int × (Int × (Int × (Int × Int))))) × Int))) × (List Bool) × (List (Int × ((Int × (Int × (Int × (Int × (Int × Int))))) × Int))) × Unit
abbrev TE_state_every_7 : Type 1 := (R : Type) → IT_state_every_7 → (OT_state_every_7 → Option R) → Option R
noncomputable def PL_state_every_7_2_0 (F_state_within : FT ps_state_within qs_state_within) (fl : Nat)  (R : Type) (k : OT_state_every_7 → Option R) : LoopI R :=
  locate (Cw Try.prog [(40, mkS ps_state_within qs_state_within F_state_within)] noH) fl (callE (Cw Try.prog [(40, mkS ps_state_within qs_state_within F_state_within)] noH) [] fl 11) 2 26 2 [] (getE ph_state_every_7.length pr_state_every_7 pz_state_every_7 k)
noncomputable def P_state_every_7_2_0 (F_state_within : FT ps_state_within qs_state_within) (fl : Nat)  (n : Nat) (R : Type) (y0 : Int) (y1 : Int) (y2 : List (Int × (Int × Int × Int × Int × Int × Int) × Int)) (y3 : List Bool) (y4 : List (Int × (Int × Int × Int × Int × Int × Int) × Int)) (y5 : List (Int × (Int × Int × Int × Int × Int × Int) × Int)) (y6 : List Bool) (y7 : List (Int × (Int × Int × Int × Int × Int × Int) × Int)) (k : OT_state_every_7 → Option R) : Option R :=
  loopH (PL_state_every_7_2_0 F_state_within fl  R k).body (PL_state_every_7_2_0 F_state_within fl  R k).head n (some (
      S.mk [V.any, V.int IntKind.i64 y0, V.fn 42 [V.ptr 0 0, V.ptr 1 0], V.any, V.any, V.any, V.any, V.int IntKind.i64 y1, V.any, V.any, V.any, V.any, V.any, V.any, V.any, V.any, V.any, V.any] []
        [Blk.cells
            [V.ro true
                (Ty.prod (Ty.int IntKind.i64)
                  (Ty.prod (Ty.prod (Ty.int IntKind.u64) (Ty.prod (Ty.int IntKind.u64) (Ty.prod (Ty.int IntKind.i64) (Ty.prod (Ty.int IntKind.i64) (Ty.prod (Ty.int IntKind.u64) (Ty.int IntKind.u64))))))
                    (Ty.int IntKind.i64)))
                y2,
              V.ro true Ty.bool y3,
              V.ro true
                (Ty.prod (Ty.int IntKind.i64)
                  (Ty.prod (Ty.prod (Ty.int IntKind.u64) (Ty.prod (Ty.int IntKind.u64) (Ty.prod (Ty.int IntKind.i64) (Ty.prod (Ty.int IntKind.i64) (Ty.prod (Ty.int IntKind.u64) (Ty.int IntKind.u64))))))
                    (Ty.int IntKind.i64)))
                y4],
          Blk.cells
            [V.ro true
                (Ty.prod (Ty.int IntKind.i64)
                  (Ty.prod (Ty.prod (Ty.int IntKind.u64) (Ty.prod (Ty.int IntKind.u64) (Ty.prod (Ty.int IntKind.i64) (Ty.prod (Ty.int IntKind.i64) (Ty.prod (Ty.int IntKind.u64) (Ty.int IntKind.u64))))))
                    (Ty.int IntKind.i64)))
                y5,
              V.ro true Ty.bool y6,
              V.ro true
                (Ty.prod (Ty.int IntKind.i64)
                  (Ty.prod (Ty.prod (Ty.int IntKind.u64) (Ty.prod (Ty.int IntKind.u64) (Ty.prod (Ty.int IntKind.i64) (Ty.prod (Ty.int IntKind.i64) (Ty.prod (Ty.int IntKind.u64) (Ty.int IntKind.u64))))))
                    (Ty.int IntKind.i64)))
                y7]])) (PL_state_every_7_2_0 F_state_within fl  R k).kont
theorem P_state_every_7_2_0_s {F_state_within : FT ps_state_within qs_state_within} (fl : Nat)  (n : Nat) (R : Type) (y0 : Int) (y1 : Int) (y2 : List (Int × (Int × Int × Int × Int × Int × Int) × Int)) (y3 : List Bool) (y4 : List (Int × (Int × Int × Int × Int × Int × Int) × Int)) (y5 : List (Int × (Int × Int × Int × Int × Int × Int) × Int)) (y6 : List Bool) (y7 : List (Int × (Int × Int × Int × Int × Int × Int) × Int)) (k : OT_state_every_7 → Option R) : P_state_every_7_2_0 F_state_within fl  (n + 1) R y0 y1 y2 y3 y4 y5 y6 y7 k =
      br (W.lt y1 y0)
        (br (W.and2 (W.le 0 y1) (W.lt y1 (W.ofNat (W.len y4))))
          (br (W.and2 (W.le 0 y1) (W.lt y1 (W.ofNat (W.len y7))))
            (F_state_within R
              (((W.get y4 (W.toNat y1) (0, (0, 0, 0, 0, 0, 0), 0)).1,
                  ((W.get y4 (W.toNat y1) (0, (0, 0, 0, 0, 0, 0), 0)).2.1.1, (W.get y4 (W.toNat y1) (0, (0, 0, 0, 0, 0, 0), 0)).2.1.2.1, (W.get y4 (W.toNat y1) (0, (0, 0, 0, 0, 0, 0), 0)).2.1.2.2.1,
                    (W.get y4 (W.toNat y1) (0, (0, 0, 0, 0, 0, 0), 0)).2.1.2.2.2.1, (W.get y4 (W.toNat y1) (0, (0, 0, 0, 0, 0, 0), 0)).2.1.2.2.2.2.1,
                    (W.get y4 (W.toNat y1) (0, (0, 0, 0, 0, 0, 0), 0)).2.1.2.2.2.2.2),
                  (W.get y4 (W.toNat y1) (0, (0, 0, 0, 0, 0, 0), 0)).2.2),
                (W.get y7 (W.toNat y1) (0, (0, 0, 0, 0, 0, 0), 0)).1,
                ((W.get y7 (W.toNat y1) (0, (0, 0, 0, 0, 0, 0), 0)).2.1.1, (W.get y7 (W.toNat y1) (0, (0, 0, 0, 0, 0, 0), 0)).2.1.2.1, (W.get y7 (W.toNat y1) (0, (0, 0, 0, 0, 0, 0), 0)).2.1.2.2.1,
                  (W.get y7 (W.toNat y1) (0, (0, 0, 0, 0, 0, 0), 0)).2.1.2.2.2.1, (W.get y7 (W.toNat y1) (0, (0, 0, 0, 0, 0, 0), 0)).2.1.2.2.2.2.1,
                  (W.get y7 (W.toNat y1) (0, (0, 0, 0, 0, 0, 0), 0)).2.1.2.2.2.2.2),
                (W.get y7 (W.toNat y1) (0, (0, 0, 0, 0, 0, 0), 0)).2.2)
              fun y =>
              br (W.not y) (k (false, y2, y3, y4, y5, y6, y7, ()))
                (P_state_every_7_2_0 F_state_within fl n R y0 (W.wrap IntKind.i64 (W.add y1 1)) y2 y3 y4 y5 y6
                  y7 k))
            none)
          none)
        (k (true, y2, y3, y4, y5, y6, y7, ())) := by kernel_rfl
noncomputable def N_state_every_7 (F_state_within : FT ps_state_within qs_state_within) (fl : Nat) : TE_state_every_7 := fun R x k => match x with
  | (y0, y1, y2, y3, y4, y5, y6, y7, ()) => 
      P_state_every_7_2_0 F_state_within fl fl R y1 y0 y2 y3 y4 y5 y6 y7 k
theorem Q_state_every_7 {F_state_within : FT ps_state_within qs_state_within} (fl : Nat) (R : Type) (x : IT_state_every_7) (k : OT_state_every_7 → Option R) : execFn (Cw Try.prog [(40, mkS ps_state_within qs_state_within F_state_within)] noH) fl (callE (Cw Try.prog [(40, mkS ps_state_within qs_state_within F_state_within)] noH) [] fl 11) 26 (encE1 pa_state_every_7 ph_state_every_7 x) (encE2 pa_state_every_7 ph_state_every_7 x) (getE ph_state_every_7.length pr_state_every_7 pz_state_every_7 k) = N_state_every_7 F_state_within fl R x k := by
  obtain ⟨y0, y1, y2, y3, y4, y5, y6, y7, ⟨⟩⟩ := x; kernel_rfl
theorem S_state_every_7 {F_state_within : FT ps_state_within qs_state_within} (h_state_within : SpecOk Try.prog 40 (mkS ps_state_within qs_state_within F_state_within)) : ESpOk Try.prog 26 (mkE pa_state_every_7 ph_state_every_7 pr_state_every_7 pz_state_every_7 (N_state_every_7 F_state_within W.big)) :=
  espOk_mk (fl := W.big) (d := 11) (cfgOk_cons base h_state_within) esOk_nil (fun R x k => Q_state_every_7 W.big R x k)
noncomputable def E_state_every_7 : TE_state_every_7 := N_state_every_7 F_state_within W.big
theorem okE_state_every_7 : ESpOk Try.prog 26 (mkE pa_state_every_7 ph_state_every_7 pr_state_every_7 pz_state_every_7 E_state_every_7) := S_state_every_7 ok_state_within
abbrev ps_state_Within : List PT := [.agg ((.prod (.slice ((.prod (.int .i64) (.prod ((.prod (.int .u64) (.prod (.int .u64) (.prod (.int .i64) (.prod (.int .i64) ((.prod (.int .u64) (.int .u64)))))))) (.int .i64))))) (.prod (.slice (.bool)) (.slice ((.prod (.int .i64) (.prod ((.prod (.int .u64) (.prod (.int .u64) (.prod (.int .i64) (.prod (.int .i64) ((.prod (.int .u64) (.int .u64)))))))) (.int .i64)))))))), .agg ((.prod (.slice ((.prod (.int .i64) (.prod ((.prod (.int .u64) (.prod (.int .u64) (.prod (.int .i64) (.prod (.int .i64) ((.prod (.int .u64) (.int .u64)))))))) (.int .i64))))) (.prod (.slice (.bool)) (.slice ((.prod (.int .i64) (.prod ((.prod (.int .u64) (.prod (.int .u64) (.prod (.int .i64) (.prod (.int .i64) ((.prod (.int .u64) (.int .u64)))))))) (.int .i64))))))))]
abbrev qs_state_Within : List PT := [.one (.bool)]
noncomputable def N_state_Within (F_state_Check : FT ps_state_Check qs_state_Check) (F_state_within : FT ps_state_within qs_state_within) (E_state_every_3 : TE_state_every_3) (E_state_every_5 : TE_state_every_5) (E_state_every_7 : TE_state_every_7)  : FT ps_state_Within qs_state_Within := fun R x k => match x with
  | ((x0Regs, x0Set, x0Saved), (x1Regs, x1Set, x1Saved)) => 
      F_state_Check R (x0Regs, x0Set, x0Saved) fun y =>
        br y
          (F_state_Check R (x1Regs, x1Set, x1Saved) fun y =>
            br (W.pick true y false)
              (E_state_every_3 R (0, 11, x0Regs, x0Set, x0Saved, x1Regs, x1Set, x1Saved, ()) fun z =>
                br (W.pick true z.1 false)
                  (E_state_every_5 R (0, 512, z.2.1, z.2.2.1, z.2.2.2.1, z.2.2.2.2.1, z.2.2.2.2.2.1, z.2.2.2.2.2.2.1, ()) fun z =>
                    br (W.pick true z.1 false) (E_state_every_7 R (0, 64, z.2.1, z.2.2.1, z.2.2.2.1, z.2.2.2.2.1, z.2.2.2.2.2.1, z.2.2.2.2.2.2.1, ()) fun z => k (W.pick true z.1 false)) (k false))
                  (k false))
              (k false))
          (k false)
theorem S_state_Within {F_state_Check : FT ps_state_Check qs_state_Check} {F_state_within : FT ps_state_within qs_state_within} {E_state_every_3 : TE_state_every_3} {E_state_every_5 : TE_state_every_5} {E_state_every_7 : TE_state_every_7} (h_state_Check : SpecOk Try.prog 8 (mkS ps_state_Check qs_state_Check F_state_Check)) (h_state_within : SpecOk Try.prog 40 (mkS ps_state_within qs_state_within F_state_within)) (h_state_every_3 : ESpOk Try.prog 26 (mkE pa_state_every_3 ph_state_every_3 pr_state_every_3 pz_state_every_3 E_state_every_3)) (h_state_every_5 : ESpOk Try.prog 26 (mkE pa_state_every_5 ph_state_every_5 pr_state_every_5 pz_state_every_5 E_state_every_5)) (h_state_every_7 : ESpOk Try.prog 26 (mkE pa_state_every_7 ph_state_every_7 pr_state_every_7 pz_state_every_7 E_state_every_7)) : SpecOk Try.prog 15 (mkS ps_state_Within qs_state_Within (N_state_Within F_state_Check F_state_within E_state_every_3 E_state_every_5 E_state_every_7)) :=
  specOkE_mk (fl := 10) (d := 12) (cfgOk_cons (cfgOk_cons base h_state_within) h_state_Check) (esOk_cons (esOk_cons (esOk_cons esOk_nil h_state_every_7) h_state_every_5) h_state_every_3) (by rintro R ⟨⟨x0Regs, x0Set, x0Saved⟩, ⟨x1Regs, x1Set, x1Saved⟩⟩ k; kernel_rfl)
noncomputable def F_state_Within : FT ps_state_Within qs_state_Within := N_state_Within F_state_Check F_state_within E_state_every_3 E_state_every_5 E_state_every_7 
theorem ok_state_Within : SpecOk Try.prog 15 (mkS ps_state_Within qs_state_Within F_state_Within) := S_state_Within ok_state_Check ok_state_within okE_state_every_3 okE_state_every_5 okE_state_every_7
abbrev ps_mem_Address : List PT := [.one (.int .i64), .one (.int .i64)]
abbrev qs_mem_Address : List PT := [.one (.int .u64)]
noncomputable def N_mem_Address   : FT ps_mem_Address qs_mem_Address := fun R x k => match x with
  | (x0, x1) => 
      k (W.wrap IntKind.u64 (W.add (W.wrap IntKind.u64 (W.shl IntKind.u64 (W.wrap IntKind.u64 x0) 32)) (W.wrap IntKind.u64 x1)))
theorem S_mem_Address   : SpecOk Try.prog 43 (mkS ps_mem_Address qs_mem_Address (N_mem_Address )) :=
  specOk_mk (fl := 10) (d := 12) base (by rintro R ⟨x0, x1⟩ k; kernel_rfl)
noncomputable def F_mem_Address : FT ps_mem_Address qs_mem_Address := N_mem_Address  
theorem ok_mem_Address : SpecOk Try.prog 43 (mkS ps_mem_Address qs_mem_Address F_mem_Address) := S_mem_Address 
abbrev ps_bound_In : List PT := [.agg ((.prod (.int .u64) (.prod (.int .u64) (.prod (.int .i64) (.prod (.int .i64) ((.prod (.int .u64) (.int .u64)))))))), .one (.int .u64)]
abbrev qs_bound_In : List PT := [.one (.bool)]
noncomputable def N_bound_In (F_bound_among_uint64 : FT ps_bound_among_uint64 qs_bound_among_uint64) (F_bound_among_int64 : FT ps_bound_among_int64 qs_bound_among_int64) (F_tnum_In : FT ps_tnum_In qs_tnum_In)  : FT ps_bound_In qs_bound_In := fun R x k => match x with
  | ((x0Umin, x0Umax, x0Smin, x0Smax, (x0Bits_Value, x0Bits_Mask)), x1) => 
      F_bound_among_uint64 R (x1, x0Umin, x0Umax) fun y =>
        br y (F_bound_among_int64 R (W.wrap IntKind.i64 x1, x0Smin, x0Smax) fun y => br (W.pick true y false) (F_tnum_In R ((x0Bits_Value, x0Bits_Mask), x1) fun y => k (W.pick true y false)) (k false))
          (k false)
theorem S_bound_In {F_bound_among_uint64 : FT ps_bound_among_uint64 qs_bound_among_uint64} {F_bound_among_int64 : FT ps_bound_among_int64 qs_bound_among_int64} {F_tnum_In : FT ps_tnum_In qs_tnum_In} (h_bound_among_uint64 : SpecOk Try.prog 55 (mkS ps_bound_among_uint64 qs_bound_among_uint64 F_bound_among_uint64)) (h_bound_among_int64 : SpecOk Try.prog 56 (mkS ps_bound_among_int64 qs_bound_among_int64 F_bound_among_int64)) (h_tnum_In : SpecOk Try.prog 57 (mkS ps_tnum_In qs_tnum_In F_tnum_In)) : SpecOk Try.prog 44 (mkS ps_bound_In qs_bound_In (N_bound_In F_bound_among_uint64 F_bound_among_int64 F_tnum_In)) :=
  specOk_mk (fl := 10) (d := 12) (cfgOk_cons (cfgOk_cons (cfgOk_cons base h_tnum_In) h_bound_among_int64) h_bound_among_uint64) (by rintro R ⟨⟨x0Umin, x0Umax, x0Smin, x0Smax, ⟨x0Bits_Value, x0Bits_Mask⟩⟩, x1⟩ k; kernel_rfl)
noncomputable def F_bound_In : FT ps_bound_In qs_bound_In := N_bound_In F_bound_among_uint64 F_bound_among_int64 F_tnum_In 
theorem ok_bound_In : SpecOk Try.prog 44 (mkS ps_bound_In qs_bound_In F_bound_In) := S_bound_In ok_bound_among_uint64 ok_bound_among_int64 ok_tnum_In
abbrev ps_state_Holds : List PT := [.agg ((.prod (.int .i64) (.prod ((.prod (.int .u64) (.prod (.int .u64) (.prod (.int .i64) (.prod (.int .i64) ((.prod (.int .u64) (.int .u64)))))))) (.int .i64)))), .one (.int .u64)]
abbrev qs_state_Holds : List PT := [.one (.bool)]
noncomputable def N_state_Holds (F_mem_Address : FT ps_mem_Address qs_mem_Address) (F_bound_In : FT ps_bound_In qs_bound_In)  : FT ps_state_Holds qs_state_Holds := fun R x k => match x with
  | ((x0Kind, (x0Num_Umin, x0Num_Umax, x0Num_Smin, x0Num_Smax, (x0Num_Bits_Value, x0Num_Bits_Mask)), x0Region), x1) => 
      br (W.eq x0Kind 2)
        (F_mem_Address R (x0Region, 0) fun y =>
          br (W.not (W.pick (W.ne x0Kind 1) (W.ne x0Kind 2) false))
            (F_bound_In R ((x0Num_Umin, x0Num_Umax, x0Num_Smin, x0Num_Smax, x0Num_Bits_Value, x0Num_Bits_Mask), W.wrap IntKind.u64 (W.sub x1 y)) fun y => k (W.pick false true y)) (k true))
        (br (W.not (W.pick (W.ne x0Kind 1) (W.ne x0Kind 2) false))
          (F_bound_In R ((x0Num_Umin, x0Num_Umax, x0Num_Smin, x0Num_Smax, x0Num_Bits_Value, x0Num_Bits_Mask), x1) fun y => k (W.pick false true y)) (k true))
theorem S_state_Holds {F_mem_Address : FT ps_mem_Address qs_mem_Address} {F_bound_In : FT ps_bound_In qs_bound_In} (h_mem_Address : SpecOk Try.prog 43 (mkS ps_mem_Address qs_mem_Address F_mem_Address)) (h_bound_In : SpecOk Try.prog 44 (mkS ps_bound_In qs_bound_In F_bound_In)) : SpecOk Try.prog 16 (mkS ps_state_Holds qs_state_Holds (N_state_Holds F_mem_Address F_bound_In)) :=
  specOk_mk (fl := 10) (d := 12) (cfgOk_cons (cfgOk_cons base h_bound_In) h_mem_Address) (by rintro R ⟨⟨x0Kind, ⟨x0Num_Umin, x0Num_Umax, x0Num_Smin, x0Num_Smax, ⟨x0Num_Bits_Value, x0Num_Bits_Mask⟩⟩, x0Region⟩, x1⟩ k; kernel_rfl)
noncomputable def F_state_Holds : FT ps_state_Holds qs_state_Holds := N_state_Holds F_mem_Address F_bound_In 
theorem ok_state_Holds : SpecOk Try.prog 16 (mkS ps_state_Holds qs_state_Holds F_state_Holds) := S_state_Holds ok_mem_Address ok_bound_In
abbrev ps_tnum_Const : List PT := [.one (.int .u64)]
abbrev qs_tnum_Const : List PT := [.agg ((.prod (.int .u64) (.int .u64)))]
noncomputable def N_tnum_Const   : FT ps_tnum_Const qs_tnum_Const := fun R x k => match x with
  | x0 => 
      k (x0, 0)
theorem S_tnum_Const   : SpecOk Try.prog 63 (mkS ps_tnum_Const qs_tnum_Const (N_tnum_Const )) :=
  specOk_mk (fl := 10) (d := 12) base (by intro R x0 k; kernel_rfl)
noncomputable def F_tnum_Const : FT ps_tnum_Const qs_tnum_Const := N_tnum_Const  
theorem ok_tnum_Const : SpecOk Try.prog 63 (mkS ps_tnum_Const qs_tnum_Const F_tnum_Const) := S_tnum_Const 
abbrev ps_bound_Const : List PT := [.one (.int .u64)]
abbrev qs_bound_Const : List PT := [.agg ((.prod (.int .u64) (.prod (.int .u64) (.prod (.int .i64) (.prod (.int .i64) ((.prod (.int .u64) (.int .u64))))))))]
noncomputable def N_bound_Const (F_tnum_Const : FT ps_tnum_Const qs_tnum_Const)  : FT ps_bound_Const qs_bound_Const := fun R x k => match x with
  | x0 => 
      F_tnum_Const R x0 fun y => k (x0, x0, W.wrap IntKind.i64 x0, W.wrap IntKind.i64 x0, y.1, y.2)
theorem S_bound_Const {F_tnum_Const : FT ps_tnum_Const qs_tnum_Const} (h_tnum_Const : SpecOk Try.prog 63 (mkS ps_tnum_Const qs_tnum_Const F_tnum_Const)) : SpecOk Try.prog 59 (mkS ps_bound_Const qs_bound_Const (N_bound_Const F_tnum_Const)) :=
  specOk_mk (fl := 10) (d := 12) (cfgOk_cons base h_tnum_Const) (by intro R x0 k; kernel_rfl)
noncomputable def F_bound_Const : FT ps_bound_Const qs_bound_Const := N_bound_Const F_tnum_Const 
theorem ok_bound_Const : SpecOk Try.prog 59 (mkS ps_bound_Const qs_bound_Const F_bound_Const) := S_bound_Const ok_tnum_Const
abbrev ps_state_place : List PT := [.one (.int .i64), .one (.int .i64)]
abbrev qs_state_place : List PT := [.agg ((.prod (.int .i64) (.prod ((.prod (.int .u64) (.prod (.int .u64) (.prod (.int .i64) (.prod (.int .i64) ((.prod (.int .u64) (.int .u64)))))))) (.int .i64))))]
noncomputable def N_state_place (F_bound_Const : FT ps_bound_Const qs_bound_Const)  : FT ps_state_place qs_state_place := fun R x k => match x with
  | (x0, x1) => 
      F_bound_Const R (W.wrap IntKind.u64 x1) fun y => k (2, (y.1, y.2.1, y.2.2.1, y.2.2.2.1, y.2.2.2.2.1, y.2.2.2.2.2), x0)
theorem S_state_place {F_bound_Const : FT ps_bound_Const qs_bound_Const} (h_bound_Const : SpecOk Try.prog 59 (mkS ps_bound_Const qs_bound_Const F_bound_Const)) : SpecOk Try.prog 51 (mkS ps_state_place qs_state_place (N_state_place F_bound_Const)) :=
  specOk_mk (fl := 10) (d := 12) (cfgOk_cons base h_bound_Const) (by rintro R ⟨x0, x1⟩ k; kernel_rfl)
noncomputable def F_state_place : FT ps_state_place qs_state_place := N_state_place F_bound_Const 
theorem ok_state_place : SpecOk Try.prog 51 (mkS ps_state_place qs_state_place F_state_place) := S_state_place ok_bound_Const
abbrev ps_state_Begin : List PT := []
abbrev qs_state_Begin : List PT := [.agg ((.prod (.slice ((.prod (.int .i64) (.prod ((.prod (.int .u64) (.prod (.int .u64) (.prod (.int .i64) (.prod (.int .i64) ((.prod (.int .u64) (.int .u64)))))))) (.int .i64))))) (.prod (.slice (.bool)) (.slice ((.prod (.int .i64) (.prod ((.prod (.int .u64) (.prod (.int .u64) (.prod (.int .i64) (.prod (.int .i64) ((.prod (.int .u64) (.int .u64)))))))) (.int .i64))))))))]
noncomputable def N_state_Begin (F_state_place : FT ps_state_place qs_state_place)  : FT ps_state_Begin qs_state_Begin := fun R x k => match x with
  | () => 
      br (W.and2 true (W.le (W.mul (W.ofNat 64) 11) 281474976710656))
        (br (W.and2 true (W.le (W.mul (W.ofNat 1) 512) 281474976710656))
          (br (W.and2 true (W.le (W.mul (W.ofNat 64) 64) 281474976710656))
            (F_state_place R (1, 0) fun y =>
              F_state_place R (2, 512) fun y_1 =>
                k
                  (W.set (W.set (W.rep 11 (0, (0, 0, 0, 0, 0, 0), 0)) 1 (y.1, (y.2.1.1, y.2.1.2.1, y.2.1.2.2.1, y.2.1.2.2.2.1, y.2.1.2.2.2.2.1, y.2.1.2.2.2.2.2), y.2.2)) 10
                      (y_1.1, (y_1.2.1.1, y_1.2.1.2.1, y_1.2.1.2.2.1, y_1.2.1.2.2.2.1, y_1.2.1.2.2.2.2.1, y_1.2.1.2.2.2.2.2), y_1.2.2),
                    W.rep 512 false, W.rep 64 (0, (0, 0, 0, 0, 0, 0), 0)))
            none)
          none)
        none
theorem S_state_Begin {F_state_place : FT ps_state_place qs_state_place} (h_state_place : SpecOk Try.prog 51 (mkS ps_state_place qs_state_place F_state_place)) : SpecOk Try.prog 31 (mkS ps_state_Begin qs_state_Begin (N_state_Begin F_state_place)) :=
  specOk_mk (fl := 10) (d := 12) (cfgOk_cons base h_state_place) (by intro R x k; kernel_rfl)
noncomputable def F_state_Begin : FT ps_state_Begin qs_state_Begin := N_state_Begin F_state_place 
theorem ok_state_Begin : SpecOk Try.prog 31 (mkS ps_state_Begin qs_state_Begin F_state_Begin) := S_state_Begin ok_state_place
abbrev ps_clevisref07Const : List PT := [.one (.int .u64)]
abbrev qs_clevisref07Const : List PT := [.agg ((.prod (.int .u64) (.int .u64)))]
noncomputable def N_clevisref07Const   : FT ps_clevisref07Const qs_clevisref07Const := fun R x k => match x with
  | x0 => 
      k (x0, 0)
theorem S_clevisref07Const   : SpecOk Try.prog 52 (mkS ps_clevisref07Const qs_clevisref07Const (N_clevisref07Const )) :=
  specOk_mk (fl := 10) (d := 12) base (by intro R x0 k; kernel_rfl)
noncomputable def F_clevisref07Const : FT ps_clevisref07Const qs_clevisref07Const := N_clevisref07Const  
theorem ok_clevisref07Const : SpecOk Try.prog 52 (mkS ps_clevisref07Const qs_clevisref07Const F_clevisref07Const) := S_clevisref07Const 
abbrev ps_clevisref08Const : List PT := [.one (.int .u64)]
abbrev qs_clevisref08Const : List PT := [.agg ((.prod (.int .u64) (.prod (.int .u64) (.prod (.int .i64) (.prod (.int .i64) ((.prod (.int .u64) (.int .u64))))))))]
noncomputable def N_clevisref08Const (F_clevisref07Const : FT ps_clevisref07Const qs_clevisref07Const)  : FT ps_clevisref08Const qs_clevisref08Const := fun R x k => match x with
  | x0 => 
      F_clevisref07Const R x0 fun y => k (x0, x0, W.wrap IntKind.i64 x0, W.wrap IntKind.i64 x0, y.1, y.2)
theorem S_clevisref08Const {F_clevisref07Const : FT ps_clevisref07Const qs_clevisref07Const} (h_clevisref07Const : SpecOk Try.prog 52 (mkS ps_clevisref07Const qs_clevisref07Const F_clevisref07Const)) : SpecOk Try.prog 32 (mkS ps_clevisref08Const qs_clevisref08Const (N_clevisref08Const F_clevisref07Const)) :=
  specOk_mk (fl := 10) (d := 12) (cfgOk_cons base h_clevisref07Const) (by intro R x0 k; kernel_rfl)
noncomputable def F_clevisref08Const : FT ps_clevisref08Const qs_clevisref08Const := N_clevisref08Const F_clevisref07Const 
theorem ok_clevisref08Const : SpecOk Try.prog 32 (mkS ps_clevisref08Const qs_clevisref08Const F_clevisref08Const) := S_clevisref08Const ok_clevisref07Const
abbrev ps_clevislaw11heads : List PT := []
abbrev qs_clevislaw11heads : List PT := [.one (.bool)]
noncomputable def N_clevislaw11heads (F_state_Check : FT ps_state_Check qs_state_Check) (F_state_Store : FT ps_state_Store qs_state_Store) (F_state_Ready : FT ps_state_Ready qs_state_Ready) (F_state_Load : FT ps_state_Load qs_state_Load) (F_state_Within : FT ps_state_Within qs_state_Within) (F_state_Holds : FT ps_state_Holds qs_state_Holds) (F_state_Begin : FT ps_state_Begin qs_state_Begin) (F_clevisref08Const : FT ps_clevisref08Const qs_clevisref08Const)  : FT ps_clevislaw11heads qs_clevislaw11heads := fun R x k => match x with
  | () => 
      F_state_Begin R () fun y =>
        F_clevisref08Const R 5 fun y_1 =>
          F_state_Store R ((y.1, y.2.1, y.2.2), 504, 504, 8, 1, (y_1.1, y_1.2.1, y_1.2.2.1, y_1.2.2.2.1, y_1.2.2.2.2.1, y_1.2.2.2.2.2), 0) fun y_2 =>
            F_state_Load R ((y_2.1, y_2.2.1, y_2.2.2), 504, 504, 8) fun y_3 =>
              F_state_Load R ((y_2.1, y_2.2.1, y_2.2.2), 504, 504, 4) fun y_4 =>
                F_state_Load R ((y.1, y.2.1, y.2.2), 504, 504, 8) fun y_5 =>
                  F_state_Check R (y.1, y.2.1, y.2.2) fun y_6 =>
                    br
                      (W.pick
                        (W.pick
                          (W.pick
                            (W.pick (W.pick y_6 y_3.2 false)
                              (W.and2 (W.eq y_3.1.1 1)
                                (W.and2 (W.eq y_3.1.2.1.1 y_1.1)
                                  (W.and2 (W.eq y_3.1.2.1.2.1 y_1.2.1)
                                    (W.and2 (W.eq y_3.1.2.1.2.2.1 y_1.2.2.1)
                                      (W.and2 (W.eq y_3.1.2.1.2.2.2.1 y_1.2.2.2.1)
                                        (W.and2 (W.eq y_3.1.2.1.2.2.2.2.1 y_1.2.2.2.2.1) (W.and2 (W.eq y_3.1.2.1.2.2.2.2.2 y_1.2.2.2.2.2) (W.and2 (W.eq y_3.1.2.2 0) true))))))))
                              false)
                            y_4.2 false)
                          (W.eq y_4.1.2.1.2.1 4294967295) false)
                        (W.not y_5.2) false)
                      (F_state_Ready R ((y_2.1, y_2.2.1, y_2.2.2), 504, 512) fun y_7 =>
                        br (W.pick true y_7 false)
                          (F_state_Ready R ((y_2.1, y_2.2.1, y_2.2.2), 503, 512) fun y_8 =>
                            br (W.or2 (W.not (W.pick true (W.not y_8) false)) (W.and2 true (W.lt 1 (W.ofNat (W.len y.1)))))
                              (br (W.pick true (W.not y_8) false)
                                (F_state_Holds R
                                  (((W.get y.1 1 (0, (0, 0, 0, 0, 0, 0), 0)).1,
                                      ((W.get y.1 1 (0, (0, 0, 0, 0, 0, 0), 0)).2.1.1, (W.get y.1 1 (0, (0, 0, 0, 0, 0, 0), 0)).2.1.2.1, (W.get y.1 1 (0, (0, 0, 0, 0, 0, 0), 0)).2.1.2.2.1,
                                        (W.get y.1 1 (0, (0, 0, 0, 0, 0, 0), 0)).2.1.2.2.2.1, (W.get y.1 1 (0, (0, 0, 0, 0, 0, 0), 0)).2.1.2.2.2.2.1, (W.get y.1 1 (0, (0, 0, 0, 0, 0, 0), 0)).2.1.2.2.2.2.2),
                                      (W.get y.1 1 (0, (0, 0, 0, 0, 0, 0), 0)).2.2),
                                    4294967296)
                                  fun y_9 =>
                                  br (W.pick true y_9 false)
                                    (F_state_Within R ((y.1, y.2.1, y.2.2), y_2.1, y_2.2.1, y_2.2.2) fun y_10 =>
                                      br (W.pick true y_10 false) (F_state_Within R ((y_2.1, y_2.2.1, y_2.2.2), y.1, y.2.1, y.2.2) fun y => k (W.pick true (W.not y) false)) (k false))
                                    (k false))
                                (k false))
                              none)
                          (br (W.or2 true (W.and2 true (W.lt 1 (W.ofNat (W.len y.1))))) (k false) none))
                      (br (W.or2 true (W.and2 true (W.lt 1 (W.ofNat (W.len y.1))))) (k false) none)
theorem S_clevislaw11heads {F_state_Check : FT ps_state_Check qs_state_Check} {F_state_Store : FT ps_state_Store qs_state_Store} {F_state_Ready : FT ps_state_Ready qs_state_Ready} {F_state_Load : FT ps_state_Load qs_state_Load} {F_state_Within : FT ps_state_Within qs_state_Within} {F_state_Holds : FT ps_state_Holds qs_state_Holds} {F_state_Begin : FT ps_state_Begin qs_state_Begin} {F_clevisref08Const : FT ps_clevisref08Const qs_clevisref08Const} (h_state_Check : SpecOk Try.prog 8 (mkS ps_state_Check qs_state_Check F_state_Check)) (h_state_Store : SpecOk Try.prog 11 (mkS ps_state_Store qs_state_Store F_state_Store)) (h_state_Ready : SpecOk Try.prog 23 (mkS ps_state_Ready qs_state_Ready F_state_Ready)) (h_state_Load : SpecOk Try.prog 12 (mkS ps_state_Load qs_state_Load F_state_Load)) (h_state_Within : SpecOk Try.prog 15 (mkS ps_state_Within qs_state_Within F_state_Within)) (h_state_Holds : SpecOk Try.prog 16 (mkS ps_state_Holds qs_state_Holds F_state_Holds)) (h_state_Begin : SpecOk Try.prog 31 (mkS ps_state_Begin qs_state_Begin F_state_Begin)) (h_clevisref08Const : SpecOk Try.prog 32 (mkS ps_clevisref08Const qs_clevisref08Const F_clevisref08Const)) : SpecOk Try.prog 10 (mkS ps_clevislaw11heads qs_clevislaw11heads (N_clevislaw11heads F_state_Check F_state_Store F_state_Ready F_state_Load F_state_Within F_state_Holds F_state_Begin F_clevisref08Const)) :=
  specOk_mk (fl := 10) (d := 12) (cfgOk_cons (cfgOk_cons (cfgOk_cons (cfgOk_cons (cfgOk_cons (cfgOk_cons (cfgOk_cons (cfgOk_cons base h_clevisref08Const) h_state_Begin) h_state_Holds) h_state_Within) h_state_Load) h_state_Ready) h_state_Store) h_state_Check) (by intro R x k; kernel_rfl)
noncomputable def F_clevislaw11heads : FT ps_clevislaw11heads qs_clevislaw11heads := N_clevislaw11heads F_state_Check F_state_Store F_state_Ready F_state_Load F_state_Within F_state_Holds F_state_Begin F_clevisref08Const 
theorem ok_clevislaw11heads : SpecOk Try.prog 10 (mkS ps_clevislaw11heads qs_clevislaw11heads F_clevislaw11heads) := S_clevislaw11heads ok_state_Check ok_state_Store ok_state_Ready ok_state_Load ok_state_Within ok_state_Holds ok_state_Begin ok_clevisref08Const
abbrev ps_clevisref07Any : List PT := []
abbrev qs_clevisref07Any : List PT := [.agg ((.prod (.int .u64) (.int .u64)))]
noncomputable def N_clevisref07Any   : FT ps_clevisref07Any qs_clevisref07Any := fun R x k => match x with
  | () => 
      k (0, 18446744073709551615)
theorem S_clevisref07Any   : SpecOk Try.prog 38 (mkS ps_clevisref07Any qs_clevisref07Any (N_clevisref07Any )) :=
  specOk_mk (fl := 10) (d := 12) base (by intro R x k; kernel_rfl)
noncomputable def F_clevisref07Any : FT ps_clevisref07Any qs_clevisref07Any := N_clevisref07Any  
theorem ok_clevisref07Any : SpecOk Try.prog 38 (mkS ps_clevisref07Any qs_clevisref07Any F_clevisref07Any) := S_clevisref07Any 
abbrev ps_clevisref08Any : List PT := []
abbrev qs_clevisref08Any : List PT := [.agg ((.prod (.int .u64) (.prod (.int .u64) (.prod (.int .i64) (.prod (.int .i64) ((.prod (.int .u64) (.int .u64))))))))]
noncomputable def N_clevisref08Any (F_clevisref07Any : FT ps_clevisref07Any qs_clevisref07Any)  : FT ps_clevisref08Any qs_clevisref08Any := fun R x k => match x with
  | () => 
      F_clevisref07Any R () fun y => k (0, 18446744073709551615, -9223372036854775808, 9223372036854775807, y.1, y.2)
theorem S_clevisref08Any {F_clevisref07Any : FT ps_clevisref07Any qs_clevisref07Any} (h_clevisref07Any : SpecOk Try.prog 38 (mkS ps_clevisref07Any qs_clevisref07Any F_clevisref07Any)) : SpecOk Try.prog 14 (mkS ps_clevisref08Any qs_clevisref08Any (N_clevisref08Any F_clevisref07Any)) :=
  specOk_mk (fl := 10) (d := 12) (cfgOk_cons base h_clevisref07Any) (by intro R x k; kernel_rfl)
noncomputable def F_clevisref08Any : FT ps_clevisref08Any qs_clevisref08Any := N_clevisref08Any F_clevisref07Any 
theorem ok_clevisref08Any : SpecOk Try.prog 14 (mkS ps_clevisref08Any qs_clevisref08Any F_clevisref08Any) := S_clevisref08Any ok_clevisref07Any
abbrev ps_clevisref08upto : List PT := [.one (.int .u64)]
abbrev qs_clevisref08upto : List PT := [.agg ((.prod (.int .u64) (.prod (.int .u64) (.prod (.int .i64) (.prod (.int .i64) ((.prod (.int .u64) (.int .u64))))))))]
noncomputable def N_clevisref08upto   : FT ps_clevisref08upto qs_clevisref08upto := fun R x k => match x with
  | x0 => 
      k (0, x0, 0, W.wrap IntKind.i64 x0, 0, x0)
theorem S_clevisref08upto   : SpecOk Try.prog 37 (mkS ps_clevisref08upto qs_clevisref08upto (N_clevisref08upto )) :=
  specOk_mk (fl := 10) (d := 12) base (by intro R x0 k; kernel_rfl)
noncomputable def F_clevisref08upto : FT ps_clevisref08upto qs_clevisref08upto := N_clevisref08upto  
theorem ok_clevisref08upto : SpecOk Try.prog 37 (mkS ps_clevisref08upto qs_clevisref08upto F_clevisref08upto) := S_clevisref08upto 
abbrev ps_clevisref08Size : List PT := [.one (.int .i64)]
abbrev qs_clevisref08Size : List PT := [.agg ((.prod (.int .u64) (.prod (.int .u64) (.prod (.int .i64) (.prod (.int .i64) ((.prod (.int .u64) (.int .u64))))))))]
noncomputable def N_clevisref08Size (F_clevisref08Any : FT ps_clevisref08Any qs_clevisref08Any) (F_clevisref08upto : FT ps_clevisref08upto qs_clevisref08upto)  : FT ps_clevisref08Size qs_clevisref08Size := fun R x k => match x with
  | x0 => 
      br (W.eq x0 1) (F_clevisref08upto R 255 fun y => k (y.1, y.2.1, y.2.2.1, y.2.2.2.1, y.2.2.2.2.1, y.2.2.2.2.2))
        (br (W.eq x0 2) (F_clevisref08upto R 65535 fun y => k (y.1, y.2.1, y.2.2.1, y.2.2.2.1, y.2.2.2.2.1, y.2.2.2.2.2))
          (br (W.eq x0 4) (F_clevisref08upto R 4294967295 fun y => k (y.1, y.2.1, y.2.2.1, y.2.2.2.1, y.2.2.2.2.1, y.2.2.2.2.2))
            (F_clevisref08Any R () fun y => k (y.1, y.2.1, y.2.2.1, y.2.2.2.1, y.2.2.2.2.1, y.2.2.2.2.2))))
theorem S_clevisref08Size {F_clevisref08Any : FT ps_clevisref08Any qs_clevisref08Any} {F_clevisref08upto : FT ps_clevisref08upto qs_clevisref08upto} (h_clevisref08Any : SpecOk Try.prog 14 (mkS ps_clevisref08Any qs_clevisref08Any F_clevisref08Any)) (h_clevisref08upto : SpecOk Try.prog 37 (mkS ps_clevisref08upto qs_clevisref08upto F_clevisref08upto)) : SpecOk Try.prog 13 (mkS ps_clevisref08Size qs_clevisref08Size (N_clevisref08Size F_clevisref08Any F_clevisref08upto)) :=
  specOk_mk (fl := 10) (d := 12) (cfgOk_cons (cfgOk_cons base h_clevisref08upto) h_clevisref08Any) (by intro R x0 k; kernel_rfl)
noncomputable def F_clevisref08Size : FT ps_clevisref08Size qs_clevisref08Size := N_clevisref08Size F_clevisref08Any F_clevisref08upto 
theorem ok_clevisref08Size : SpecOk Try.prog 13 (mkS ps_clevisref08Size qs_clevisref08Size F_clevisref08Size) := S_clevisref08Size ok_clevisref08Any ok_clevisref08upto
abbrev ps_clevislaw11StateSmall : List PT := [.agg ((.prod (.slice ((.prod (.int .i64) (.prod ((.prod (.int .u64) (.prod (.int .u64) (.prod (.int .i64) (.prod (.int .i64) ((.prod (.int .u64) (.int .u64)))))))) (.int .i64))))) (.prod (.slice (.bool)) (.slice ((.prod (.int .i64) (.prod ((.prod (.int .u64) (.prod (.int .u64) (.prod (.int .i64) (.prod (.int .i64) ((.prod (.int .u64) (.int .u64)))))))) (.int .i64)))))))), .agg ((.prod (.int .i64) (.prod ((.prod (.int .u64) (.prod (.int .u64) (.prod (.int .i64) (.prod (.int .i64) ((.prod (.int .u64) (.int .u64)))))))) (.int .i64)))), .one (.int .i64), .one (.int .i64)]
noncomputable def L_clevislaw11StateSmall (F_state_Check : FT ps_state_Check qs_state_Check) (F_clevisref11Right : FT ps_clevisref11Right qs_clevisref11Right) (F_state_Store : FT ps_state_Store qs_state_Store) (F_state_Load : FT ps_state_Load qs_state_Load) (F_clevislaw11heads : FT ps_clevislaw11heads qs_clevislaw11heads) (F_clevisref08Any : FT ps_clevisref08Any qs_clevisref08Any) (F_clevisref08Size : FT ps_clevisref08Size qs_clevisref08Size)  (x : PTs.D ps_clevislaw11StateSmall) : Option Unit := match x with
  | ((x0Regs, x0Set, x0Saved), (x1Kind, (x1Num_Umin, x1Num_Umax, x1Num_Smin, x1Num_Smax, (x1Num_Bits_Value, x1Num_Bits_Mask)), x1Region), x2, x3) => 
      F_state_Check Unit (x0Regs, x0Set, x0Saved) fun y =>
        br (W.not (W.not y))
          (F_clevisref11Right Unit (x1Kind, (x1Num_Umin, x1Num_Umax, x1Num_Smin, x1Num_Smax, x1Num_Bits_Value, x1Num_Bits_Mask), x1Region) fun y =>
            br
              (W.pick (W.pick (W.pick (W.pick (W.pick (W.pick false true (W.not y)) true (W.lt x2 0)) true (W.lt x3 1)) true (W.gt x3 4)) true (W.eq x3 3)) true
                (W.gt x2 (W.wrap IntKind.i64 (W.sub 512 x3))))
              (F_clevislaw11heads Unit () fun y => br y (some ()) none)
              (F_state_Store Unit ((x0Regs, x0Set, x0Saved), x2, x2, x3, x1Kind, (x1Num_Umin, x1Num_Umax, x1Num_Smin, x1Num_Smax, x1Num_Bits_Value, x1Num_Bits_Mask), x1Region) fun y =>
                F_state_Load Unit ((y.1, y.2.1, y.2.2), x2, x2, x3) fun y_1 =>
                  F_state_Check Unit (y.1, y.2.1, y.2.2) fun y_2 =>
                    br (W.not (W.pick (W.not y_2) true (W.not y_1.2)))
                      (F_clevisref08Size Unit x3 fun y_3 =>
                        br
                          (W.pick false true
                            (W.not
                              (W.and2 (W.eq y_1.1.1 1)
                                (W.and2 (W.eq y_1.1.2.1.1 y_3.1)
                                  (W.and2 (W.eq y_1.1.2.1.2.1 y_3.2.1)
                                    (W.and2 (W.eq y_1.1.2.1.2.2.1 y_3.2.2.1)
                                      (W.and2 (W.eq y_1.1.2.1.2.2.2.1 y_3.2.2.2.1)
                                        (W.and2 (W.eq y_1.1.2.1.2.2.2.2.1 y_3.2.2.2.2.1) (W.and2 (W.eq y_1.1.2.1.2.2.2.2.2 y_3.2.2.2.2.2) (W.and2 (W.eq y_1.1.2.2 0) true))))))))))
                          none
                          (F_state_Load Unit ((y.1, y.2.1, y.2.2), W.wrap IntKind.i64 (W.mul 8 (W.wrap IntKind.i64 (W.quo x2 8))), W.wrap IntKind.i64 (W.mul 8 (W.wrap IntKind.i64 (W.quo x2 8))), 8) fun y =>
                            br (W.not (W.not y.2))
                              (F_clevisref08Any Unit () fun y_4 =>
                                br
                                  (W.pick false true
                                    (W.and2 (W.eq y.1.1 1)
                                      (W.and2 (W.eq y.1.2.1.1 y_4.1)
                                        (W.and2 (W.eq y.1.2.1.2.1 y_4.2.1)
                                          (W.and2 (W.eq y.1.2.1.2.2.1 y_4.2.2.1)
                                            (W.and2 (W.eq y.1.2.1.2.2.2.1 y_4.2.2.2.1)
                                              (W.and2 (W.eq y.1.2.1.2.2.2.2.1 y_4.2.2.2.2.1) (W.and2 (W.eq y.1.2.1.2.2.2.2.2 y_4.2.2.2.2.2) (W.and2 (W.eq y.1.2.2 0) true)))))))))
                                  (F_clevislaw11heads Unit () fun y => br (W.pick true y false) (some ()) none) none)
                              (F_clevislaw11heads Unit () fun y => br (W.pick true y false) (some ()) none)))
                      none))
          (br (W.pick (W.pick (W.pick (W.pick (W.pick true true (W.lt x2 0)) true (W.lt x3 1)) true (W.gt x3 4)) true (W.eq x3 3)) true (W.gt x2 (W.wrap IntKind.i64 (W.sub 512 x3))))
            (F_clevislaw11heads Unit () fun y => br y (some ()) none)
            (F_state_Store Unit ((x0Regs, x0Set, x0Saved), x2, x2, x3, x1Kind, (x1Num_Umin, x1Num_Umax, x1Num_Smin, x1Num_Smax, x1Num_Bits_Value, x1Num_Bits_Mask), x1Region) fun y =>
              F_state_Load Unit ((y.1, y.2.1, y.2.2), x2, x2, x3) fun y_1 =>
                F_state_Check Unit (y.1, y.2.1, y.2.2) fun y_2 =>
                  br (W.not (W.pick (W.not y_2) true (W.not y_1.2)))
                    (F_clevisref08Size Unit x3 fun y_3 =>
                      br
                        (W.pick false true
                          (W.not
                            (W.and2 (W.eq y_1.1.1 1)
                              (W.and2 (W.eq y_1.1.2.1.1 y_3.1)
                                (W.and2 (W.eq y_1.1.2.1.2.1 y_3.2.1)
                                  (W.and2 (W.eq y_1.1.2.1.2.2.1 y_3.2.2.1)
                                    (W.and2 (W.eq y_1.1.2.1.2.2.2.1 y_3.2.2.2.1)
                                      (W.and2 (W.eq y_1.1.2.1.2.2.2.2.1 y_3.2.2.2.2.1) (W.and2 (W.eq y_1.1.2.1.2.2.2.2.2 y_3.2.2.2.2.2) (W.and2 (W.eq y_1.1.2.2 0) true))))))))))
                        none
                        (F_state_Load Unit ((y.1, y.2.1, y.2.2), W.wrap IntKind.i64 (W.mul 8 (W.wrap IntKind.i64 (W.quo x2 8))), W.wrap IntKind.i64 (W.mul 8 (W.wrap IntKind.i64 (W.quo x2 8))), 8) fun y =>
                          br (W.not (W.not y.2))
                            (F_clevisref08Any Unit () fun y_4 =>
                              br
                                (W.pick false true
                                  (W.and2 (W.eq y.1.1 1)
                                    (W.and2 (W.eq y.1.2.1.1 y_4.1)
                                      (W.and2 (W.eq y.1.2.1.2.1 y_4.2.1)
                                        (W.and2 (W.eq y.1.2.1.2.2.1 y_4.2.2.1)
                                          (W.and2 (W.eq y.1.2.1.2.2.2.1 y_4.2.2.2.1)
                                            (W.and2 (W.eq y.1.2.1.2.2.2.2.1 y_4.2.2.2.2.1) (W.and2 (W.eq y.1.2.1.2.2.2.2.2 y_4.2.2.2.2.2) (W.and2 (W.eq y.1.2.2 0) true)))))))))
                                (F_clevislaw11heads Unit () fun y => br (W.pick true y false) (some ()) none) none)
                            (F_clevislaw11heads Unit () fun y => br (W.pick true y false) (some ()) none)))
                    none))
theorem E_clevislaw11StateSmall {F_state_Check : FT ps_state_Check qs_state_Check} {F_clevisref11Right : FT ps_clevisref11Right qs_clevisref11Right} {F_state_Store : FT ps_state_Store qs_state_Store} {F_state_Load : FT ps_state_Load qs_state_Load} {F_clevislaw11heads : FT ps_clevislaw11heads qs_clevislaw11heads} {F_clevisref08Any : FT ps_clevisref08Any qs_clevisref08Any} {F_clevisref08Size : FT ps_clevisref08Size qs_clevisref08Size} (h_state_Check : SpecOk Try.prog 8 (mkS ps_state_Check qs_state_Check F_state_Check)) (h_clevisref11Right : SpecOk Try.prog 9 (mkS ps_clevisref11Right qs_clevisref11Right F_clevisref11Right)) (h_state_Store : SpecOk Try.prog 11 (mkS ps_state_Store qs_state_Store F_state_Store)) (h_state_Load : SpecOk Try.prog 12 (mkS ps_state_Load qs_state_Load F_state_Load)) (h_clevislaw11heads : SpecOk Try.prog 10 (mkS ps_clevislaw11heads qs_clevislaw11heads F_clevislaw11heads)) (h_clevisref08Any : SpecOk Try.prog 14 (mkS ps_clevisref08Any qs_clevisref08Any F_clevisref08Any)) (h_clevisref08Size : SpecOk Try.prog 13 (mkS ps_clevisref08Size qs_clevisref08Size F_clevisref08Size)) (x : PTs.D ps_clevislaw11StateSmall) (hL : L_clevislaw11StateSmall F_state_Check F_clevisref11Right F_state_Store F_state_Load F_clevislaw11heads F_clevisref08Any F_clevisref08Size x = some ()) :
    ∃ (C : Cfg) (fl d : Nat), CfgOk C ∧ C.P = Try.prog ∧ call C fl d 3 (encL false ps_clevislaw11StateSmall x) [] getL = some () :=
  ⟨_, 10, 12, (cfgOk_cons (cfgOk_cons (cfgOk_cons (cfgOk_cons (cfgOk_cons (cfgOk_cons (cfgOk_cons base h_clevisref08Size) h_clevisref08Any) h_clevislaw11heads) h_state_Load) h_state_Store) h_clevisref11Right) h_state_Check), rfl, (show _ = L_clevislaw11StateSmall F_state_Check F_clevisref11Right F_state_Store F_state_Load F_clevislaw11heads F_clevisref08Any F_clevisref08Size x by obtain ⟨⟨x0Regs, x0Set, x0Saved⟩, ⟨x1Kind, ⟨x1Num_Umin, x1Num_Umax, x1Num_Smin, x1Num_Smax, ⟨x1Num_Bits_Value, x1Num_Bits_Mask⟩⟩, x1Region⟩, x2, x3⟩ := x; kernel_rfl).trans hL⟩
abbrev ps_clevislaw11StateBack : List PT := [.agg ((.prod (.slice ((.prod (.int .i64) (.prod ((.prod (.int .u64) (.prod (.int .u64) (.prod (.int .i64) (.prod (.int .i64) ((.prod (.int .u64) (.int .u64)))))))) (.int .i64))))) (.prod (.slice (.bool)) (.slice ((.prod (.int .i64) (.prod ((.prod (.int .u64) (.prod (.int .u64) (.prod (.int .i64) (.prod (.int .i64) ((.prod (.int .u64) (.int .u64)))))))) (.int .i64)))))))), .agg ((.prod (.int .i64) (.prod ((.prod (.int .u64) (.prod (.int .u64) (.prod (.int .i64) (.prod (.int .i64) ((.prod (.int .u64) (.int .u64)))))))) (.int .i64)))), .one (.int .i64), .one (.int .i64)]
noncomputable def L_clevislaw11StateBack (F_state_Check : FT ps_state_Check qs_state_Check) (F_clevisref11Right : FT ps_clevisref11Right qs_clevisref11Right) (F_state_Store : FT ps_state_Store qs_state_Store) (F_state_Load : FT ps_state_Load qs_state_Load) (F_clevislaw11heads : FT ps_clevislaw11heads qs_clevislaw11heads) (F_clevisref08Any : FT ps_clevisref08Any qs_clevisref08Any)  (x : PTs.D ps_clevislaw11StateBack) : Option Unit := match x with
  | ((x0Regs, x0Set, x0Saved), (x1Kind, (x1Num_Umin, x1Num_Umax, x1Num_Smin, x1Num_Smax, (x1Num_Bits_Value, x1Num_Bits_Mask)), x1Region), x2, x3) => 
      F_state_Check Unit (x0Regs, x0Set, x0Saved) fun y =>
        br (W.not (W.not y))
          (F_clevisref11Right Unit (x1Kind, (x1Num_Umin, x1Num_Umax, x1Num_Smin, x1Num_Smax, x1Num_Bits_Value, x1Num_Bits_Mask), x1Region) fun y =>
            br (W.pick (W.pick (W.pick (W.pick (W.pick (W.pick false true (W.not y)) true (W.lt x2 0)) true (W.gt x2 63)) true (W.lt x3 0)) true (W.gt x3 63)) true (W.eq x3 x2))
              (F_clevislaw11heads Unit () fun y => br y (some ()) none)
              (F_state_Store Unit
                ((x0Regs, x0Set, x0Saved), W.wrap IntKind.i64 (W.mul 8 x2), W.wrap IntKind.i64 (W.mul 8 x2), 8, x1Kind,
                  (x1Num_Umin, x1Num_Umax, x1Num_Smin, x1Num_Smax, x1Num_Bits_Value, x1Num_Bits_Mask), x1Region)
                fun y =>
                F_state_Load Unit ((y.1, y.2.1, y.2.2), W.wrap IntKind.i64 (W.mul 8 x2), W.wrap IntKind.i64 (W.mul 8 x2), 8) fun y_1 =>
                  F_state_Load Unit ((y.1, y.2.1, y.2.2), W.wrap IntKind.i64 (W.mul 8 x3), W.wrap IntKind.i64 (W.mul 8 x3), 8) fun y_2 =>
                    F_state_Load Unit ((x0Regs, x0Set, x0Saved), W.wrap IntKind.i64 (W.mul 8 x3), W.wrap IntKind.i64 (W.mul 8 x3), 8) fun y_3 =>
                      br (W.eq x1Kind 0)
                        (F_clevisref08Any Unit () fun y_4 =>
                          F_state_Check Unit (y.1, y.2.1, y.2.2) fun y =>
                            br
                              (W.pick
                                (W.pick
                                  (W.pick (W.pick y y_1.2 false)
                                    (W.and2 (W.eq y_1.1.1 1)
                                      (W.and2 (W.eq y_1.1.2.1.1 y_4.1)
                                        (W.and2 (W.eq y_1.1.2.1.2.1 y_4.2.1)
                                          (W.and2 (W.eq y_1.1.2.1.2.2.1 y_4.2.2.1)
                                            (W.and2 (W.eq y_1.1.2.1.2.2.2.1 y_4.2.2.2.1)
                                              (W.and2 (W.eq y_1.1.2.1.2.2.2.2.1 y_4.2.2.2.2.1) (W.and2 (W.eq y_1.1.2.1.2.2.2.2.2 y_4.2.2.2.2.2) (W.and2 (W.eq y_1.1.2.2 0) true))))))))
                                    false)
                                  (W.and2 (W.eq y_2.1.1 y_3.1.1)
                                    (W.and2 (W.eq y_2.1.2.1.1 y_3.1.2.1.1)
                                      (W.and2 (W.eq y_2.1.2.1.2.1 y_3.1.2.1.2.1)
                                        (W.and2 (W.eq y_2.1.2.1.2.2.1 y_3.1.2.1.2.2.1)
                                          (W.and2 (W.eq y_2.1.2.1.2.2.2.1 y_3.1.2.1.2.2.2.1)
                                            (W.and2 (W.eq y_2.1.2.1.2.2.2.2.1 y_3.1.2.1.2.2.2.2.1) (W.and2 (W.eq y_2.1.2.1.2.2.2.2.2 y_3.1.2.1.2.2.2.2.2) (W.and2 (W.eq y_2.1.2.2 y_3.1.2.2) true))))))))
                                  false)
                                (W.eqB y_2.2 y_3.2) false)
                              (F_clevislaw11heads Unit () fun y => br (W.pick true y false) (some ()) none) none)
                        (F_state_Check Unit (y.1, y.2.1, y.2.2) fun y =>
                          br
                            (W.pick
                              (W.pick
                                (W.pick (W.pick y y_1.2 false)
                                  (W.and2 (W.eq y_1.1.1 x1Kind)
                                    (W.and2 (W.eq y_1.1.2.1.1 x1Num_Umin)
                                      (W.and2 (W.eq y_1.1.2.1.2.1 x1Num_Umax)
                                        (W.and2 (W.eq y_1.1.2.1.2.2.1 x1Num_Smin)
                                          (W.and2 (W.eq y_1.1.2.1.2.2.2.1 x1Num_Smax)
                                            (W.and2 (W.eq y_1.1.2.1.2.2.2.2.1 x1Num_Bits_Value) (W.and2 (W.eq y_1.1.2.1.2.2.2.2.2 x1Num_Bits_Mask) (W.and2 (W.eq y_1.1.2.2 x1Region) true))))))))
                                  false)
                                (W.and2 (W.eq y_2.1.1 y_3.1.1)
                                  (W.and2 (W.eq y_2.1.2.1.1 y_3.1.2.1.1)
                                    (W.and2 (W.eq y_2.1.2.1.2.1 y_3.1.2.1.2.1)
                                      (W.and2 (W.eq y_2.1.2.1.2.2.1 y_3.1.2.1.2.2.1)
                                        (W.and2 (W.eq y_2.1.2.1.2.2.2.1 y_3.1.2.1.2.2.2.1)
                                          (W.and2 (W.eq y_2.1.2.1.2.2.2.2.1 y_3.1.2.1.2.2.2.2.1) (W.and2 (W.eq y_2.1.2.1.2.2.2.2.2 y_3.1.2.1.2.2.2.2.2) (W.and2 (W.eq y_2.1.2.2 y_3.1.2.2) true))))))))
                                false)
                              (W.eqB y_2.2 y_3.2) false)
                            (F_clevislaw11heads Unit () fun y => br (W.pick true y false) (some ()) none) none)))
          (br (W.pick (W.pick (W.pick (W.pick (W.pick true true (W.lt x2 0)) true (W.gt x2 63)) true (W.lt x3 0)) true (W.gt x3 63)) true (W.eq x3 x2))
            (F_clevislaw11heads Unit () fun y => br y (some ()) none)
            (F_state_Store Unit
              ((x0Regs, x0Set, x0Saved), W.wrap IntKind.i64 (W.mul 8 x2), W.wrap IntKind.i64 (W.mul 8 x2), 8, x1Kind,
                (x1Num_Umin, x1Num_Umax, x1Num_Smin, x1Num_Smax, x1Num_Bits_Value, x1Num_Bits_Mask), x1Region)
              fun y =>
              F_state_Load Unit ((y.1, y.2.1, y.2.2), W.wrap IntKind.i64 (W.mul 8 x2), W.wrap IntKind.i64 (W.mul 8 x2), 8) fun y_1 =>
                F_state_Load Unit ((y.1, y.2.1, y.2.2), W.wrap IntKind.i64 (W.mul 8 x3), W.wrap IntKind.i64 (W.mul 8 x3), 8) fun y_2 =>
                  F_state_Load Unit ((x0Regs, x0Set, x0Saved), W.wrap IntKind.i64 (W.mul 8 x3), W.wrap IntKind.i64 (W.mul 8 x3), 8) fun y_3 =>
                    br (W.eq x1Kind 0)
                      (F_clevisref08Any Unit () fun y_4 =>
                        F_state_Check Unit (y.1, y.2.1, y.2.2) fun y =>
                          br
                            (W.pick
                              (W.pick
                                (W.pick (W.pick y y_1.2 false)
                                  (W.and2 (W.eq y_1.1.1 1)
                                    (W.and2 (W.eq y_1.1.2.1.1 y_4.1)
                                      (W.and2 (W.eq y_1.1.2.1.2.1 y_4.2.1)
                                        (W.and2 (W.eq y_1.1.2.1.2.2.1 y_4.2.2.1)
                                          (W.and2 (W.eq y_1.1.2.1.2.2.2.1 y_4.2.2.2.1)
                                            (W.and2 (W.eq y_1.1.2.1.2.2.2.2.1 y_4.2.2.2.2.1) (W.and2 (W.eq y_1.1.2.1.2.2.2.2.2 y_4.2.2.2.2.2) (W.and2 (W.eq y_1.1.2.2 0) true))))))))
                                  false)
                                (W.and2 (W.eq y_2.1.1 y_3.1.1)
                                  (W.and2 (W.eq y_2.1.2.1.1 y_3.1.2.1.1)
                                    (W.and2 (W.eq y_2.1.2.1.2.1 y_3.1.2.1.2.1)
                                      (W.and2 (W.eq y_2.1.2.1.2.2.1 y_3.1.2.1.2.2.1)
                                        (W.and2 (W.eq y_2.1.2.1.2.2.2.1 y_3.1.2.1.2.2.2.1)
                                          (W.and2 (W.eq y_2.1.2.1.2.2.2.2.1 y_3.1.2.1.2.2.2.2.1) (W.and2 (W.eq y_2.1.2.1.2.2.2.2.2 y_3.1.2.1.2.2.2.2.2) (W.and2 (W.eq y_2.1.2.2 y_3.1.2.2) true))))))))
                                false)
                              (W.eqB y_2.2 y_3.2) false)
                            (F_clevislaw11heads Unit () fun y => br (W.pick true y false) (some ()) none) none)
                      (F_state_Check Unit (y.1, y.2.1, y.2.2) fun y =>
                        br
                          (W.pick
                            (W.pick
                              (W.pick (W.pick y y_1.2 false)
                                (W.and2 (W.eq y_1.1.1 x1Kind)
                                  (W.and2 (W.eq y_1.1.2.1.1 x1Num_Umin)
                                    (W.and2 (W.eq y_1.1.2.1.2.1 x1Num_Umax)
                                      (W.and2 (W.eq y_1.1.2.1.2.2.1 x1Num_Smin)
                                        (W.and2 (W.eq y_1.1.2.1.2.2.2.1 x1Num_Smax)
                                          (W.and2 (W.eq y_1.1.2.1.2.2.2.2.1 x1Num_Bits_Value) (W.and2 (W.eq y_1.1.2.1.2.2.2.2.2 x1Num_Bits_Mask) (W.and2 (W.eq y_1.1.2.2 x1Region) true))))))))
                                false)
                              (W.and2 (W.eq y_2.1.1 y_3.1.1)
                                (W.and2 (W.eq y_2.1.2.1.1 y_3.1.2.1.1)
                                  (W.and2 (W.eq y_2.1.2.1.2.1 y_3.1.2.1.2.1)
                                    (W.and2 (W.eq y_2.1.2.1.2.2.1 y_3.1.2.1.2.2.1)
                                      (W.and2 (W.eq y_2.1.2.1.2.2.2.1 y_3.1.2.1.2.2.2.1)
                                        (W.and2 (W.eq y_2.1.2.1.2.2.2.2.1 y_3.1.2.1.2.2.2.2.1) (W.and2 (W.eq y_2.1.2.1.2.2.2.2.2 y_3.1.2.1.2.2.2.2.2) (W.and2 (W.eq y_2.1.2.2 y_3.1.2.2) true))))))))
                              false)
                            (W.eqB y_2.2 y_3.2) false)
                          (F_clevislaw11heads Unit () fun y => br (W.pick true y false) (some ()) none) none)))
theorem E_clevislaw11StateBack {F_state_Check : FT ps_state_Check qs_state_Check} {F_clevisref11Right : FT ps_clevisref11Right qs_clevisref11Right} {F_state_Store : FT ps_state_Store qs_state_Store} {F_state_Load : FT ps_state_Load qs_state_Load} {F_clevislaw11heads : FT ps_clevislaw11heads qs_clevislaw11heads} {F_clevisref08Any : FT ps_clevisref08Any qs_clevisref08Any} (h_state_Check : SpecOk Try.prog 8 (mkS ps_state_Check qs_state_Check F_state_Check)) (h_clevisref11Right : SpecOk Try.prog 9 (mkS ps_clevisref11Right qs_clevisref11Right F_clevisref11Right)) (h_state_Store : SpecOk Try.prog 11 (mkS ps_state_Store qs_state_Store F_state_Store)) (h_state_Load : SpecOk Try.prog 12 (mkS ps_state_Load qs_state_Load F_state_Load)) (h_clevislaw11heads : SpecOk Try.prog 10 (mkS ps_clevislaw11heads qs_clevislaw11heads F_clevislaw11heads)) (h_clevisref08Any : SpecOk Try.prog 14 (mkS ps_clevisref08Any qs_clevisref08Any F_clevisref08Any)) (x : PTs.D ps_clevislaw11StateBack) (hL : L_clevislaw11StateBack F_state_Check F_clevisref11Right F_state_Store F_state_Load F_clevislaw11heads F_clevisref08Any x = some ()) :
    ∃ (C : Cfg) (fl d : Nat), CfgOk C ∧ C.P = Try.prog ∧ call C fl d 4 (encL false ps_clevislaw11StateBack x) [] getL = some () :=
  ⟨_, 10, 12, (cfgOk_cons (cfgOk_cons (cfgOk_cons (cfgOk_cons (cfgOk_cons (cfgOk_cons base h_clevisref08Any) h_clevislaw11heads) h_state_Load) h_state_Store) h_clevisref11Right) h_state_Check), rfl, (show _ = L_clevislaw11StateBack F_state_Check F_clevisref11Right F_state_Store F_state_Load F_clevislaw11heads F_clevisref08Any x by obtain ⟨⟨x0Regs, x0Set, x0Saved⟩, ⟨x1Kind, ⟨x1Num_Umin, x1Num_Umax, x1Num_Smin, x1Num_Smax, ⟨x1Num_Bits_Value, x1Num_Bits_Mask⟩⟩, x1Region⟩, x2, x3⟩ := x; kernel_rfl).trans hL⟩
abbrev ps_clevislaw11StateOrder : List PT := [.agg ((.prod (.slice ((.prod (.int .i64) (.prod ((.prod (.int .u64) (.prod (.int .u64) (.prod (.int .i64) (.prod (.int .i64) ((.prod (.int .u64) (.int .u64)))))))) (.int .i64))))) (.prod (.slice (.bool)) (.slice ((.prod (.int .i64) (.prod ((.prod (.int .u64) (.prod (.int .u64) (.prod (.int .i64) (.prod (.int .i64) ((.prod (.int .u64) (.int .u64)))))))) (.int .i64)))))))), .agg ((.prod (.slice ((.prod (.int .i64) (.prod ((.prod (.int .u64) (.prod (.int .u64) (.prod (.int .i64) (.prod (.int .i64) ((.prod (.int .u64) (.int .u64)))))))) (.int .i64))))) (.prod (.slice (.bool)) (.slice ((.prod (.int .i64) (.prod ((.prod (.int .u64) (.prod (.int .u64) (.prod (.int .i64) (.prod (.int .i64) ((.prod (.int .u64) (.int .u64)))))))) (.int .i64)))))))), .agg ((.prod (.slice ((.prod (.int .i64) (.prod ((.prod (.int .u64) (.prod (.int .u64) (.prod (.int .i64) (.prod (.int .i64) ((.prod (.int .u64) (.int .u64)))))))) (.int .i64))))) (.prod (.slice (.bool)) (.slice ((.prod (.int .i64) (.prod ((.prod (.int .u64) (.prod (.int .u64) (.prod (.int .i64) (.prod (.int .i64) ((.prod (.int .u64) (.int .u64)))))))) (.int .i64))))))))]
noncomputable def L_clevislaw11StateOrder (F_state_Check : FT ps_state_Check qs_state_Check) (F_state_Within : FT ps_state_Within qs_state_Within) (F_clevislaw11heads : FT ps_clevislaw11heads qs_clevislaw11heads)  (x : PTs.D ps_clevislaw11StateOrder) : Option Unit := match x with
  | ((x0Regs, x0Set, x0Saved), (x1Regs, x1Set, x1Saved), (x2Regs, x2Set, x2Saved)) => 
      F_state_Check Unit (x0Regs, x0Set, x0Saved) fun y =>
        br (W.not y)
          (F_state_Within Unit ((x0Regs, x0Set, x0Saved), x1Regs, x1Set, x1Saved) fun y =>
            br (W.not y) (F_clevislaw11heads Unit () fun y => br (W.pick true y false) (some ()) none) none)
          (F_state_Within Unit ((x0Regs, x0Set, x0Saved), x0Regs, x0Set, x0Saved) fun y =>
            br y
              (F_state_Within Unit ((x0Regs, x0Set, x0Saved), x1Regs, x1Set, x1Saved) fun y =>
                br (W.and2 true (W.not (W.not y)))
                  (F_state_Within Unit ((x1Regs, x1Set, x1Saved), x2Regs, x2Set, x2Saved) fun y_1 =>
                    br (W.and2 true (W.not (W.pick (W.not y) true (W.not y_1))))
                      (F_state_Within Unit ((x0Regs, x0Set, x0Saved), x2Regs, x2Set, x2Saved) fun y_2 =>
                        br (W.pick true (W.pick (W.pick (W.not y) true (W.not y_1)) true y_2) false) (F_clevislaw11heads Unit () fun y => br (W.pick true y false) (some ()) none) none)
                      (br (W.pick (W.not y) true (W.not y_1)) (F_clevislaw11heads Unit () fun y => br (W.pick true y false) (some ()) none) none))
                  (br (W.and2 true (W.not (W.not y))) none (br (W.not y) (F_clevislaw11heads Unit () fun y => br (W.pick true y false) (some ()) none) none)))
              none)
theorem E_clevislaw11StateOrder {F_state_Check : FT ps_state_Check qs_state_Check} {F_state_Within : FT ps_state_Within qs_state_Within} {F_clevislaw11heads : FT ps_clevislaw11heads qs_clevislaw11heads} (h_state_Check : SpecOk Try.prog 8 (mkS ps_state_Check qs_state_Check F_state_Check)) (h_state_Within : SpecOk Try.prog 15 (mkS ps_state_Within qs_state_Within F_state_Within)) (h_clevislaw11heads : SpecOk Try.prog 10 (mkS ps_clevislaw11heads qs_clevislaw11heads F_clevislaw11heads)) (x : PTs.D ps_clevislaw11StateOrder) (hL : L_clevislaw11StateOrder F_state_Check F_state_Within F_clevislaw11heads x = some ()) :
    ∃ (C : Cfg) (fl d : Nat), CfgOk C ∧ C.P = Try.prog ∧ call C fl d 5 (encL false ps_clevislaw11StateOrder x) [] getL = some () :=
  ⟨_, 10, 12, (cfgOk_cons (cfgOk_cons (cfgOk_cons base h_clevislaw11heads) h_state_Within) h_state_Check), rfl, (show _ = L_clevislaw11StateOrder F_state_Check F_state_Within F_clevislaw11heads x by obtain ⟨⟨x0Regs, x0Set, x0Saved⟩, ⟨x1Regs, x1Set, x1Saved⟩, ⟨x2Regs, x2Set, x2Saved⟩⟩ := x; kernel_rfl).trans hL⟩
abbrev ps_clevislaw11StateHolds : List PT := [.agg ((.prod (.slice ((.prod (.int .i64) (.prod ((.prod (.int .u64) (.prod (.int .u64) (.prod (.int .i64) (.prod (.int .i64) ((.prod (.int .u64) (.int .u64)))))))) (.int .i64))))) (.prod (.slice (.bool)) (.slice ((.prod (.int .i64) (.prod ((.prod (.int .u64) (.prod (.int .u64) (.prod (.int .i64) (.prod (.int .i64) ((.prod (.int .u64) (.int .u64)))))))) (.int .i64)))))))), .agg ((.prod (.slice ((.prod (.int .i64) (.prod ((.prod (.int .u64) (.prod (.int .u64) (.prod (.int .i64) (.prod (.int .i64) ((.prod (.int .u64) (.int .u64)))))))) (.int .i64))))) (.prod (.slice (.bool)) (.slice ((.prod (.int .i64) (.prod ((.prod (.int .u64) (.prod (.int .u64) (.prod (.int .i64) (.prod (.int .i64) ((.prod (.int .u64) (.int .u64)))))))) (.int .i64)))))))), .one (.int .i64), .one (.int .u64)]
noncomputable def L_clevislaw11StateHolds (F_state_Within : FT ps_state_Within qs_state_Within) (F_state_Holds : FT ps_state_Holds qs_state_Holds) (F_clevislaw11heads : FT ps_clevislaw11heads qs_clevislaw11heads)  (x : PTs.D ps_clevislaw11StateHolds) : Option Unit := match x with
  | ((x0Regs, x0Set, x0Saved), (x1Regs, x1Set, x1Saved), x2, x3) => 
      F_state_Within Unit ((x0Regs, x0Set, x0Saved), x1Regs, x1Set, x1Saved) fun y =>
        br (W.pick (W.pick (W.not y) true (W.lt x2 0)) true (W.ge x2 11)) (F_clevislaw11heads Unit () fun y => br y (some ()) none)
          (br (W.and2 (W.le 0 x2) (W.lt x2 (W.ofNat (W.len x1Regs))))
            (br (W.or2 (W.not (W.not (W.eq (W.get x1Regs (W.toNat x2) (0, (0, 0, 0, 0, 0, 0), 0)).1 0))) (W.and2 (W.le 0 x2) (W.lt x2 (W.ofNat (W.len x1Regs)))))
              (br (W.not (W.eq (W.get x1Regs (W.toNat x2) (0, (0, 0, 0, 0, 0, 0), 0)).1 0))
                (F_state_Holds Unit
                  (((W.get x1Regs (W.toNat x2) (0, (0, 0, 0, 0, 0, 0), 0)).1,
                      ((W.get x1Regs (W.toNat x2) (0, (0, 0, 0, 0, 0, 0), 0)).2.1.1, (W.get x1Regs (W.toNat x2) (0, (0, 0, 0, 0, 0, 0), 0)).2.1.2.1,
                        (W.get x1Regs (W.toNat x2) (0, (0, 0, 0, 0, 0, 0), 0)).2.1.2.2.1, (W.get x1Regs (W.toNat x2) (0, (0, 0, 0, 0, 0, 0), 0)).2.1.2.2.2.1,
                        (W.get x1Regs (W.toNat x2) (0, (0, 0, 0, 0, 0, 0), 0)).2.1.2.2.2.2.1, (W.get x1Regs (W.toNat x2) (0, (0, 0, 0, 0, 0, 0), 0)).2.1.2.2.2.2.2),
                      (W.get x1Regs (W.toNat x2) (0, (0, 0, 0, 0, 0, 0), 0)).2.2),
                    x3)
                  fun y =>
                  br (W.or2 (W.not (W.not (W.pick false true (W.not y)))) (W.and2 (W.le 0 x2) (W.lt x2 (W.ofNat (W.len x0Regs)))))
                    (br (W.not (W.pick false true (W.not y)))
                      (F_state_Holds Unit
                        (((W.get x0Regs (W.toNat x2) (0, (0, 0, 0, 0, 0, 0), 0)).1,
                            ((W.get x0Regs (W.toNat x2) (0, (0, 0, 0, 0, 0, 0), 0)).2.1.1, (W.get x0Regs (W.toNat x2) (0, (0, 0, 0, 0, 0, 0), 0)).2.1.2.1,
                              (W.get x0Regs (W.toNat x2) (0, (0, 0, 0, 0, 0, 0), 0)).2.1.2.2.1, (W.get x0Regs (W.toNat x2) (0, (0, 0, 0, 0, 0, 0), 0)).2.1.2.2.2.1,
                              (W.get x0Regs (W.toNat x2) (0, (0, 0, 0, 0, 0, 0), 0)).2.1.2.2.2.2.1, (W.get x0Regs (W.toNat x2) (0, (0, 0, 0, 0, 0, 0), 0)).2.1.2.2.2.2.2),
                            (W.get x0Regs (W.toNat x2) (0, (0, 0, 0, 0, 0, 0), 0)).2.2),
                          x3)
                        fun y => br (W.pick false true y) (F_clevislaw11heads Unit () fun y => br (W.pick true y false) (some ()) none) none)
                      (F_clevislaw11heads Unit () fun y => br (W.pick true y false) (some ()) none))
                    none)
                (br (W.or2 true (W.and2 (W.le 0 x2) (W.lt x2 (W.ofNat (W.len x0Regs))))) (F_clevislaw11heads Unit () fun y => br (W.pick true y false) (some ()) none) none))
              none)
            none)
theorem E_clevislaw11StateHolds {F_state_Within : FT ps_state_Within qs_state_Within} {F_state_Holds : FT ps_state_Holds qs_state_Holds} {F_clevislaw11heads : FT ps_clevislaw11heads qs_clevislaw11heads} (h_state_Within : SpecOk Try.prog 15 (mkS ps_state_Within qs_state_Within F_state_Within)) (h_state_Holds : SpecOk Try.prog 16 (mkS ps_state_Holds qs_state_Holds F_state_Holds)) (h_clevislaw11heads : SpecOk Try.prog 10 (mkS ps_clevislaw11heads qs_clevislaw11heads F_clevislaw11heads)) (x : PTs.D ps_clevislaw11StateHolds) (hL : L_clevislaw11StateHolds F_state_Within F_state_Holds F_clevislaw11heads x = some ()) :
    ∃ (C : Cfg) (fl d : Nat), CfgOk C ∧ C.P = Try.prog ∧ call C fl d 6 (encL false ps_clevislaw11StateHolds x) [] getL = some () :=
  ⟨_, 10, 12, (cfgOk_cons (cfgOk_cons (cfgOk_cons base h_clevislaw11heads) h_state_Holds) h_state_Within), rfl, (show _ = L_clevislaw11StateHolds F_state_Within F_state_Holds F_clevislaw11heads x by obtain ⟨⟨x0Regs, x0Set, x0Saved⟩, ⟨x1Regs, x1Set, x1Saved⟩, x2, x3⟩ := x; kernel_rfl).trans hL⟩
abbrev ps_clevisref11set : List PT := [.agg ((.prod (.slice ((.prod (.int .i64) (.prod ((.prod (.int .u64) (.prod (.int .u64) (.prod (.int .i64) (.prod (.int .i64) ((.prod (.int .u64) (.int .u64)))))))) (.int .i64))))) (.prod (.slice (.bool)) (.slice ((.prod (.int .i64) (.prod ((.prod (.int .u64) (.prod (.int .u64) (.prod (.int .i64) (.prod (.int .i64) ((.prod (.int .u64) (.int .u64)))))))) (.int .i64)))))))), .one (.int .i64), .one (.int .i64)]
abbrev qs_clevisref11set : List PT := [.one (.bool)]
noncomputable def PL_clevisref11set_2_0  (fl : Nat)  (R : Type) (k : PTs.D qs_clevisref11set → Option R) : LoopI R :=
  locate (Cw Try.prog [] noH) fl (call (Cw Try.prog [] noH) fl 11) 0 48 2 [] (getR qs_clevisref11set k)
noncomputable def P_clevisref11set_2_0  (fl : Nat)  (n : Nat) (R : Type) (y0 : Int) (y1 : Int) (y2 : List (Int × (Int × Int × Int × Int × Int × Int) × Int)) (y3 : List Bool) (y4 : List (Int × (Int × Int × Int × Int × Int × Int) × Int)) (k : PTs.D qs_clevisref11set → Option R) : Option R :=
  loopH (PL_clevisref11set_2_0  fl  R k).body (PL_clevisref11set_2_0  fl  R k).head n (some (
      S.mk [V.any, V.any, V.int IntKind.i64 y0, V.ptr 0 0, V.any, V.any, V.any, V.int IntKind.i64 y1, V.any, V.any, V.any, V.any, V.any, V.any, V.any, V.any, V.any, V.any, V.any, V.any] []
        [Blk.cells
            [V.ro true
                (Ty.prod (Ty.int IntKind.i64)
                  (Ty.prod (Ty.prod (Ty.int IntKind.u64) (Ty.prod (Ty.int IntKind.u64) (Ty.prod (Ty.int IntKind.i64) (Ty.prod (Ty.int IntKind.i64) (Ty.prod (Ty.int IntKind.u64) (Ty.int IntKind.u64))))))
                    (Ty.int IntKind.i64)))
                y2,
              V.ro true Ty.bool y3,
              V.ro true
                (Ty.prod (Ty.int IntKind.i64)
                  (Ty.prod (Ty.prod (Ty.int IntKind.u64) (Ty.prod (Ty.int IntKind.u64) (Ty.prod (Ty.int IntKind.i64) (Ty.prod (Ty.int IntKind.i64) (Ty.prod (Ty.int IntKind.u64) (Ty.int IntKind.u64))))))
                    (Ty.int IntKind.i64)))
                y4]])) (PL_clevisref11set_2_0  fl  R k).kont
theorem P_clevisref11set_2_0_s  (fl : Nat)  (n : Nat) (R : Type) (y0 : Int) (y1 : Int) (y2 : List (Int × (Int × Int × Int × Int × Int × Int) × Int)) (y3 : List Bool) (y4 : List (Int × (Int × Int × Int × Int × Int × Int) × Int)) (k : PTs.D qs_clevisref11set → Option R) : P_clevisref11set_2_0  fl  (n + 1) R y0 y1 y2 y3 y4 k =
      br (W.lt y1 y0) (br (W.and2 (W.le 0 y1) (W.lt y1 (W.ofNat (W.len y3)))) (br (W.not (W.get y3 (W.toNat y1) false)) (k false) (P_clevisref11set_2_0 fl n R y0 (W.wrap IntKind.i64 (W.add y1 1)) y2 y3 y4 k)) none)
        (k true) := by kernel_rfl
noncomputable def N_clevisref11set  (fl : Nat) : FT ps_clevisref11set qs_clevisref11set := fun R x k => match x with
  | ((x0Regs, x0Set, x0Saved), x1, x2) => 
      P_clevisref11set_2_0 fl fl R x2 x1 x0Regs x0Set x0Saved k
theorem Q_clevisref11set  (fl : Nat) (R : Type) (x : PTs.D ps_clevisref11set) (k : PTs.D qs_clevisref11set → Option R) : call (Cw Try.prog [] noH) fl 12 48 (encL true ps_clevisref11set x) [] (getR qs_clevisref11set k) = N_clevisref11set  fl R x k := by
  obtain ⟨⟨x0Regs, x0Set, x0Saved⟩, x1, x2⟩ := x; kernel_rfl
theorem S_clevisref11set   : SpecOk Try.prog 48 (mkS ps_clevisref11set qs_clevisref11set (N_clevisref11set  W.big)) :=
  specOk_mk (fl := W.big) (d := 12) base (fun R x k => Q_clevisref11set W.big R x k)
noncomputable def F_clevisref11set : FT ps_clevisref11set qs_clevisref11set := N_clevisref11set  W.big
theorem ok_clevisref11set : SpecOk Try.prog 48 (mkS ps_clevisref11set qs_clevisref11set F_clevisref11set) := S_clevisref11set 
abbrev ps_clevisref11Check : List PT := [.agg ((.prod (.slice ((.prod (.int .i64) (.prod ((.prod (.int .u64) (.prod (.int .u64) (.prod (.int .i64) (.prod (.int .i64) ((.prod (.int .u64) (.int .u64)))))))) (.int .i64))))) (.prod (.slice (.bool)) (.slice ((.prod (.int .i64) (.prod ((.prod (.int .u64) (.prod (.int .u64) (.prod (.int .i64) (.prod (.int .i64) ((.prod (.int .u64) (.int .u64)))))))) (.int .i64))))))))]
abbrev qs_clevisref11Check : List PT := [.one (.bool)]
noncomputable def PL_clevisref11Check_4_0 (F_clevisref11Right : FT ps_clevisref11Right qs_clevisref11Right) (F_clevisref11set : FT ps_clevisref11set qs_clevisref11set) (fl : Nat)  (R : Type) (k : PTs.D qs_clevisref11Check → Option R) : LoopI R :=
  locate (Cw Try.prog [(9, mkS ps_clevisref11Right qs_clevisref11Right F_clevisref11Right), (48, mkS ps_clevisref11set qs_clevisref11set F_clevisref11set)] noH) fl (call (Cw Try.prog [(9, mkS ps_clevisref11Right qs_clevisref11Right F_clevisref11Right), (48, mkS ps_clevisref11set qs_clevisref11set F_clevisref11set)] noH) fl 11) 0 46 4 [] (getR qs_clevisref11Check k)
noncomputable def P_clevisref11Check_4_0 (F_clevisref11Right : FT ps_clevisref11Right qs_clevisref11Right) (F_clevisref11set : FT ps_clevisref11set qs_clevisref11set) (fl : Nat)  (n : Nat) (R : Type) (y0 : Int) (y1 : List (Int × (Int × Int × Int × Int × Int × Int) × Int)) (y2 : List Bool) (y3 : List (Int × (Int × Int × Int × Int × Int × Int) × Int)) (k : PTs.D qs_clevisref11Check → Option R) : Option R :=
  loopH (PL_clevisref11Check_4_0 F_clevisref11Right F_clevisref11set fl  R k).body (PL_clevisref11Check_4_0 F_clevisref11Right F_clevisref11set fl  R k).head n (some (
      S.mk
        [V.any, V.ptr 0 0, V.any, V.int IntKind.i64 y0, V.any, V.any, V.any, V.any, V.any, V.any, V.any, V.any, V.any, V.any, V.any, V.any, V.any, V.any, V.any, V.any, V.any, V.any, V.any, V.any, V.any,
          V.any, V.any, V.any, V.any, V.any, V.any, V.any, V.any, V.any, V.any, V.any, V.any, V.any, V.any, V.any, V.any, V.any, V.any, V.any, V.any, V.any, V.any, V.any, V.any, V.any, V.any, V.any, V.any,
          V.any, V.any, V.any, V.any, V.any, V.any, V.any, V.any, V.any, V.any, V.any, V.any]
        []
        [Blk.cells
            [V.ro true
                (Ty.prod (Ty.int IntKind.i64)
                  (Ty.prod (Ty.prod (Ty.int IntKind.u64) (Ty.prod (Ty.int IntKind.u64) (Ty.prod (Ty.int IntKind.i64) (Ty.prod (Ty.int IntKind.i64) (Ty.prod (Ty.int IntKind.u64) (Ty.int IntKind.u64))))))
                    (Ty.int IntKind.i64)))
                y1,
              V.ro true Ty.bool y2,
              V.ro true
                (Ty.prod (Ty.int IntKind.i64)
                  (Ty.prod (Ty.prod (Ty.int IntKind.u64) (Ty.prod (Ty.int IntKind.u64) (Ty.prod (Ty.int IntKind.i64) (Ty.prod (Ty.int IntKind.i64) (Ty.prod (Ty.int IntKind.u64) (Ty.int IntKind.u64))))))
                    (Ty.int IntKind.i64)))
                y3]])) (PL_clevisref11Check_4_0 F_clevisref11Right F_clevisref11set fl  R k).kont
noncomputable def PL_clevisref11Check_9_0 (F_clevisref11Right : FT ps_clevisref11Right qs_clevisref11Right) (F_clevisref11set : FT ps_clevisref11set qs_clevisref11set) (fl : Nat)  (R : Type) (k : PTs.D qs_clevisref11Check → Option R) : LoopI R :=
  locate (Cw Try.prog [(9, mkS ps_clevisref11Right qs_clevisref11Right F_clevisref11Right), (48, mkS ps_clevisref11set qs_clevisref11set F_clevisref11set)] noH) fl (call (Cw Try.prog [(9, mkS ps_clevisref11Right qs_clevisref11Right F_clevisref11Right), (48, mkS ps_clevisref11set qs_clevisref11set F_clevisref11set)] noH) fl 11) 0 46 9 [] (getR qs_clevisref11Check k)
noncomputable def P_clevisref11Check_9_0 (F_clevisref11Right : FT ps_clevisref11Right qs_clevisref11Right) (F_clevisref11set : FT ps_clevisref11set qs_clevisref11set) (fl : Nat)  (n : Nat) (R : Type) (y0 : Int) (y1 : List (Int × (Int × Int × Int × Int × Int × Int) × Int)) (y2 : List Bool) (y3 : List (Int × (Int × Int × Int × Int × Int × Int) × Int)) (k : PTs.D qs_clevisref11Check → Option R) : Option R :=
  loopH (PL_clevisref11Check_9_0 F_clevisref11Right F_clevisref11set fl  R k).body (PL_clevisref11Check_9_0 F_clevisref11Right F_clevisref11set fl  R k).head n (some (
      S.mk
        [V.any, V.ptr 0 0, V.any, V.any, V.int IntKind.i64 y0, V.any, V.any, V.any, V.any, V.any, V.any, V.any, V.any, V.any, V.any, V.any, V.any, V.any, V.any, V.any, V.any, V.any, V.any, V.any, V.any,
          V.any, V.any, V.any, V.any, V.any, V.any, V.any, V.any, V.any, V.any, V.any, V.any, V.any, V.any, V.any, V.any, V.any, V.any, V.any, V.any, V.any, V.any, V.any, V.any, V.any, V.any, V.any, V.any,
          V.any, V.any, V.any, V.any, V.any, V.any, V.any, V.any, V.any, V.any, V.any, V.any]
        []
        [Blk.cells
            [V.ro true
                (Ty.prod (Ty.int IntKind.i64)
                  (Ty.prod (Ty.prod (Ty.int IntKind.u64) (Ty.prod (Ty.int IntKind.u64) (Ty.prod (Ty.int IntKind.i64) (Ty.prod (Ty.int IntKind.i64) (Ty.prod (Ty.int IntKind.u64) (Ty.int IntKind.u64))))))
                    (Ty.int IntKind.i64)))
                y1,
              V.ro true Ty.bool y2,
              V.ro true
                (Ty.prod (Ty.int IntKind.i64)
                  (Ty.prod (Ty.prod (Ty.int IntKind.u64) (Ty.prod (Ty.int IntKind.u64) (Ty.prod (Ty.int IntKind.i64) (Ty.prod (Ty.int IntKind.i64) (Ty.prod (Ty.int IntKind.u64) (Ty.int IntKind.u64))))))
                    (Ty.int IntKind.i64)))
                y3]])) (PL_clevisref11Check_9_0 F_clevisref11Right F_clevisref11set fl  R k).kont
theorem P_clevisref11Check_4_0_s {F_clevisref11Right : FT ps_clevisref11Right qs_clevisref11Right} {F_clevisref11set : FT ps_clevisref11set qs_clevisref11set} (fl : Nat)  (n : Nat) (R : Type) (y0 : Int) (y1 : List (Int × (Int × Int × Int × Int × Int × Int) × Int)) (y2 : List Bool) (y3 : List (Int × (Int × Int × Int × Int × Int × Int) × Int)) (k : PTs.D qs_clevisref11Check → Option R) : P_clevisref11Check_4_0 F_clevisref11Right F_clevisref11set fl  (n + 1) R y0 y1 y2 y3 k =
      br (W.lt y0 (W.ofNat (W.len y1)))
        (br (W.and2 (W.le 0 y0) (W.lt y0 (W.ofNat (W.len y1))))
          (F_clevisref11Right R
            ((W.get y1 (W.toNat y0) (0, (0, 0, 0, 0, 0, 0), 0)).1,
              ((W.get y1 (W.toNat y0) (0, (0, 0, 0, 0, 0, 0), 0)).2.1.1, (W.get y1 (W.toNat y0) (0, (0, 0, 0, 0, 0, 0), 0)).2.1.2.1, (W.get y1 (W.toNat y0) (0, (0, 0, 0, 0, 0, 0), 0)).2.1.2.2.1,
                (W.get y1 (W.toNat y0) (0, (0, 0, 0, 0, 0, 0), 0)).2.1.2.2.2.1, (W.get y1 (W.toNat y0) (0, (0, 0, 0, 0, 0, 0), 0)).2.1.2.2.2.2.1,
                (W.get y1 (W.toNat y0) (0, (0, 0, 0, 0, 0, 0), 0)).2.1.2.2.2.2.2),
              (W.get y1 (W.toNat y0) (0, (0, 0, 0, 0, 0, 0), 0)).2.2)
            fun y => br (W.not y) (k false) (P_clevisref11Check_4_0 F_clevisref11Right F_clevisref11set fl n R (W.wrap IntKind.i64 (W.add y0 1)) y1 y2 y3 k))
          none)
        (P_clevisref11Check_9_0 F_clevisref11Right F_clevisref11set fl fl R 0 y1 y2 y3 k) := by kernel_rfl
theorem P_clevisref11Check_9_0_s {F_clevisref11Right : FT ps_clevisref11Right qs_clevisref11Right} {F_clevisref11set : FT ps_clevisref11set qs_clevisref11set} (fl : Nat)  (n : Nat) (R : Type) (y0 : Int) (y1 : List (Int × (Int × Int × Int × Int × Int × Int) × Int)) (y2 : List Bool) (y3 : List (Int × (Int × Int × Int × Int × Int × Int) × Int)) (k : PTs.D qs_clevisref11Check → Option R) : P_clevisref11Check_9_0 F_clevisref11Right F_clevisref11set fl  (n + 1) R y0 y1 y2 y3 k =
      br (W.lt y0 64)
        (br (W.and2 (W.le 0 y0) (W.lt y0 (W.ofNat (W.len y3))))
          (F_clevisref11Right R
            ((W.get y3 (W.toNat y0) (0, (0, 0, 0, 0, 0, 0), 0)).1,
              ((W.get y3 (W.toNat y0) (0, (0, 0, 0, 0, 0, 0), 0)).2.1.1, (W.get y3 (W.toNat y0) (0, (0, 0, 0, 0, 0, 0), 0)).2.1.2.1, (W.get y3 (W.toNat y0) (0, (0, 0, 0, 0, 0, 0), 0)).2.1.2.2.1,
                (W.get y3 (W.toNat y0) (0, (0, 0, 0, 0, 0, 0), 0)).2.1.2.2.2.1, (W.get y3 (W.toNat y0) (0, (0, 0, 0, 0, 0, 0), 0)).2.1.2.2.2.2.1,
                (W.get y3 (W.toNat y0) (0, (0, 0, 0, 0, 0, 0), 0)).2.1.2.2.2.2.2),
              (W.get y3 (W.toNat y0) (0, (0, 0, 0, 0, 0, 0), 0)).2.2)
            fun y =>
            br (W.or2 (W.not (W.not (W.not y))) (W.and2 (W.le 0 y0) (W.lt y0 (W.ofNat (W.len y3)))))
              (br (W.and2 (W.not (W.not y)) (W.ne (W.get y3 (W.toNat y0) (0, (0, 0, 0, 0, 0, 0), 0)).1 0))
                (F_clevisref11set R ((y1, y2, y3), W.wrap IntKind.i64 (W.mul 8 y0), W.wrap IntKind.i64 (W.add (W.wrap IntKind.i64 (W.mul 8 y0)) 8)) fun y_1 =>
                  br (W.pick (W.not y) true (W.pick (W.ne (W.get y3 (W.toNat y0) (0, (0, 0, 0, 0, 0, 0), 0)).1 0) (W.not y_1) false)) (k false)
                    (P_clevisref11Check_9_0 F_clevisref11Right F_clevisref11set fl n R (W.wrap IntKind.i64 (W.add y0 1)) y1 y2 y3 k))
                (br (W.and2 (W.not (W.not y)) (W.ne (W.get y3 (W.toNat y0) (0, (0, 0, 0, 0, 0, 0), 0)).1 0)) none
                  (br (W.not (W.not y))
                    (br (W.ne (W.get y3 (W.toNat y0) (0, (0, 0, 0, 0, 0, 0), 0)).1 0) none (P_clevisref11Check_9_0 F_clevisref11Right F_clevisref11set fl n R (W.wrap IntKind.i64 (W.add y0 1)) y1 y2 y3 k)) (k false))))
              none)
          none)
        (k true) := by kernel_rfl
noncomputable def N_clevisref11Check (F_clevisref11Right : FT ps_clevisref11Right qs_clevisref11Right) (F_clevisref11set : FT ps_clevisref11set qs_clevisref11set) (fl : Nat) : FT ps_clevisref11Check qs_clevisref11Check := fun R x k => match x with
  | (x0Regs, x0Set, x0Saved) => 
      br (W.pick (W.pick (W.ne (W.ofNat (W.len x0Regs)) 11) true (W.ne (W.ofNat (W.len x0Set)) 512)) true (W.ne (W.ofNat (W.len x0Saved)) 64)) (k false)
        (P_clevisref11Check_4_0 F_clevisref11Right F_clevisref11set fl fl R 0 x0Regs x0Set x0Saved k)
theorem Q_clevisref11Check {F_clevisref11Right : FT ps_clevisref11Right qs_clevisref11Right} {F_clevisref11set : FT ps_clevisref11set qs_clevisref11set} (fl : Nat) (R : Type) (x : PTs.D ps_clevisref11Check) (k : PTs.D qs_clevisref11Check → Option R) : call (Cw Try.prog [(9, mkS ps_clevisref11Right qs_clevisref11Right F_clevisref11Right), (48, mkS ps_clevisref11set qs_clevisref11set F_clevisref11set)] noH) fl 12 46 (encL true ps_clevisref11Check x) [] (getR qs_clevisref11Check k) = N_clevisref11Check F_clevisref11Right F_clevisref11set fl R x k := by
  obtain ⟨x0Regs, x0Set, x0Saved⟩ := x; kernel_rfl
theorem S_clevisref11Check {F_clevisref11Right : FT ps_clevisref11Right qs_clevisref11Right} {F_clevisref11set : FT ps_clevisref11set qs_clevisref11set} (h_clevisref11Right : SpecOk Try.prog 9 (mkS ps_clevisref11Right qs_clevisref11Right F_clevisref11Right)) (h_clevisref11set : SpecOk Try.prog 48 (mkS ps_clevisref11set qs_clevisref11set F_clevisref11set)) : SpecOk Try.prog 46 (mkS ps_clevisref11Check qs_clevisref11Check (N_clevisref11Check F_clevisref11Right F_clevisref11set W.big)) :=
  specOk_mk (fl := W.big) (d := 12) (cfgOk_cons (cfgOk_cons base h_clevisref11set) h_clevisref11Right) (fun R x k => Q_clevisref11Check W.big R x k)
noncomputable def F_clevisref11Check : FT ps_clevisref11Check qs_clevisref11Check := N_clevisref11Check F_clevisref11Right F_clevisref11set W.big
theorem ok_clevisref11Check : SpecOk Try.prog 46 (mkS ps_clevisref11Check qs_clevisref11Check F_clevisref11Check) := S_clevisref11Check ok_clevisref11Right ok_clevisref11set
abbrev ps_clevisref11Ready : List PT := [.agg ((.prod (.slice ((.prod (.int .i64) (.prod ((.prod (.int .u64) (.prod (.int .u64) (.prod (.int .i64) (.prod (.int .i64) ((.prod (.int .u64) (.int .u64)))))))) (.int .i64))))) (.prod (.slice (.bool)) (.slice ((.prod (.int .i64) (.prod ((.prod (.int .u64) (.prod (.int .u64) (.prod (.int .i64) (.prod (.int .i64) ((.prod (.int .u64) (.int .u64)))))))) (.int .i64)))))))), .one (.int .i64), .one (.int .i64)]
abbrev qs_clevisref11Ready : List PT := [.one (.bool)]
noncomputable def N_clevisref11Ready (F_clevisref11set : FT ps_clevisref11set qs_clevisref11set) (F_clevisref11Check : FT ps_clevisref11Check qs_clevisref11Check)  : FT ps_clevisref11Ready qs_clevisref11Ready := fun R x k => match x with
  | ((x0Regs, x0Set, x0Saved), x1, x2) => 
      F_clevisref11Check R (x0Regs, x0Set, x0Saved) fun y =>
        br (W.pick (W.pick (W.pick y (W.ge x1 0) false) (W.le x1 x2) false) (W.le x2 512) false) (F_clevisref11set R ((x0Regs, x0Set, x0Saved), x1, x2) fun y => k (W.pick true y false)) (k false)
theorem S_clevisref11Ready {F_clevisref11set : FT ps_clevisref11set qs_clevisref11set} {F_clevisref11Check : FT ps_clevisref11Check qs_clevisref11Check} (h_clevisref11set : SpecOk Try.prog 48 (mkS ps_clevisref11set qs_clevisref11set F_clevisref11set)) (h_clevisref11Check : SpecOk Try.prog 46 (mkS ps_clevisref11Check qs_clevisref11Check F_clevisref11Check)) : SpecOk Try.prog 24 (mkS ps_clevisref11Ready qs_clevisref11Ready (N_clevisref11Ready F_clevisref11set F_clevisref11Check)) :=
  specOk_mk (fl := 10) (d := 12) (cfgOk_cons (cfgOk_cons base h_clevisref11Check) h_clevisref11set) (by rintro R ⟨⟨x0Regs, x0Set, x0Saved⟩, x1, x2⟩ k; kernel_rfl)
noncomputable def F_clevisref11Ready : FT ps_clevisref11Ready qs_clevisref11Ready := N_clevisref11Ready F_clevisref11set F_clevisref11Check 
theorem ok_clevisref11Ready : SpecOk Try.prog 24 (mkS ps_clevisref11Ready qs_clevisref11Ready F_clevisref11Ready) := S_clevisref11Ready ok_clevisref11set ok_clevisref11Check
abbrev ps_clevisref11places : List PT := [.agg ((.prod (.slice ((.prod (.int .i64) (.prod ((.prod (.int .u64) (.prod (.int .u64) (.prod (.int .i64) (.prod (.int .i64) ((.prod (.int .u64) (.int .u64)))))))) (.int .i64))))) (.prod (.slice (.bool)) (.slice ((.prod (.int .i64) (.prod ((.prod (.int .u64) (.prod (.int .u64) (.prod (.int .i64) (.prod (.int .i64) ((.prod (.int .u64) (.int .u64)))))))) (.int .i64)))))))), .one (.int .i64), .one (.int .i64), .one (.int .i64)]
abbrev qs_clevisref11places : List PT := [.one (.bool)]
noncomputable def N_clevisref11places (F_clevisref11Check : FT ps_clevisref11Check qs_clevisref11Check)  : FT ps_clevisref11places qs_clevisref11places := fun R x k => match x with
  | ((x0Regs, x0Set, x0Saved), x1, x2, x3) => 
      F_clevisref11Check R (x0Regs, x0Set, x0Saved) fun y =>
        k (W.pick (W.pick (W.pick (W.pick (W.pick y (W.ge x1 0) false) (W.le x1 x2) false) (W.ge x3 1) false) (W.le x2 512) false) (W.le x3 (W.wrap IntKind.i64 (W.sub 512 x2))) false)
theorem S_clevisref11places {F_clevisref11Check : FT ps_clevisref11Check qs_clevisref11Check} (h_clevisref11Check : SpecOk Try.prog 46 (mkS ps_clevisref11Check qs_clevisref11Check F_clevisref11Check)) : SpecOk Try.prog 45 (mkS ps_clevisref11places qs_clevisref11places (N_clevisref11places F_clevisref11Check)) :=
  specOk_mk (fl := 10) (d := 12) (cfgOk_cons base h_clevisref11Check) (by rintro R ⟨⟨x0Regs, x0Set, x0Saved⟩, x1, x2, x3⟩ k; kernel_rfl)
noncomputable def F_clevisref11places : FT ps_clevisref11places qs_clevisref11places := N_clevisref11places F_clevisref11Check 
theorem ok_clevisref11places : SpecOk Try.prog 45 (mkS ps_clevisref11places qs_clevisref11places F_clevisref11places) := S_clevisref11places ok_clevisref11Check
abbrev ps_clevisref11Load : List PT := [.agg ((.prod (.slice ((.prod (.int .i64) (.prod ((.prod (.int .u64) (.prod (.int .u64) (.prod (.int .i64) (.prod (.int .i64) ((.prod (.int .u64) (.int .u64)))))))) (.int .i64))))) (.prod (.slice (.bool)) (.slice ((.prod (.int .i64) (.prod ((.prod (.int .u64) (.prod (.int .u64) (.prod (.int .i64) (.prod (.int .i64) ((.prod (.int .u64) (.int .u64)))))))) (.int .i64)))))))), .one (.int .i64), .one (.int .i64), .one (.int .i64)]
abbrev qs_clevisref11Load : List PT := [.agg ((.prod (.int .i64) (.prod ((.prod (.int .u64) (.prod (.int .u64) (.prod (.int .i64) (.prod (.int .i64) ((.prod (.int .u64) (.int .u64)))))))) (.int .i64)))), .one (.bool)]
noncomputable def N_clevisref11Load (F_clevisref08Size : FT ps_clevisref08Size qs_clevisref08Size) (F_clevisref11Ready : FT ps_clevisref11Ready qs_clevisref11Ready) (F_clevisref11places : FT ps_clevisref11places qs_clevisref11places)  : FT ps_clevisref11Load qs_clevisref11Load := fun R x k => match x with
  | ((x0Regs, x0Set, x0Saved), x1, x2, x3) => 
      F_clevisref11places R ((x0Regs, x0Set, x0Saved), x1, x2, x3) fun y =>
        br (W.not (W.not y))
          (F_clevisref11Ready R ((x0Regs, x0Set, x0Saved), x1, W.wrap IntKind.i64 (W.add x2 x3)) fun y =>
            br (W.pick false true (W.not y)) (k ((0, (0, 0, 0, 0, 0, 0), 0), false))
              (br (W.or2 (W.not (W.pick (W.eq x1 x2) (W.eq x3 8) false)) true)
                (br (W.or2 (W.not (W.pick (W.pick (W.eq x1 x2) (W.eq x3 8) false) (W.eq (W.rem x1 8) 0) false)) true)
                  (br
                    (W.or2 (W.not (W.pick (W.pick (W.eq x1 x2) (W.eq x3 8) false) (W.eq (W.rem x1 8) 0) false))
                      (W.and2 (W.le 0 (W.wrap IntKind.i64 (W.quo x1 8))) (W.lt (W.wrap IntKind.i64 (W.quo x1 8)) (W.ofNat (W.len x0Saved)))))
                    (br
                      (W.pick (W.pick (W.pick (W.eq x1 x2) (W.eq x3 8) false) (W.eq (W.rem x1 8) 0) false) (W.ne (W.get x0Saved (W.toNat (W.wrap IntKind.i64 (W.quo x1 8))) (0, (0, 0, 0, 0, 0, 0), 0)).1 0)
                        false)
                      (br (W.and2 (W.le 0 (W.wrap IntKind.i64 (W.quo x1 8))) (W.lt (W.wrap IntKind.i64 (W.quo x1 8)) (W.ofNat (W.len x0Saved))))
                        (k
                          (((W.get x0Saved (W.toNat (W.wrap IntKind.i64 (W.quo x1 8))) (0, (0, 0, 0, 0, 0, 0), 0)).1,
                              ((W.get x0Saved (W.toNat (W.wrap IntKind.i64 (W.quo x1 8))) (0, (0, 0, 0, 0, 0, 0), 0)).2.1.1,
                                (W.get x0Saved (W.toNat (W.wrap IntKind.i64 (W.quo x1 8))) (0, (0, 0, 0, 0, 0, 0), 0)).2.1.2.1,
                                (W.get x0Saved (W.toNat (W.wrap IntKind.i64 (W.quo x1 8))) (0, (0, 0, 0, 0, 0, 0), 0)).2.1.2.2.1,
                                (W.get x0Saved (W.toNat (W.wrap IntKind.i64 (W.quo x1 8))) (0, (0, 0, 0, 0, 0, 0), 0)).2.1.2.2.2.1,
                                (W.get x0Saved (W.toNat (W.wrap IntKind.i64 (W.quo x1 8))) (0, (0, 0, 0, 0, 0, 0), 0)).2.1.2.2.2.2.1,
                                (W.get x0Saved (W.toNat (W.wrap IntKind.i64 (W.quo x1 8))) (0, (0, 0, 0, 0, 0, 0), 0)).2.1.2.2.2.2.2),
                              (W.get x0Saved (W.toNat (W.wrap IntKind.i64 (W.quo x1 8))) (0, (0, 0, 0, 0, 0, 0), 0)).2.2),
                            true))
                        none)
                      (F_clevisref08Size R x3 fun y => k ((1, (y.1, y.2.1, y.2.2.1, y.2.2.2.1, y.2.2.2.2.1, y.2.2.2.2.2), 0), true)))
                    none)
                  none)
                none))
          (k ((0, (0, 0, 0, 0, 0, 0), 0), false))
theorem S_clevisref11Load {F_clevisref08Size : FT ps_clevisref08Size qs_clevisref08Size} {F_clevisref11Ready : FT ps_clevisref11Ready qs_clevisref11Ready} {F_clevisref11places : FT ps_clevisref11places qs_clevisref11places} (h_clevisref08Size : SpecOk Try.prog 13 (mkS ps_clevisref08Size qs_clevisref08Size F_clevisref08Size)) (h_clevisref11Ready : SpecOk Try.prog 24 (mkS ps_clevisref11Ready qs_clevisref11Ready F_clevisref11Ready)) (h_clevisref11places : SpecOk Try.prog 45 (mkS ps_clevisref11places qs_clevisref11places F_clevisref11places)) : SpecOk Try.prog 18 (mkS ps_clevisref11Load qs_clevisref11Load (N_clevisref11Load F_clevisref08Size F_clevisref11Ready F_clevisref11places)) :=
  specOk_mk (fl := 10) (d := 12) (cfgOk_cons (cfgOk_cons (cfgOk_cons base h_clevisref11places) h_clevisref11Ready) h_clevisref08Size) (by rintro R ⟨⟨x0Regs, x0Set, x0Saved⟩, x1, x2, x3⟩ k; kernel_rfl)
noncomputable def F_clevisref11Load : FT ps_clevisref11Load qs_clevisref11Load := N_clevisref11Load F_clevisref08Size F_clevisref11Ready F_clevisref11places 
theorem ok_clevisref11Load : SpecOk Try.prog 18 (mkS ps_clevisref11Load qs_clevisref11Load F_clevisref11Load) := S_clevisref11Load ok_clevisref08Size ok_clevisref11Ready ok_clevisref11places
abbrev ps_clevisref11Same : List PT := [.agg ((.prod (.slice ((.prod (.int .i64) (.prod ((.prod (.int .u64) (.prod (.int .u64) (.prod (.int .i64) (.prod (.int .i64) ((.prod (.int .u64) (.int .u64)))))))) (.int .i64))))) (.prod (.slice (.bool)) (.slice ((.prod (.int .i64) (.prod ((.prod (.int .u64) (.prod (.int .u64) (.prod (.int .i64) (.prod (.int .i64) ((.prod (.int .u64) (.int .u64)))))))) (.int .i64)))))))), .agg ((.prod (.slice ((.prod (.int .i64) (.prod ((.prod (.int .u64) (.prod (.int .u64) (.prod (.int .i64) (.prod (.int .i64) ((.prod (.int .u64) (.int .u64)))))))) (.int .i64))))) (.prod (.slice (.bool)) (.slice ((.prod (.int .i64) (.prod ((.prod (.int .u64) (.prod (.int .u64) (.prod (.int .i64) (.prod (.int .i64) ((.prod (.int .u64) (.int .u64)))))))) (.int .i64))))))))]
abbrev qs_clevisref11Same : List PT := [.one (.bool)]
noncomputable def PL_clevisref11Same_4_0  (fl : Nat)  (R : Type) (k : PTs.D qs_clevisref11Same → Option R) : LoopI R :=
  locate (Cw Try.prog [] noH) fl (call (Cw Try.prog [] noH) fl 11) 0 19 4 [] (getR qs_clevisref11Same k)
noncomputable def P_clevisref11Same_4_0  (fl : Nat)  (n : Nat) (R : Type) (y0 : Int) (y1 : List (Int × (Int × Int × Int × Int × Int × Int) × Int)) (y2 : List Bool) (y3 : List (Int × (Int × Int × Int × Int × Int × Int) × Int)) (y4 : List (Int × (Int × Int × Int × Int × Int × Int) × Int)) (y5 : List Bool) (y6 : List (Int × (Int × Int × Int × Int × Int × Int) × Int)) (k : PTs.D qs_clevisref11Same → Option R) : Option R :=
  loopH (PL_clevisref11Same_4_0  fl  R k).body (PL_clevisref11Same_4_0  fl  R k).head n (some (
      S.mk
        [V.any, V.any, V.ptr 0 0, V.ptr 1 0, V.any, V.int IntKind.i64 y0, V.any, V.any, V.any, V.any, V.any, V.any, V.any, V.any, V.any, V.any, V.any, V.any, V.any, V.any, V.any, V.any, V.any, V.any, V.any,
          V.any, V.any, V.any, V.any, V.any, V.any, V.any, V.any, V.any, V.any, V.any, V.any, V.any, V.any, V.any, V.any, V.any, V.any, V.any, V.any, V.any, V.any, V.any, V.any, V.any, V.any, V.any, V.any,
          V.any, V.any, V.any, V.any, V.any, V.any, V.any, V.any, V.any, V.any, V.any, V.any, V.any, V.any, V.any, V.any, V.any, V.any, V.any, V.any, V.any, V.any, V.any, V.any, V.any, V.any, V.any, V.any,
          V.any, V.any, V.any, V.any, V.any, V.any]
        []
        [Blk.cells
            [V.ro true
                (Ty.prod (Ty.int IntKind.i64)
                  (Ty.prod (Ty.prod (Ty.int IntKind.u64) (Ty.prod (Ty.int IntKind.u64) (Ty.prod (Ty.int IntKind.i64) (Ty.prod (Ty.int IntKind.i64) (Ty.prod (Ty.int IntKind.u64) (Ty.int IntKind.u64))))))
                    (Ty.int IntKind.i64)))
                y1,
              V.ro true Ty.bool y2,
              V.ro true
                (Ty.prod (Ty.int IntKind.i64)
                  (Ty.prod (Ty.prod (Ty.int IntKind.u64) (Ty.prod (Ty.int IntKind.u64) (Ty.prod (Ty.int IntKind.i64) (Ty.prod (Ty.int IntKind.i64) (Ty.prod (Ty.int IntKind.u64) (Ty.int IntKind.u64))))))
                    (Ty.int IntKind.i64)))
                y3],
          Blk.cells
            [V.ro true
                (Ty.prod (Ty.int IntKind.i64)
                  (Ty.prod (Ty.prod (Ty.int IntKind.u64) (Ty.prod (Ty.int IntKind.u64) (Ty.prod (Ty.int IntKind.i64) (Ty.prod (Ty.int IntKind.i64) (Ty.prod (Ty.int IntKind.u64) (Ty.int IntKind.u64))))))
                    (Ty.int IntKind.i64)))
                y4,
              V.ro true Ty.bool y5,
              V.ro true
                (Ty.prod (Ty.int IntKind.i64)
                  (Ty.prod (Ty.prod (Ty.int IntKind.u64) (Ty.prod (Ty.int IntKind.u64) (Ty.prod (Ty.int IntKind.i64) (Ty.prod (Ty.int IntKind.i64) (Ty.prod (Ty.int IntKind.u64) (Ty.int IntKind.u64))))))
                    (Ty.int IntKind.i64)))
                y6]])) (PL_clevisref11Same_4_0  fl  R k).kont
noncomputable def PL_clevisref11Same_9_0  (fl : Nat)  (R : Type) (k : PTs.D qs_clevisref11Same → Option R) : LoopI R :=
  locate (Cw Try.prog [] noH) fl (call (Cw Try.prog [] noH) fl 11) 0 19 9 [] (getR qs_clevisref11Same k)
noncomputable def P_clevisref11Same_9_0  (fl : Nat)  (n : Nat) (R : Type) (y0 : Int) (y1 : List (Int × (Int × Int × Int × Int × Int × Int) × Int)) (y2 : List Bool) (y3 : List (Int × (Int × Int × Int × Int × Int × Int) × Int)) (y4 : List (Int × (Int × Int × Int × Int × Int × Int) × Int)) (y5 : List Bool) (y6 : List (Int × (Int × Int × Int × Int × Int × Int) × Int)) (k : PTs.D qs_clevisref11Same → Option R) : Option R :=
  loopH (PL_clevisref11Same_9_0  fl  R k).body (PL_clevisref11Same_9_0  fl  R k).head n (some (
      S.mk
        [V.any, V.any, V.ptr 0 0, V.ptr 1 0, V.any, V.any, V.int IntKind.i64 y0, V.any, V.any, V.any, V.any, V.any, V.any, V.any, V.any, V.any, V.any, V.any, V.any, V.any, V.any, V.any, V.any, V.any, V.any,
          V.any, V.any, V.any, V.any, V.any, V.any, V.any, V.any, V.any, V.any, V.any, V.any, V.any, V.any, V.any, V.any, V.any, V.any, V.any, V.any, V.any, V.any, V.any, V.any, V.any, V.any, V.any, V.any,
          V.any, V.any, V.any, V.any, V.any, V.any, V.any, V.any, V.any, V.any, V.any, V.any, V.any, V.any, V.any, V.any, V.any, V.any, V.any, V.any, V.any, V.any, V.any, V.any, V.any, V.any, V.any, V.any,
          V.any, V.any, V.any, V.any, V.any, V.any]
        []
        [Blk.cells
            [V.ro true
                (Ty.prod (Ty.int IntKind.i64)
                  (Ty.prod (Ty.prod (Ty.int IntKind.u64) (Ty.prod (Ty.int IntKind.u64) (Ty.prod (Ty.int IntKind.i64) (Ty.prod (Ty.int IntKind.i64) (Ty.prod (Ty.int IntKind.u64) (Ty.int IntKind.u64))))))
                    (Ty.int IntKind.i64)))
                y1,
              V.ro true Ty.bool y2,
              V.ro true
                (Ty.prod (Ty.int IntKind.i64)
                  (Ty.prod (Ty.prod (Ty.int IntKind.u64) (Ty.prod (Ty.int IntKind.u64) (Ty.prod (Ty.int IntKind.i64) (Ty.prod (Ty.int IntKind.i64) (Ty.prod (Ty.int IntKind.u64) (Ty.int IntKind.u64))))))
                    (Ty.int IntKind.i64)))
                y3],
          Blk.cells
            [V.ro true
                (Ty.prod (Ty.int IntKind.i64)
                  (Ty.prod (Ty.prod (Ty.int IntKind.u64) (Ty.prod (Ty.int IntKind.u64) (Ty.prod (Ty.int IntKind.i64) (Ty.prod (Ty.int IntKind.i64) (Ty.prod (Ty.int IntKind.u64) (Ty.int IntKind.u64))))))
                    (Ty.int IntKind.i64)))
                y4,
              V.ro true Ty.bool y5,
              V.ro true
                (Ty.prod (Ty.int IntKind.i64)
                  (Ty.prod (Ty.prod (Ty.int IntKind.u64) (Ty.prod (Ty.int IntKind.u64) (Ty.prod (Ty.int IntKind.i64) (Ty.prod (Ty.int IntKind.i64) (Ty.prod (Ty.int IntKind.u64) (Ty.int IntKind.u64))))))
                    (Ty.int IntKind.i64)))
                y6]])) (PL_clevisref11Same_9_0  fl  R k).kont
noncomputable def PL_clevisref11Same_14_0  (fl : Nat)  (R : Type) (k : PTs.D qs_clevisref11Same → Option R) : LoopI R :=
  locate (Cw Try.prog [] noH) fl (call (Cw Try.prog [] noH) fl 11) 0 19 14 [] (getR qs_clevisref11Same k)
noncomputable def P_clevisref11Same_14_0  (fl : Nat)  (n : Nat) (R : Type) (y0 : Int) (y1 : List (Int × (Int × Int × Int × Int × Int × Int) × Int)) (y2 : List Bool) (y3 : List (Int × (Int × Int × Int × Int × Int × Int) × Int)) (y4 : List (Int × (Int × Int × Int × Int × Int × Int) × Int)) (y5 : List Bool) (y6 : List (Int × (Int × Int × Int × Int × Int × Int) × Int)) (k : PTs.D qs_clevisref11Same → Option R) : Option R :=
  loopH (PL_clevisref11Same_14_0  fl  R k).body (PL_clevisref11Same_14_0  fl  R k).head n (some (
      S.mk
        [V.any, V.any, V.ptr 0 0, V.ptr 1 0, V.any, V.any, V.any, V.int IntKind.i64 y0, V.any, V.any, V.any, V.any, V.any, V.any, V.any, V.any, V.any, V.any, V.any, V.any, V.any, V.any, V.any, V.any, V.any,
          V.any, V.any, V.any, V.any, V.any, V.any, V.any, V.any, V.any, V.any, V.any, V.any, V.any, V.any, V.any, V.any, V.any, V.any, V.any, V.any, V.any, V.any, V.any, V.any, V.any, V.any, V.any, V.any,
          V.any, V.any, V.any, V.any, V.any, V.any, V.any, V.any, V.any, V.any, V.any, V.any, V.any, V.any, V.any, V.any, V.any, V.any, V.any, V.any, V.any, V.any, V.any, V.any, V.any, V.any, V.any, V.any,
          V.any, V.any, V.any, V.any, V.any, V.any]
        []
        [Blk.cells
            [V.ro true
                (Ty.prod (Ty.int IntKind.i64)
                  (Ty.prod (Ty.prod (Ty.int IntKind.u64) (Ty.prod (Ty.int IntKind.u64) (Ty.prod (Ty.int IntKind.i64) (Ty.prod (Ty.int IntKind.i64) (Ty.prod (Ty.int IntKind.u64) (Ty.int IntKind.u64))))))
                    (Ty.int IntKind.i64)))
                y1,
              V.ro true Ty.bool y2,
              V.ro true
                (Ty.prod (Ty.int IntKind.i64)
                  (Ty.prod (Ty.prod (Ty.int IntKind.u64) (Ty.prod (Ty.int IntKind.u64) (Ty.prod (Ty.int IntKind.i64) (Ty.prod (Ty.int IntKind.i64) (Ty.prod (Ty.int IntKind.u64) (Ty.int IntKind.u64))))))
                    (Ty.int IntKind.i64)))
                y3],
          Blk.cells
            [V.ro true
                (Ty.prod (Ty.int IntKind.i64)
                  (Ty.prod (Ty.prod (Ty.int IntKind.u64) (Ty.prod (Ty.int IntKind.u64) (Ty.prod (Ty.int IntKind.i64) (Ty.prod (Ty.int IntKind.i64) (Ty.prod (Ty.int IntKind.u64) (Ty.int IntKind.u64))))))
                    (Ty.int IntKind.i64)))
                y4,
              V.ro true Ty.bool y5,
              V.ro true
                (Ty.prod (Ty.int IntKind.i64)
                  (Ty.prod (Ty.prod (Ty.int IntKind.u64) (Ty.prod (Ty.int IntKind.u64) (Ty.prod (Ty.int IntKind.i64) (Ty.prod (Ty.int IntKind.i64) (Ty.prod (Ty.int IntKind.u64) (Ty.int IntKind.u64))))))
                    (Ty.int IntKind.i64)))
                y6]])) (PL_clevisref11Same_14_0  fl  R k).kont
theorem P_clevisref11Same_4_0_s  (fl : Nat)  (n : Nat) (R : Type) (y0 : Int) (y1 : List (Int × (Int × Int × Int × Int × Int × Int) × Int)) (y2 : List Bool) (y3 : List (Int × (Int × Int × Int × Int × Int × Int) × Int)) (y4 : List (Int × (Int × Int × Int × Int × Int × Int) × Int)) (y5 : List Bool) (y6 : List (Int × (Int × Int × Int × Int × Int × Int) × Int)) (k : PTs.D qs_clevisref11Same → Option R) : P_clevisref11Same_4_0  fl  (n + 1) R y0 y1 y2 y3 y4 y5 y6 k =
      br (W.lt y0 (W.ofNat (W.len y1)))
        (br (W.and2 (W.le 0 y0) (W.lt y0 (W.ofNat (W.len y1))))
          (br (W.and2 (W.le 0 y0) (W.lt y0 (W.ofNat (W.len y4))))
            (br
              (W.not
                (W.and2 (W.eq (W.get y1 (W.toNat y0) (0, (0, 0, 0, 0, 0, 0), 0)).1 (W.get y4 (W.toNat y0) (0, (0, 0, 0, 0, 0, 0), 0)).1)
                  (W.and2 (W.eq (W.get y1 (W.toNat y0) (0, (0, 0, 0, 0, 0, 0), 0)).2.1.1 (W.get y4 (W.toNat y0) (0, (0, 0, 0, 0, 0, 0), 0)).2.1.1)
                    (W.and2 (W.eq (W.get y1 (W.toNat y0) (0, (0, 0, 0, 0, 0, 0), 0)).2.1.2.1 (W.get y4 (W.toNat y0) (0, (0, 0, 0, 0, 0, 0), 0)).2.1.2.1)
                      (W.and2 (W.eq (W.get y1 (W.toNat y0) (0, (0, 0, 0, 0, 0, 0), 0)).2.1.2.2.1 (W.get y4 (W.toNat y0) (0, (0, 0, 0, 0, 0, 0), 0)).2.1.2.2.1)
                        (W.and2 (W.eq (W.get y1 (W.toNat y0) (0, (0, 0, 0, 0, 0, 0), 0)).2.1.2.2.2.1 (W.get y4 (W.toNat y0) (0, (0, 0, 0, 0, 0, 0), 0)).2.1.2.2.2.1)
                          (W.and2 (W.eq (W.get y1 (W.toNat y0) (0, (0, 0, 0, 0, 0, 0), 0)).2.1.2.2.2.2.1 (W.get y4 (W.toNat y0) (0, (0, 0, 0, 0, 0, 0), 0)).2.1.2.2.2.2.1)
                            (W.and2 (W.eq (W.get y1 (W.toNat y0) (0, (0, 0, 0, 0, 0, 0), 0)).2.1.2.2.2.2.2 (W.get y4 (W.toNat y0) (0, (0, 0, 0, 0, 0, 0), 0)).2.1.2.2.2.2.2)
                              (W.and2 (W.eq (W.get y1 (W.toNat y0) (0, (0, 0, 0, 0, 0, 0), 0)).2.2 (W.get y4 (W.toNat y0) (0, (0, 0, 0, 0, 0, 0), 0)).2.2) true)))))))))
              (k false) (P_clevisref11Same_4_0 fl n R (W.wrap IntKind.i64 (W.add y0 1)) y1 y2 y3 y4 y5 y6 k))
            none)
          none)
        (P_clevisref11Same_9_0 fl fl R 0 y1 y2 y3 y4 y5 y6 k) := by kernel_rfl
theorem P_clevisref11Same_9_0_s  (fl : Nat)  (n : Nat) (R : Type) (y0 : Int) (y1 : List (Int × (Int × Int × Int × Int × Int × Int) × Int)) (y2 : List Bool) (y3 : List (Int × (Int × Int × Int × Int × Int × Int) × Int)) (y4 : List (Int × (Int × Int × Int × Int × Int × Int) × Int)) (y5 : List Bool) (y6 : List (Int × (Int × Int × Int × Int × Int × Int) × Int)) (k : PTs.D qs_clevisref11Same → Option R) : P_clevisref11Same_9_0  fl  (n + 1) R y0 y1 y2 y3 y4 y5 y6 k =
      br (W.lt y0 (W.ofNat (W.len y2)))
        (br (W.and2 (W.le 0 y0) (W.lt y0 (W.ofNat (W.len y2))))
          (br (W.and2 (W.le 0 y0) (W.lt y0 (W.ofNat (W.len y5))))
            (br (W.not (W.eqB (W.get y2 (W.toNat y0) false) (W.get y5 (W.toNat y0) false))) (k false) (P_clevisref11Same_9_0 fl n R (W.wrap IntKind.i64 (W.add y0 1)) y1 y2 y3 y4 y5 y6 k)) none)
          none)
        (P_clevisref11Same_14_0 fl fl R 0 y1 y2 y3 y4 y5 y6 k) := by kernel_rfl
theorem P_clevisref11Same_14_0_s  (fl : Nat)  (n : Nat) (R : Type) (y0 : Int) (y1 : List (Int × (Int × Int × Int × Int × Int × Int) × Int)) (y2 : List Bool) (y3 : List (Int × (Int × Int × Int × Int × Int × Int) × Int)) (y4 : List (Int × (Int × Int × Int × Int × Int × Int) × Int)) (y5 : List Bool) (y6 : List (Int × (Int × Int × Int × Int × Int × Int) × Int)) (k : PTs.D qs_clevisref11Same → Option R) : P_clevisref11Same_14_0  fl  (n + 1) R y0 y1 y2 y3 y4 y5 y6 k =
      br (W.lt y0 (W.ofNat (W.len y3)))
        (br (W.and2 (W.le 0 y0) (W.lt y0 (W.ofNat (W.len y3))))
          (br (W.and2 (W.le 0 y0) (W.lt y0 (W.ofNat (W.len y6))))
            (br
              (W.not
                (W.and2 (W.eq (W.get y3 (W.toNat y0) (0, (0, 0, 0, 0, 0, 0), 0)).1 (W.get y6 (W.toNat y0) (0, (0, 0, 0, 0, 0, 0), 0)).1)
                  (W.and2 (W.eq (W.get y3 (W.toNat y0) (0, (0, 0, 0, 0, 0, 0), 0)).2.1.1 (W.get y6 (W.toNat y0) (0, (0, 0, 0, 0, 0, 0), 0)).2.1.1)
                    (W.and2 (W.eq (W.get y3 (W.toNat y0) (0, (0, 0, 0, 0, 0, 0), 0)).2.1.2.1 (W.get y6 (W.toNat y0) (0, (0, 0, 0, 0, 0, 0), 0)).2.1.2.1)
                      (W.and2 (W.eq (W.get y3 (W.toNat y0) (0, (0, 0, 0, 0, 0, 0), 0)).2.1.2.2.1 (W.get y6 (W.toNat y0) (0, (0, 0, 0, 0, 0, 0), 0)).2.1.2.2.1)
                        (W.and2 (W.eq (W.get y3 (W.toNat y0) (0, (0, 0, 0, 0, 0, 0), 0)).2.1.2.2.2.1 (W.get y6 (W.toNat y0) (0, (0, 0, 0, 0, 0, 0), 0)).2.1.2.2.2.1)
                          (W.and2 (W.eq (W.get y3 (W.toNat y0) (0, (0, 0, 0, 0, 0, 0), 0)).2.1.2.2.2.2.1 (W.get y6 (W.toNat y0) (0, (0, 0, 0, 0, 0, 0), 0)).2.1.2.2.2.2.1)
                            (W.and2 (W.eq (W.get y3 (W.toNat y0) (0, (0, 0, 0, 0, 0, 0), 0)).2.1.2.2.2.2.2 (W.get y6 (W.toNat y0) (0, (0, 0, 0, 0, 0, 0), 0)).2.1.2.2.2.2.2)
                              (W.and2 (W.eq (W.get y3 (W.toNat y0) (0, (0, 0, 0, 0, 0, 0), 0)).2.2 (W.get y6 (W.toNat y0) (0, (0, 0, 0, 0, 0, 0), 0)).2.2) true)))))))))
              (k false) (P_clevisref11Same_14_0 fl n R (W.wrap IntKind.i64 (W.add y0 1)) y1 y2 y3 y4 y5 y6 k))
            none)
          none)
        (k true) := by kernel_rfl
noncomputable def N_clevisref11Same  (fl : Nat) : FT ps_clevisref11Same qs_clevisref11Same := fun R x k => match x with
  | ((x0Regs, x0Set, x0Saved), (x1Regs, x1Set, x1Saved)) => 
      br
        (W.pick (W.pick (W.ne (W.ofNat (W.len x0Regs)) (W.ofNat (W.len x1Regs))) true (W.ne (W.ofNat (W.len x0Set)) (W.ofNat (W.len x1Set)))) true
          (W.ne (W.ofNat (W.len x0Saved)) (W.ofNat (W.len x1Saved))))
        (k false) (P_clevisref11Same_4_0 fl fl R 0 x0Regs x0Set x0Saved x1Regs x1Set x1Saved k)
theorem Q_clevisref11Same  (fl : Nat) (R : Type) (x : PTs.D ps_clevisref11Same) (k : PTs.D qs_clevisref11Same → Option R) : call (Cw Try.prog [] noH) fl 12 19 (encL true ps_clevisref11Same x) [] (getR qs_clevisref11Same k) = N_clevisref11Same  fl R x k := by
  obtain ⟨⟨x0Regs, x0Set, x0Saved⟩, ⟨x1Regs, x1Set, x1Saved⟩⟩ := x; kernel_rfl
theorem S_clevisref11Same   : SpecOk Try.prog 19 (mkS ps_clevisref11Same qs_clevisref11Same (N_clevisref11Same  W.big)) :=
  specOk_mk (fl := W.big) (d := 12) base (fun R x k => Q_clevisref11Same W.big R x k)
noncomputable def F_clevisref11Same : FT ps_clevisref11Same qs_clevisref11Same := N_clevisref11Same  W.big
theorem ok_clevisref11Same : SpecOk Try.prog 19 (mkS ps_clevisref11Same qs_clevisref11Same F_clevisref11Same) := S_clevisref11Same 
abbrev ps_state_Put : List PT := [.agg ((.prod (.slice ((.prod (.int .i64) (.prod ((.prod (.int .u64) (.prod (.int .u64) (.prod (.int .i64) (.prod (.int .i64) ((.prod (.int .u64) (.int .u64)))))))) (.int .i64))))) (.prod (.slice (.bool)) (.slice ((.prod (.int .i64) (.prod ((.prod (.int .u64) (.prod (.int .u64) (.prod (.int .i64) (.prod (.int .i64) ((.prod (.int .u64) (.int .u64)))))))) (.int .i64)))))))), .one (.int .i64), .agg ((.prod (.int .i64) (.prod ((.prod (.int .u64) (.prod (.int .u64) (.prod (.int .i64) (.prod (.int .i64) ((.prod (.int .u64) (.int .u64)))))))) (.int .i64))))]
abbrev qs_state_Put : List PT := [.agg ((.prod (.slice ((.prod (.int .i64) (.prod ((.prod (.int .u64) (.prod (.int .u64) (.prod (.int .i64) (.prod (.int .i64) ((.prod (.int .u64) (.int .u64)))))))) (.int .i64))))) (.prod (.slice (.bool)) (.slice ((.prod (.int .i64) (.prod ((.prod (.int .u64) (.prod (.int .u64) (.prod (.int .i64) (.prod (.int .i64) ((.prod (.int .u64) (.int .u64)))))))) (.int .i64))))))))]
noncomputable def N_state_Put (F_state_Check : FT ps_state_Check qs_state_Check) (F_state_right : FT ps_state_right qs_state_right)  : FT ps_state_Put qs_state_Put := fun R x k => match x with
  | ((x0Regs, x0Set, x0Saved), x1, (x2Kind, (x2Num_Umin, x2Num_Umax, x2Num_Smin, x2Num_Smax, (x2Num_Bits_Value, x2Num_Bits_Mask)), x2Region)) => 
      br (W.and2 (W.le 0 (W.ofNat (W.len x0Regs))) (W.le (W.mul (W.ofNat 64) (W.ofNat (W.len x0Regs))) 281474976710656))
        (br (W.and2 (W.le 0 (W.ofNat (W.len x0Set))) (W.le (W.mul (W.ofNat 1) (W.ofNat (W.len x0Set))) 281474976710656))
          (br (W.and2 (W.le 0 (W.ofNat (W.len x0Saved))) (W.le (W.mul (W.ofNat 64) (W.ofNat (W.len x0Saved))) 281474976710656))
            (br (W.pick (W.ge x1 0) (W.lt x1 11) false)
              (F_state_right R (x2Kind, (x2Num_Umin, x2Num_Umax, x2Num_Smin, x2Num_Smax, x2Num_Bits_Value, x2Num_Bits_Mask), x2Region) fun y =>
                br (W.pick true y false)
                  (F_state_Check R (x0Regs, x0Set, x0Saved) fun y =>
                    br (W.pick true y false)
                      (br (W.and2 (W.le 0 x1) (W.lt x1 (W.ofNat (W.toNat (W.ofNat (W.len x0Regs))))))
                        (k
                          (W.set (W.over (W.rep (W.toNat (W.ofNat (W.len x0Regs))) (0, (0, 0, 0, 0, 0, 0), 0)) 0 (W.slice x0Regs 0 (W.minN (W.len x0Regs) (W.toNat (W.ofNat (W.len x0Regs))))))
                              (W.toNat x1) (x2Kind, (x2Num_Umin, x2Num_Umax, x2Num_Smin, x2Num_Smax, x2Num_Bits_Value, x2Num_Bits_Mask), x2Region),
                            W.over (W.rep (W.toNat (W.ofNat (W.len x0Set))) false) 0 (W.slice x0Set 0 (W.minN (W.len x0Set) (W.toNat (W.ofNat (W.len x0Set))))),
                            W.over (W.rep (W.toNat (W.ofNat (W.len x0Saved))) (0, (0, 0, 0, 0, 0, 0), 0)) 0 (W.slice x0Saved 0 (W.minN (W.len x0Saved) (W.toNat (W.ofNat (W.len x0Saved)))))))
                        none)
                      (k
                        (W.over (W.rep (W.toNat (W.ofNat (W.len x0Regs))) (0, (0, 0, 0, 0, 0, 0), 0)) 0 (W.slice x0Regs 0 (W.minN (W.len x0Regs) (W.toNat (W.ofNat (W.len x0Regs))))),
                          W.over (W.rep (W.toNat (W.ofNat (W.len x0Set))) false) 0 (W.slice x0Set 0 (W.minN (W.len x0Set) (W.toNat (W.ofNat (W.len x0Set))))),
                          W.over (W.rep (W.toNat (W.ofNat (W.len x0Saved))) (0, (0, 0, 0, 0, 0, 0), 0)) 0 (W.slice x0Saved 0 (W.minN (W.len x0Saved) (W.toNat (W.ofNat (W.len x0Saved))))))))
                  (k
                    (W.over (W.rep (W.toNat (W.ofNat (W.len x0Regs))) (0, (0, 0, 0, 0, 0, 0), 0)) 0 (W.slice x0Regs 0 (W.minN (W.len x0Regs) (W.toNat (W.ofNat (W.len x0Regs))))),
                      W.over (W.rep (W.toNat (W.ofNat (W.len x0Set))) false) 0 (W.slice x0Set 0 (W.minN (W.len x0Set) (W.toNat (W.ofNat (W.len x0Set))))),
                      W.over (W.rep (W.toNat (W.ofNat (W.len x0Saved))) (0, (0, 0, 0, 0, 0, 0), 0)) 0 (W.slice x0Saved 0 (W.minN (W.len x0Saved) (W.toNat (W.ofNat (W.len x0Saved))))))))
              (k
                (W.over (W.rep (W.toNat (W.ofNat (W.len x0Regs))) (0, (0, 0, 0, 0, 0, 0), 0)) 0 (W.slice x0Regs 0 (W.minN (W.len x0Regs) (W.toNat (W.ofNat (W.len x0Regs))))),
                  W.over (W.rep (W.toNat (W.ofNat (W.len x0Set))) false) 0 (W.slice x0Set 0 (W.minN (W.len x0Set) (W.toNat (W.ofNat (W.len x0Set))))),
                  W.over (W.rep (W.toNat (W.ofNat (W.len x0Saved))) (0, (0, 0, 0, 0, 0, 0), 0)) 0 (W.slice x0Saved 0 (W.minN (W.len x0Saved) (W.toNat (W.ofNat (W.len x0Saved))))))))
            none)
          none)
        none
theorem S_state_Put {F_state_Check : FT ps_state_Check qs_state_Check} {F_state_right : FT ps_state_right qs_state_right} (h_state_Check : SpecOk Try.prog 8 (mkS ps_state_Check qs_state_Check F_state_Check)) (h_state_right : SpecOk Try.prog 28 (mkS ps_state_right qs_state_right F_state_right)) : SpecOk Try.prog 20 (mkS ps_state_Put qs_state_Put (N_state_Put F_state_Check F_state_right)) :=
  specOk_mk (fl := 10) (d := 12) (cfgOk_cons (cfgOk_cons base h_state_right) h_state_Check) (by rintro R ⟨⟨x0Regs, x0Set, x0Saved⟩, x1, ⟨x2Kind, ⟨x2Num_Umin, x2Num_Umax, x2Num_Smin, x2Num_Smax, ⟨x2Num_Bits_Value, x2Num_Bits_Mask⟩⟩, x2Region⟩⟩ k; kernel_rfl)
noncomputable def F_state_Put : FT ps_state_Put qs_state_Put := N_state_Put F_state_Check F_state_right 
theorem ok_state_Put : SpecOk Try.prog 20 (mkS ps_state_Put qs_state_Put F_state_Put) := S_state_Put ok_state_Check ok_state_right
abbrev ps_clevisref11Put : List PT := [.agg ((.prod (.slice ((.prod (.int .i64) (.prod ((.prod (.int .u64) (.prod (.int .u64) (.prod (.int .i64) (.prod (.int .i64) ((.prod (.int .u64) (.int .u64)))))))) (.int .i64))))) (.prod (.slice (.bool)) (.slice ((.prod (.int .i64) (.prod ((.prod (.int .u64) (.prod (.int .u64) (.prod (.int .i64) (.prod (.int .i64) ((.prod (.int .u64) (.int .u64)))))))) (.int .i64)))))))), .one (.int .i64), .agg ((.prod (.int .i64) (.prod ((.prod (.int .u64) (.prod (.int .u64) (.prod (.int .i64) (.prod (.int .i64) ((.prod (.int .u64) (.int .u64)))))))) (.int .i64))))]
abbrev qs_clevisref11Put : List PT := [.agg ((.prod (.slice ((.prod (.int .i64) (.prod ((.prod (.int .u64) (.prod (.int .u64) (.prod (.int .i64) (.prod (.int .i64) ((.prod (.int .u64) (.int .u64)))))))) (.int .i64))))) (.prod (.slice (.bool)) (.slice ((.prod (.int .i64) (.prod ((.prod (.int .u64) (.prod (.int .u64) (.prod (.int .i64) (.prod (.int .i64) ((.prod (.int .u64) (.int .u64)))))))) (.int .i64))))))))]
noncomputable def N_clevisref11Put (F_clevisref11Right : FT ps_clevisref11Right qs_clevisref11Right) (F_clevisref11Check : FT ps_clevisref11Check qs_clevisref11Check)  : FT ps_clevisref11Put qs_clevisref11Put := fun R x k => match x with
  | ((x0Regs, x0Set, x0Saved), x1, (x2Kind, (x2Num_Umin, x2Num_Umax, x2Num_Smin, x2Num_Smax, (x2Num_Bits_Value, x2Num_Bits_Mask)), x2Region)) => 
      br (W.leN (W.mulN (W.len x0Regs) 64) 140737488355328)
        (br (W.leN (W.mulN (W.len x0Set) 1) 140737488355328)
          (br (W.leN (W.mulN (W.len x0Saved) 64) 140737488355328)
            (F_clevisref11Check R (x0Regs, x0Set, x0Saved) fun y =>
              br (W.pick (W.pick y (W.ge x1 0) false) (W.lt x1 11) false)
                (F_clevisref11Right R (x2Kind, (x2Num_Umin, x2Num_Umax, x2Num_Smin, x2Num_Smax, x2Num_Bits_Value, x2Num_Bits_Mask), x2Region) fun y =>
                  br (W.pick true y false)
                    (br (W.and2 (W.le 0 x1) (W.lt x1 (W.ofNat (W.len x0Regs))))
                      (k (W.set x0Regs (W.toNat x1) (x2Kind, (x2Num_Umin, x2Num_Umax, x2Num_Smin, x2Num_Smax, x2Num_Bits_Value, x2Num_Bits_Mask), x2Region), x0Set, x0Saved)) none)
                    (k (x0Regs, x0Set, x0Saved)))
                (k (x0Regs, x0Set, x0Saved)))
            none)
          none)
        none
theorem S_clevisref11Put {F_clevisref11Right : FT ps_clevisref11Right qs_clevisref11Right} {F_clevisref11Check : FT ps_clevisref11Check qs_clevisref11Check} (h_clevisref11Right : SpecOk Try.prog 9 (mkS ps_clevisref11Right qs_clevisref11Right F_clevisref11Right)) (h_clevisref11Check : SpecOk Try.prog 46 (mkS ps_clevisref11Check qs_clevisref11Check F_clevisref11Check)) : SpecOk Try.prog 21 (mkS ps_clevisref11Put qs_clevisref11Put (N_clevisref11Put F_clevisref11Right F_clevisref11Check)) :=
  specOk_mk (fl := 10) (d := 12) (cfgOk_cons (cfgOk_cons base h_clevisref11Check) h_clevisref11Right) (by rintro R ⟨⟨x0Regs, x0Set, x0Saved⟩, x1, ⟨x2Kind, ⟨x2Num_Umin, x2Num_Umax, x2Num_Smin, x2Num_Smax, ⟨x2Num_Bits_Value, x2Num_Bits_Mask⟩⟩, x2Region⟩⟩ k; kernel_rfl)
noncomputable def F_clevisref11Put : FT ps_clevisref11Put qs_clevisref11Put := N_clevisref11Put F_clevisref11Right F_clevisref11Check 
theorem ok_clevisref11Put : SpecOk Try.prog 21 (mkS ps_clevisref11Put qs_clevisref11Put F_clevisref11Put) := S_clevisref11Put ok_clevisref11Right ok_clevisref11Check
abbrev ps_clevisref11Store : List PT := [.agg ((.prod (.slice ((.prod (.int .i64) (.prod ((.prod (.int .u64) (.prod (.int .u64) (.prod (.int .i64) (.prod (.int .i64) ((.prod (.int .u64) (.int .u64)))))))) (.int .i64))))) (.prod (.slice (.bool)) (.slice ((.prod (.int .i64) (.prod ((.prod (.int .u64) (.prod (.int .u64) (.prod (.int .i64) (.prod (.int .i64) ((.prod (.int .u64) (.int .u64)))))))) (.int .i64)))))))), .one (.int .i64), .one (.int .i64), .one (.int .i64), .agg ((.prod (.int .i64) (.prod ((.prod (.int .u64) (.prod (.int .u64) (.prod (.int .i64) (.prod (.int .i64) ((.prod (.int .u64) (.int .u64)))))))) (.int .i64))))]
abbrev qs_clevisref11Store : List PT := [.agg ((.prod (.slice ((.prod (.int .i64) (.prod ((.prod (.int .u64) (.prod (.int .u64) (.prod (.int .i64) (.prod (.int .i64) ((.prod (.int .u64) (.int .u64)))))))) (.int .i64))))) (.prod (.slice (.bool)) (.slice ((.prod (.int .i64) (.prod ((.prod (.int .u64) (.prod (.int .u64) (.prod (.int .i64) (.prod (.int .i64) ((.prod (.int .u64) (.int .u64)))))))) (.int .i64))))))))]
noncomputable def PL_clevisref11Store_5_0 (F_clevisref11Right : FT ps_clevisref11Right qs_clevisref11Right) (F_clevisref11places : FT ps_clevisref11places qs_clevisref11places) (fl : Nat)  (R : Type) (k : PTs.D qs_clevisref11Store → Option R) : LoopI R :=
  locate (Cw Try.prog [(9, mkS ps_clevisref11Right qs_clevisref11Right F_clevisref11Right), (45, mkS ps_clevisref11places qs_clevisref11places F_clevisref11places)] noH) fl (call (Cw Try.prog [(9, mkS ps_clevisref11Right qs_clevisref11Right F_clevisref11Right), (45, mkS ps_clevisref11places qs_clevisref11places F_clevisref11places)] noH) fl 11) 0 22 5 [] (getR qs_clevisref11Store k)
noncomputable def P_clevisref11Store_5_0 (F_clevisref11Right : FT ps_clevisref11Right qs_clevisref11Right) (F_clevisref11places : FT ps_clevisref11places qs_clevisref11places) (fl : Nat)  (n : Nat) (R : Type) (y0 : Int) (y1 : Int) (y2 : Int) (y3 : Int) (y4 : Int) (y5 : Int) (y6 : Int) (y7 : Int) (y8 : Int) (y9 : Int) (y10 : Int) (y11 : Int) (y12 : Nat) (y13 : Nat) (y14 : Nat) (y15 : List (Int × (Int × Int × Int × Int × Int × Int) × Int)) (y16 : List Bool) (y17 : List (Int × (Int × Int × Int × Int × Int × Int) × Int)) (k : PTs.D qs_clevisref11Store → Option R) : Option R :=
  loopH (PL_clevisref11Store_5_0 F_clevisref11Right F_clevisref11places fl  R k).body (PL_clevisref11Store_5_0 F_clevisref11Right F_clevisref11places fl  R k).head n (some (
      S.mk
        [V.any, V.int IntKind.i64 y0, V.int IntKind.i64 y1, V.int IntKind.i64 y2, V.any, V.any, V.any, V.any, V.any, V.ptr 0 0, V.ptr 1 0, V.ptr 2 0, V.int IntKind.i64 y3, V.any, V.any, V.any, V.any, V.any,
          V.any, V.any, V.any, V.any, V.any, V.any, V.any, V.any, V.any, V.any, V.any, V.any, V.any, V.any, V.any, V.any, V.any, V.any, V.any, V.any, V.any, V.any, V.any, V.any, V.any, V.any, V.any, V.any,
          V.any, V.any, V.any, V.any, V.any, V.any, V.any, V.any, V.any, V.any, V.any, V.any, V.any, V.any, V.any, V.any, V.any, V.any, V.any, V.any, V.any]
        []
        [Blk.cells [V.int IntKind.i64 y4, V.int IntKind.u64 y5, V.int IntKind.u64 y6, V.int IntKind.i64 y7, V.int IntKind.i64 y8, V.int IntKind.u64 y9, V.int IntKind.u64 y10, V.int IntKind.i64 y11],
          Blk.cells [V.nsl, V.nsl, V.nsl], Blk.cells [V.sl 3 8 y12, V.sl 4 1 y13, V.sl 5 8 y14],
          Blk.row
            (Ty.prod (Ty.int IntKind.i64)
              (Ty.prod (Ty.prod (Ty.int IntKind.u64) (Ty.prod (Ty.int IntKind.u64) (Ty.prod (Ty.int IntKind.i64) (Ty.prod (Ty.int IntKind.i64) (Ty.prod (Ty.int IntKind.u64) (Ty.int IntKind.u64))))))
                (Ty.int IntKind.i64)))
            y15,
          Blk.row Ty.bool y16,
          Blk.row
            (Ty.prod (Ty.int IntKind.i64)
              (Ty.prod (Ty.prod (Ty.int IntKind.u64) (Ty.prod (Ty.int IntKind.u64) (Ty.prod (Ty.int IntKind.i64) (Ty.prod (Ty.int IntKind.i64) (Ty.prod (Ty.int IntKind.u64) (Ty.int IntKind.u64))))))
                (Ty.int IntKind.i64)))
            y17])) (PL_clevisref11Store_5_0 F_clevisref11Right F_clevisref11places fl  R k).kont
theorem P_clevisref11Store_5_0_s {F_clevisref11Right : FT ps_clevisref11Right qs_clevisref11Right} {F_clevisref11places : FT ps_clevisref11places qs_clevisref11places} (fl : Nat)  (n : Nat) (R : Type) (y0 : Int) (y1 : Int) (y2 : Int) (y3 : Int) (y4 : Int) (y5 : Int) (y6 : Int) (y7 : Int) (y8 : Int) (y9 : Int) (y10 : Int) (y11 : Int) (y12 : Nat) (y13 : Nat) (y14 : Nat) (y15 : List (Int × (Int × Int × Int × Int × Int × Int) × Int)) (y16 : List Bool) (y17 : List (Int × (Int × Int × Int × Int × Int × Int) × Int)) (k : PTs.D qs_clevisref11Store → Option R) : P_clevisref11Store_5_0 F_clevisref11Right F_clevisref11places fl  (n + 1) R y0 y1 y2 y3 y4 y5 y6 y7 y8 y9 y10 y11 y12 y13 y14 y15 y16 y17 k =
      br (W.lt y3 (W.wrap IntKind.i64 (W.add y1 y2)))
        (br (W.and2 (W.le 0 (W.wrap IntKind.i64 (W.quo y3 8))) (W.lt (W.wrap IntKind.i64 (W.quo y3 8)) (W.ofNat y14)))
          (br (W.eq y0 y1)
            (br (W.and2 (W.le 0 y3) (W.lt y3 (W.ofNat y13)))
              (P_clevisref11Store_5_0 F_clevisref11Right F_clevisref11places fl n R y0 y1 y2 (W.wrap IntKind.i64 (W.add y3 1)) y4 y5 y6 y7 y8 y9 y10 y11 y12 y13 y14 y15 (W.set y16 (W.toNat y3) true)
                (W.set y17 (W.toNat (W.wrap IntKind.i64 (W.quo y3 8))) (0, (0, 0, 0, 0, 0, 0), 0)) k)
              none)
            (P_clevisref11Store_5_0 F_clevisref11Right F_clevisref11places fl n R y0 y1 y2 (W.wrap IntKind.i64 (W.add y3 1)) y4 y5 y6 y7 y8 y9 y10 y11 y12 y13 y14 y15 y16
              (W.set y17 (W.toNat (W.wrap IntKind.i64 (W.quo y3 8))) (0, (0, 0, 0, 0, 0, 0), 0)) k))
          none)
        (br (W.or2 (W.not (W.pick (W.eq y0 y1) (W.eq y2 8) false)) true)
          (br (W.pick (W.pick (W.eq y0 y1) (W.eq y2 8) false) (W.eq (W.rem y0 8) 0) false)
            (br (W.and2 (W.le 0 (W.wrap IntKind.i64 (W.quo y0 8))) (W.lt (W.wrap IntKind.i64 (W.quo y0 8)) (W.ofNat y14)))
              (k (y15, y16, W.set y17 (W.toNat (W.wrap IntKind.i64 (W.quo y0 8))) (y4, (y5, y6, y7, y8, y9, y10), y11))) none)
            (k (y15, y16, y17)))
          none) := by kernel_rfl
noncomputable def N_clevisref11Store (F_clevisref11Right : FT ps_clevisref11Right qs_clevisref11Right) (F_clevisref11places : FT ps_clevisref11places qs_clevisref11places) (fl : Nat) : FT ps_clevisref11Store qs_clevisref11Store := fun R x k => match x with
  | ((x0Regs, x0Set, x0Saved), x1, x2, x3, (x4Kind, (x4Num_Umin, x4Num_Umax, x4Num_Smin, x4Num_Smax, (x4Num_Bits_Value, x4Num_Bits_Mask)), x4Region)) => 
      br (W.leN (W.mulN (W.len x0Regs) 64) 140737488355328)
        (br (W.leN (W.mulN (W.len x0Set) 1) 140737488355328)
          (br (W.leN (W.mulN (W.len x0Saved) 64) 140737488355328)
            (F_clevisref11places R ((x0Regs, x0Set, x0Saved), x1, x2, x3) fun y =>
              br (W.not (W.not y))
                (F_clevisref11Right R (x4Kind, (x4Num_Umin, x4Num_Umax, x4Num_Smin, x4Num_Smax, x4Num_Bits_Value, x4Num_Bits_Mask), x4Region) fun y =>
                  br (W.pick false true (W.not y)) (k (x0Regs, x0Set, x0Saved))
                    (P_clevisref11Store_5_0 F_clevisref11Right F_clevisref11places fl fl R x1 x2 x3 x1 x4Kind x4Num_Umin x4Num_Umax x4Num_Smin x4Num_Smax x4Num_Bits_Value x4Num_Bits_Mask x4Region
                      (W.len x0Regs) (W.len x0Set) (W.len x0Saved) x0Regs x0Set x0Saved k))
                (k (x0Regs, x0Set, x0Saved)))
            none)
          none)
        none
theorem Q_clevisref11Store {F_clevisref11Right : FT ps_clevisref11Right qs_clevisref11Right} {F_clevisref11places : FT ps_clevisref11places qs_clevisref11places} (fl : Nat) (R : Type) (x : PTs.D ps_clevisref11Store) (k : PTs.D qs_clevisref11Store → Option R) : call (Cw Try.prog [(9, mkS ps_clevisref11Right qs_clevisref11Right F_clevisref11Right), (45, mkS ps_clevisref11places qs_clevisref11places F_clevisref11places)] noH) fl 12 22 (encL true ps_clevisref11Store x) [] (getR qs_clevisref11Store k) = N_clevisref11Store F_clevisref11Right F_clevisref11places fl R x k := by
  obtain ⟨⟨x0Regs, x0Set, x0Saved⟩, x1, x2, x3, ⟨x4Kind, ⟨x4Num_Umin, x4Num_Umax, x4Num_Smin, x4Num_Smax, ⟨x4Num_Bits_Value, x4Num_Bits_Mask⟩⟩, x4Region⟩⟩ := x; kernel_rfl
theorem S_clevisref11Store {F_clevisref11Right : FT ps_clevisref11Right qs_clevisref11Right} {F_clevisref11places : FT ps_clevisref11places qs_clevisref11places} (h_clevisref11Right : SpecOk Try.prog 9 (mkS ps_clevisref11Right qs_clevisref11Right F_clevisref11Right)) (h_clevisref11places : SpecOk Try.prog 45 (mkS ps_clevisref11places qs_clevisref11places F_clevisref11places)) : SpecOk Try.prog 22 (mkS ps_clevisref11Store qs_clevisref11Store (N_clevisref11Store F_clevisref11Right F_clevisref11places W.big)) :=
  specOk_mk (fl := W.big) (d := 12) (cfgOk_cons (cfgOk_cons base h_clevisref11places) h_clevisref11Right) (fun R x k => Q_clevisref11Store W.big R x k)
noncomputable def F_clevisref11Store : FT ps_clevisref11Store qs_clevisref11Store := N_clevisref11Store F_clevisref11Right F_clevisref11places W.big
theorem ok_clevisref11Store : SpecOk Try.prog 22 (mkS ps_clevisref11Store qs_clevisref11Store F_clevisref11Store) := S_clevisref11Store ok_clevisref11Right ok_clevisref11places
abbrev ps_clevislaw11StateMoves : List PT := [.agg ((.prod (.slice ((.prod (.int .i64) (.prod ((.prod (.int .u64) (.prod (.int .u64) (.prod (.int .i64) (.prod (.int .i64) ((.prod (.int .u64) (.int .u64)))))))) (.int .i64))))) (.prod (.slice (.bool)) (.slice ((.prod (.int .i64) (.prod ((.prod (.int .u64) (.prod (.int .u64) (.prod (.int .i64) (.prod (.int .i64) ((.prod (.int .u64) (.int .u64)))))))) (.int .i64)))))))), .agg ((.prod (.int .i64) (.prod ((.prod (.int .u64) (.prod (.int .u64) (.prod (.int .i64) (.prod (.int .i64) ((.prod (.int .u64) (.int .u64)))))))) (.int .i64)))), .one (.int .i64), .one (.int .i64), .one (.int .i64)]
noncomputable def L_clevislaw11StateMoves (F_state_Store : FT ps_state_Store qs_state_Store) (F_state_Ready : FT ps_state_Ready qs_state_Ready) (F_state_Load : FT ps_state_Load qs_state_Load) (F_clevislaw11heads : FT ps_clevislaw11heads qs_clevislaw11heads) (F_clevisref11Ready : FT ps_clevisref11Ready qs_clevisref11Ready) (F_clevisref11Load : FT ps_clevisref11Load qs_clevisref11Load) (F_clevisref11Same : FT ps_clevisref11Same qs_clevisref11Same) (F_state_Put : FT ps_state_Put qs_state_Put) (F_clevisref11Put : FT ps_clevisref11Put qs_clevisref11Put) (F_clevisref11Store : FT ps_clevisref11Store qs_clevisref11Store)  (x : PTs.D ps_clevislaw11StateMoves) : Option Unit := match x with
  | ((x0Regs, x0Set, x0Saved), (x1Kind, (x1Num_Umin, x1Num_Umax, x1Num_Smin, x1Num_Smax, (x1Num_Bits_Value, x1Num_Bits_Mask)), x1Region), x2, x3, x4) => 
      br (W.leN (W.mulN (W.len x0Regs) 64) 140737488355328)
        (br (W.leN (W.mulN (W.len x0Set) 1) 140737488355328)
          (br (W.leN (W.mulN (W.len x0Saved) 64) 140737488355328)
            (F_state_Load Unit ((x0Regs, x0Set, x0Saved), x2, x3, x4) fun y =>
              F_clevisref11Load Unit ((x0Regs, x0Set, x0Saved), x2, x3, x4) fun y_1 =>
                F_state_Put Unit ((x0Regs, x0Set, x0Saved), x4, x1Kind, (x1Num_Umin, x1Num_Umax, x1Num_Smin, x1Num_Smax, x1Num_Bits_Value, x1Num_Bits_Mask), x1Region) fun y_2 =>
                  F_clevisref11Put Unit ((x0Regs, x0Set, x0Saved), x4, x1Kind, (x1Num_Umin, x1Num_Umax, x1Num_Smin, x1Num_Smax, x1Num_Bits_Value, x1Num_Bits_Mask), x1Region) fun y_3 =>
                    F_clevisref11Same Unit ((y_2.1, y_2.2.1, y_2.2.2), y_3.1, y_3.2.1, y_3.2.2) fun y_4 =>
                      br y_4
                        (F_state_Store Unit ((x0Regs, x0Set, x0Saved), x2, x3, x4, x1Kind, (x1Num_Umin, x1Num_Umax, x1Num_Smin, x1Num_Smax, x1Num_Bits_Value, x1Num_Bits_Mask), x1Region)
                          fun y_5 =>
                          F_clevisref11Store Unit ((x0Regs, x0Set, x0Saved), x2, x3, x4, x1Kind, (x1Num_Umin, x1Num_Umax, x1Num_Smin, x1Num_Smax, x1Num_Bits_Value, x1Num_Bits_Mask), x1Region)
                            fun y_6 =>
                            F_clevisref11Same Unit ((y_5.1, y_5.2.1, y_5.2.2), y_6.1, y_6.2.1, y_6.2.2) fun y_7 =>
                              br
                                (W.pick
                                  (W.pick (W.pick true y_7 false)
                                    (W.and2 (W.eq y.1.1 y_1.1.1)
                                      (W.and2 (W.eq y.1.2.1.1 y_1.1.2.1.1)
                                        (W.and2 (W.eq y.1.2.1.2.1 y_1.1.2.1.2.1)
                                          (W.and2 (W.eq y.1.2.1.2.2.1 y_1.1.2.1.2.2.1)
                                            (W.and2 (W.eq y.1.2.1.2.2.2.1 y_1.1.2.1.2.2.2.1)
                                              (W.and2 (W.eq y.1.2.1.2.2.2.2.1 y_1.1.2.1.2.2.2.2.1) (W.and2 (W.eq y.1.2.1.2.2.2.2.2 y_1.1.2.1.2.2.2.2.2) (W.and2 (W.eq y.1.2.2 y_1.1.2.2) true))))))))
                                    false)
                                  (W.eqB y.2 y_1.2) false)
                                (F_state_Ready Unit ((x0Regs, x0Set, x0Saved), x2, x3) fun y =>
                                  F_clevisref11Ready Unit ((x0Regs, x0Set, x0Saved), x2, x3) fun y_8 =>
                                    br (W.pick true (W.eqB y y_8) false)
                                      (F_clevisref11Same Unit ((x0Regs, x0Set, x0Saved), x0Regs, x0Set, x0Saved) fun y =>
                                        br (W.pick true y false) (F_clevislaw11heads Unit () fun y => br (W.pick true y false) (some ()) none) none)
                                      none)
                                none)
                        (br
                          (W.pick
                            (W.pick false
                              (W.and2 (W.eq y.1.1 y_1.1.1)
                                (W.and2 (W.eq y.1.2.1.1 y_1.1.2.1.1)
                                  (W.and2 (W.eq y.1.2.1.2.1 y_1.1.2.1.2.1)
                                    (W.and2 (W.eq y.1.2.1.2.2.1 y_1.1.2.1.2.2.1)
                                      (W.and2 (W.eq y.1.2.1.2.2.2.1 y_1.1.2.1.2.2.2.1)
                                        (W.and2 (W.eq y.1.2.1.2.2.2.2.1 y_1.1.2.1.2.2.2.2.1) (W.and2 (W.eq y.1.2.1.2.2.2.2.2 y_1.1.2.1.2.2.2.2.2) (W.and2 (W.eq y.1.2.2 y_1.1.2.2) true))))))))
                              false)
                            (W.eqB y.2 y_1.2) false)
                          (F_state_Ready Unit ((x0Regs, x0Set, x0Saved), x2, x3) fun y =>
                            F_clevisref11Ready Unit ((x0Regs, x0Set, x0Saved), x2, x3) fun y_5 =>
                              br (W.pick true (W.eqB y y_5) false)
                                (F_clevisref11Same Unit ((x0Regs, x0Set, x0Saved), x0Regs, x0Set, x0Saved) fun y =>
                                  br (W.pick true y false) (F_clevislaw11heads Unit () fun y => br (W.pick true y false) (some ()) none) none)
                                none)
                          none))
            none)
          none)
        none
theorem E_clevislaw11StateMoves {F_state_Store : FT ps_state_Store qs_state_Store} {F_state_Ready : FT ps_state_Ready qs_state_Ready} {F_state_Load : FT ps_state_Load qs_state_Load} {F_clevislaw11heads : FT ps_clevislaw11heads qs_clevislaw11heads} {F_clevisref11Ready : FT ps_clevisref11Ready qs_clevisref11Ready} {F_clevisref11Load : FT ps_clevisref11Load qs_clevisref11Load} {F_clevisref11Same : FT ps_clevisref11Same qs_clevisref11Same} {F_state_Put : FT ps_state_Put qs_state_Put} {F_clevisref11Put : FT ps_clevisref11Put qs_clevisref11Put} {F_clevisref11Store : FT ps_clevisref11Store qs_clevisref11Store} (h_state_Store : SpecOk Try.prog 11 (mkS ps_state_Store qs_state_Store F_state_Store)) (h_state_Ready : SpecOk Try.prog 23 (mkS ps_state_Ready qs_state_Ready F_state_Ready)) (h_state_Load : SpecOk Try.prog 12 (mkS ps_state_Load qs_state_Load F_state_Load)) (h_clevislaw11heads : SpecOk Try.prog 10 (mkS ps_clevislaw11heads qs_clevislaw11heads F_clevislaw11heads)) (h_clevisref11Ready : SpecOk Try.prog 24 (mkS ps_clevisref11Ready qs_clevisref11Ready F_clevisref11Ready)) (h_clevisref11Load : SpecOk Try.prog 18 (mkS ps_clevisref11Load qs_clevisref11Load F_clevisref11Load)) (h_clevisref11Same : SpecOk Try.prog 19 (mkS ps_clevisref11Same qs_clevisref11Same F_clevisref11Same)) (h_state_Put : SpecOk Try.prog 20 (mkS ps_state_Put qs_state_Put F_state_Put)) (h_clevisref11Put : SpecOk Try.prog 21 (mkS ps_clevisref11Put qs_clevisref11Put F_clevisref11Put)) (h_clevisref11Store : SpecOk Try.prog 22 (mkS ps_clevisref11Store qs_clevisref11Store F_clevisref11Store)) (x : PTs.D ps_clevislaw11StateMoves) (hL : L_clevislaw11StateMoves F_state_Store F_state_Ready F_state_Load F_clevislaw11heads F_clevisref11Ready F_clevisref11Load F_clevisref11Same F_state_Put F_clevisref11Put F_clevisref11Store x = some ()) :
    ∃ (C : Cfg) (fl d : Nat), CfgOk C ∧ C.P = Try.prog ∧ call C fl d 7 (encL false ps_clevislaw11StateMoves x) [] getL = some () :=
  ⟨_, 10, 12, (cfgOk_cons (cfgOk_cons (cfgOk_cons (cfgOk_cons (cfgOk_cons (cfgOk_cons (cfgOk_cons (cfgOk_cons (cfgOk_cons (cfgOk_cons base h_clevisref11Store) h_clevisref11Put) h_state_Put) h_clevisref11Same) h_clevisref11Load) h_clevisref11Ready) h_clevislaw11heads) h_state_Load) h_state_Ready) h_state_Store), rfl, (show _ = L_clevislaw11StateMoves F_state_Store F_state_Ready F_state_Load F_clevislaw11heads F_clevisref11Ready F_clevisref11Load F_clevisref11Same F_state_Put F_clevisref11Put F_clevisref11Store x by obtain ⟨⟨x0Regs, x0Set, x0Saved⟩, ⟨x1Kind, ⟨x1Num_Umin, x1Num_Umax, x1Num_Smin, x1Num_Smax, ⟨x1Num_Bits_Value, x1Num_Bits_Mask⟩⟩, x1Region⟩, x2, x3, x4⟩ := x; kernel_rfl).trans hL⟩
end Go.Proofs.Ytokedpogofnenaa
