import Derived.Test.YtdfelkcioeinfaaDoorProg
import Derived.Test.YtdfelkcioeinfaaDoorEnwZ4
import Derived.Test.YtdfelkcioeinfaaDoorEnwZ6
import Derived.Test.YtdfelkcioeinfaaDoorEnwSh03
import Derived.Test.YtdfelkcioeinfaaDoorEnwAs03
import Derived.Test.YtdfelkcioeinfaaDoorEnwFu03
import Derived.KernelRfl
set_option maxHeartbeats 0
set_option maxRecDepth 1000000
set_option linter.unusedVariables false
namespace Go.Proofs.YtdfelkcioeinfaaDoor
open Go Go.Eng
def hintsF : FuncId → Nat → List Hint := fun g id => if g == 38 && id == 3 then [.tmp 5 (.int .u8) false] else if g == 15 && id == 5 then [.tmp 4 (.int .u8) false] else if g == 14 && id == 4 then [.tmp 4 (.int .u8) false] else if g == 10 && id == 7 then [.tmp 4 (.prod (.int .i64) (.prod (.int .i64) (.prod (.int .i64) (.prod (.int .i64) (.prod (.int .i64) (.int .u64)))))) false] else if g == 20 && id == 6 then [.tmp 4 (.prod (.int .i64) (.prod (.int .i64) (.prod (.int .i64) (.prod (.int .i64) (.prod (.int .i64) (.int .u64)))))) false] else []
theorem base : CfgOk (Cw Tryd.prog [] hintsF) := cfgOk_nil (noGo_of (by kernel_rfl)) (by kernel_rfl) (by kernel_rfl)
abbrev ps_word_Get : List PT := [.one (.slice (.int .u8))]
abbrev qs_word_Get : List PT := [.one (.int .u64)]
noncomputable def PL_word_Get_5_0  (fl : Nat)  (R : Type) (k : PTs.D qs_word_Get → Option R) : LoopI R :=
  locate (Cw Tryd.prog [] hintsF) fl (call (Cw Tryd.prog [] hintsF) fl 11) 0 44 5 [] (getR qs_word_Get k)
noncomputable def P_word_Get_5_0  (fl : Nat)  (n : Nat) (R : Type) (y0 : Int) (y1 : Int) (y2 : List Int) (k : PTs.D qs_word_Get → Option R) : Option R :=
  loopH (PL_word_Get_5_0  fl  R k).body (PL_word_Get_5_0  fl  R k).head n (some (
      S.mk [V.any, V.any, V.any, V.parr 0 8 1, V.int IntKind.u64 y0, V.any, V.any, V.any, V.any, V.int IntKind.i64 y1, V.any, V.any, V.any, V.any, V.any, V.any, V.any, V.any, V.any, V.any, V.any, V.any] []
        [Blk.row (Ty.int IntKind.u8) y2])) (PL_word_Get_5_0  fl  R k).kont
theorem P_word_Get_5_0_s  (fl : Nat)  (n : Nat) (R : Type) (y0 : Int) (y1 : Int) (y2 : List Int) (k : PTs.D qs_word_Get → Option R) : P_word_Get_5_0  fl  (n + 1) R y0 y1 y2 k =
      br (W.lt y1 8)
        (br (W.and2 (W.le 0 (W.wrap IntKind.i64 (W.sub 7 y1))) (W.lt (W.wrap IntKind.i64 (W.sub 7 y1)) 8))
          (P_word_Get_5_0 fl n R (W.wrap IntKind.u64 (W.or IntKind.u64 (W.wrap IntKind.u64 (W.shl IntKind.u64 y0 8)) (W.wrap IntKind.u64 (W.get y2 (W.toNat (W.wrap IntKind.i64 (W.sub 7 y1))) 0))))
            (W.wrap IntKind.i64 (W.add y1 1)) y2 k)
          none)
        (k y0) := by kernel_rfl
noncomputable def N_word_Get  (fl : Nat) : FT ps_word_Get qs_word_Get := fun R x k => match x with
  | x0 => 
      P_word_Get_5_0 fl fl R 0 0 (W.over [0, 0, 0, 0, 0, 0, 0, 0] 0 (W.slice x0 0 (W.minN (W.len x0) 8))) k
theorem Q_word_Get  (fl : Nat) (R : Type) (x : PTs.D ps_word_Get) (k : PTs.D qs_word_Get → Option R) : call (Cw Tryd.prog [] hintsF) fl 12 44 (encL true ps_word_Get x) [] (getR qs_word_Get k) = N_word_Get  fl R x k := by
  kernel_rfl
theorem S_word_Get   : SpecOk Tryd.prog 44 (mkS ps_word_Get qs_word_Get (N_word_Get  W.big)) :=
  specOk_mk (fl := W.big) (d := 12) base (fun R x k => Q_word_Get W.big R x k)
noncomputable def F_word_Get : FT ps_word_Get qs_word_Get := N_word_Get  W.big
theorem ok_word_Get : SpecOk Tryd.prog 44 (mkS ps_word_Get qs_word_Get F_word_Get) := S_word_Get 
abbrev ps_code_read : List PT := [.one (.slice (.int .u8))]
abbrev qs_code_read : List PT := [.agg ((.prod (.int .i64) (.prod (.int .i64) (.prod (.int .i64) (.prod (.int .i64) (.prod (.int .i64) (.int .u64)))))))]
noncomputable def N_code_read (F_word_Get : FT ps_word_Get qs_word_Get)  : FT ps_code_read qs_code_read := fun R x k => match x with
  | x0 => 
      br (W.lt 0 (W.ofNat (W.len x0)))
        (br (W.lt 1 (W.ofNat (W.len x0)))
          (br (W.lt 1 (W.ofNat (W.len x0)))
            (br (W.le 4 (W.ofNat (W.len x0)))
              (F_word_Get R (W.slice x0 2 2) fun y =>
                br (W.le 8 (W.ofNat (W.len x0)))
                  (F_word_Get R (W.slice x0 4 4) fun y_1 =>
                    k
                      (W.wrap IntKind.i64 (W.get x0 0 0), W.wrap IntKind.i64 (W.wrap IntKind.u8 (W.and IntKind.u8 (W.get x0 1 0) 15)), W.wrap IntKind.i64 (W.shr IntKind.u8 (W.get x0 1 0) 4),
                        W.wrap IntKind.i64 (W.wrap IntKind.i16 y), W.wrap IntKind.i64 (W.wrap IntKind.i32 y_1), 0))
                  none)
              none)
            none)
          none)
        none
theorem S_code_read {F_word_Get : FT ps_word_Get qs_word_Get} (h_word_Get : SpecOk Tryd.prog 44 (mkS ps_word_Get qs_word_Get F_word_Get)) : SpecOk Tryd.prog 31 (mkS ps_code_read qs_code_read (N_code_read F_word_Get)) :=
  specOk_mk (fl := 10) (d := 12) (cfgOk_cons base h_word_Get) (by intro R x0 k; kernel_rfl)
noncomputable def F_code_read : FT ps_code_read qs_code_read := N_code_read F_word_Get 
theorem ok_code_read : SpecOk Tryd.prog 31 (mkS ps_code_read qs_code_read F_code_read) := S_code_read ok_word_Get
abbrev ps_word_low : List PT := [.one (.int .u64), .one (.bool)]
abbrev qs_word_low : List PT := [.one (.int .u64)]
noncomputable def N_word_low   : FT ps_word_low qs_word_low := fun R x k => match x with
  | (x0, x1) => 
      br x1 (k x0) (k (W.wrap IntKind.u64 (W.wrap IntKind.u32 x0)))
theorem S_word_low   : SpecOk Tryd.prog 45 (mkS ps_word_low qs_word_low (N_word_low )) :=
  specOk_mk (fl := 10) (d := 12) base (by rintro R ⟨x0, x1⟩ k; kernel_rfl)
noncomputable def F_word_low : FT ps_word_low qs_word_low := N_word_low  
theorem ok_word_low : SpecOk Tryd.prog 45 (mkS ps_word_low qs_word_low F_word_low) := S_word_low 
abbrev ps_word_Imm : List PT := [.one (.int .i64), .one (.bool)]
abbrev qs_word_Imm : List PT := [.one (.int .u64)]
noncomputable def N_word_Imm (F_word_low : FT ps_word_low qs_word_low)  : FT ps_word_Imm qs_word_Imm := fun R x k => match x with
  | (x0, x1) => 
      F_word_low R (W.wrap IntKind.u64 (W.wrap IntKind.i32 x0), x1) fun y => k y
theorem S_word_Imm {F_word_low : FT ps_word_low qs_word_low} (h_word_low : SpecOk Tryd.prog 45 (mkS ps_word_low qs_word_low F_word_low)) : SpecOk Tryd.prog 32 (mkS ps_word_Imm qs_word_Imm (N_word_Imm F_word_low)) :=
  specOk_mk (fl := 10) (d := 12) (cfgOk_cons base h_word_low) (by rintro R ⟨x0, x1⟩ k; kernel_rfl)
noncomputable def F_word_Imm : FT ps_word_Imm qs_word_Imm := N_word_Imm F_word_low 
theorem ok_word_Imm : SpecOk Tryd.prog 32 (mkS ps_word_Imm qs_word_Imm F_word_Imm) := S_word_Imm ok_word_low
abbrev pa_code_decoded_1 : List PV := [(.ro true (.int .u8))]
abbrev ph_code_decoded_1 : List PB := []
abbrev pr_code_decoded_1 : PV := (.tup [.nsl, (.iface 60 (.ptr 0 0))])
abbrev pz_code_decoded_1 : List PB := [(.cells [(.int .i64)])]
abbrev pr2_code_decoded_1 : PV := (.tup [(.sl 0 6), .nili])
abbrev pz2_code_decoded_1 : List PB := [(.row (.prod (.int .i64) (.prod (.int .i64) (.prod (.int .i64) (.prod (.int .i64) (.prod (.int .i64) (.int .u64)))))))]
abbrev IT_code_decoded_1 : Type := (List Int) × Unit
abbrev OT_code_decoded_1 : Type := (Int) × Unit
abbrev OT2_code_decoded_1 : Type := (Nat) × (List (Int × (Int × (Int × (Int × (Int × Int)))))) × Unit
abbrev TE_code_decoded_1 : Type 1 := (R : Type) → IT_code_decoded_1 → (OT_code_decoded_1 → Option R) → (OT2_code_decoded_1 → Option R) → Option R
noncomputable def PL_code_decoded_1_6_0 (F_code_read : FT ps_code_read qs_code_read) (F_word_Imm : FT ps_word_Imm qs_word_Imm) (fl : Nat)  (R : Type) (k : OT_code_decoded_1 → Option R) (k2 : OT2_code_decoded_1 → Option R) : LoopI R :=
  locate (Cw Tryd.prog [(31, mkS ps_code_read qs_code_read F_code_read), (32, mkS ps_word_Imm qs_word_Imm F_word_Imm)] hintsF) fl (callE (Cw Tryd.prog [(31, mkS ps_code_read qs_code_read F_code_read), (32, mkS ps_word_Imm qs_word_Imm F_word_Imm)] hintsF) [] fl 11) 0 20 6 [] (getE2 ph_code_decoded_1.length pr_code_decoded_1 pz_code_decoded_1 k pr2_code_decoded_1 pz2_code_decoded_1 k2)
noncomputable def P_code_decoded_1_6_0 (F_code_read : FT ps_code_read qs_code_read) (F_word_Imm : FT ps_word_Imm qs_word_Imm) (fl : Nat)  (n : Nat) (R : Type) (y0 : List Int) (y1 : Nat) (y2 : List (Int × Int × Int × Int × Int × Int)) (k : OT_code_decoded_1 → Option R) (k2 : OT2_code_decoded_1 → Option R) : Option R :=
  loopH (PL_code_decoded_1_6_0 F_code_read F_word_Imm fl  R k k2).body (PL_code_decoded_1_6_0 F_code_read F_word_Imm fl  R k k2).head n (some (
      S.mk
        [V.ro true (Ty.int IntKind.u8) y0, V.any, V.any, V.any, V.sl 0 6 y1, V.any, V.any, V.any, V.any, V.any, V.any, V.any, V.any, V.any, V.any, V.any, V.any, V.any, V.any, V.any, V.any, V.any, V.any,
          V.any, V.any, V.any, V.any, V.any, V.any, V.any, V.any, V.any, V.any, V.any, V.any, V.any, V.any, V.any, V.any, V.any, V.any, V.any, V.any, V.any, V.any, V.any, V.any, V.any, V.any, V.any, V.any,
          V.any, V.any, V.any, V.any, V.any, V.any, V.any, V.any, V.any, V.any, V.any, V.any, V.any, V.any, V.any, V.any, V.any, V.any, V.any, V.any, V.any, V.any, V.any, V.any, V.any, V.any, V.any, V.any,
          V.any, V.any]
        [] [Blk.row (Ty.prod (Ty.int IntKind.i64) (Ty.prod (Ty.int IntKind.i64) (Ty.prod (Ty.int IntKind.i64) (Ty.prod (Ty.int IntKind.i64) (Ty.prod (Ty.int IntKind.i64) (Ty.int IntKind.u64)))))) y2])) (PL_code_decoded_1_6_0 F_code_read F_word_Imm fl  R k k2).kont
theorem P_code_decoded_1_6_0_s {F_code_read : FT ps_code_read qs_code_read} {F_word_Imm : FT ps_word_Imm qs_word_Imm} (fl : Nat)  (n : Nat) (R : Type) (y0 : List Int) (y1 : Nat) (y2 : List (Int × Int × Int × Int × Int × Int)) (k : OT_code_decoded_1 → Option R) (k2 : OT2_code_decoded_1 → Option R) : P_code_decoded_1_6_0 F_code_read F_word_Imm fl  (n + 1) R y0 y1 y2 k k2 =
      br (W.gt (W.ofNat (W.len y0)) 0)
        (br (W.le 8 (W.ofNat (W.len y0)))
          (F_code_read R (W.slice y0 0 8) fun y =>
            br (W.le 8 (W.ofNat (W.len y0)))
              (br (W.leN (W.mulN (W.addN y1 1) 48) 140737488355328)
                (br (W.ne y.1 24)
                  (P_code_decoded_1_6_0 F_code_read F_word_Imm fl n R (W.slice y0 8 (W.subN (W.len y0) 8)) (W.addN y1 1) (W.app y2 [(y.1, y.2.1, y.2.2.1, y.2.2.2.1, y.2.2.2.2.1, y.2.2.2.2.2)]) k k2)
                  (br (W.eq (W.ofNat (W.len (W.slice y0 8 (W.subN (W.len y0) 8)))) 0) (k (30, ()))
                    (br (W.le 8 (W.ofNat (W.len (W.slice y0 8 (W.subN (W.len y0) 8)))))
                      (F_code_read R (W.slice (W.slice y0 8 (W.subN (W.len y0) 8)) 0 8) fun y_1 =>
                        br (W.le 8 (W.ofNat (W.len (W.slice y0 8 (W.subN (W.len y0) 8)))))
                          (br
                            (W.not
                              (W.and2 (W.eq y_1.1 0)
                                (W.and2 (W.eq y_1.2.1 0) (W.and2 (W.eq y_1.2.2.1 0) (W.and2 (W.eq y_1.2.2.2.1 0) (W.and2 (W.eq y_1.2.2.2.2.1 y_1.2.2.2.2.1) (W.and2 (W.eq y_1.2.2.2.2.2 0) true)))))))
                            (k (30, ()))
                            (F_word_Imm R (y_1.2.2.2.2.1, false) fun y_2 =>
                              F_word_Imm R (y.2.2.2.2.1, false) fun y_3 =>
                                br (W.and2 (W.le 0 (W.wrap IntKind.i64 (W.sub (W.ofNat (W.addN y1 1)) 1))) (W.lt (W.wrap IntKind.i64 (W.sub (W.ofNat (W.addN y1 1)) 1)) (W.ofNat (W.addN y1 1))))
                                  (br (W.leN (W.mulN (W.addN (W.addN y1 1) 1) 48) 140737488355328)
                                    (P_code_decoded_1_6_0 F_code_read F_word_Imm fl n R (W.slice (W.slice y0 8 (W.subN (W.len y0) 8)) 8 (W.subN (W.len (W.slice y0 8 (W.subN (W.len y0) 8))) 8))
                                      (W.addN (W.addN y1 1) 1)
                                      (W.app
                                        (W.set (W.app y2 [(y.1, y.2.1, y.2.2.1, y.2.2.2.1, y.2.2.2.2.1, y.2.2.2.2.2)]) (W.toNat (W.wrap IntKind.i64 (W.sub (W.ofNat (W.addN y1 1)) 1)))
                                          ((W.get (W.app y2 [(y.1, y.2.1, y.2.2.1, y.2.2.2.1, y.2.2.2.2.1, y.2.2.2.2.2)]) (W.toNat (W.wrap IntKind.i64 (W.sub (W.ofNat (W.addN y1 1)) 1)))
                                                (0, 0, 0, 0, 0, 0)).1,
                                            (W.get (W.app y2 [(y.1, y.2.1, y.2.2.1, y.2.2.2.1, y.2.2.2.2.1, y.2.2.2.2.2)]) (W.toNat (W.wrap IntKind.i64 (W.sub (W.ofNat (W.addN y1 1)) 1)))
                                                  (0, 0, 0, 0, 0, 0)).2.1,
                                            (W.get (W.app y2 [(y.1, y.2.1, y.2.2.1, y.2.2.2.1, y.2.2.2.2.1, y.2.2.2.2.2)]) (W.toNat (W.wrap IntKind.i64 (W.sub (W.ofNat (W.addN y1 1)) 1)))
                                                    (0, 0, 0, 0, 0, 0)).2.2.1,
                                            (W.get (W.app y2 [(y.1, y.2.1, y.2.2.1, y.2.2.2.1, y.2.2.2.2.1, y.2.2.2.2.2)]) (W.toNat (W.wrap IntKind.i64 (W.sub (W.ofNat (W.addN y1 1)) 1)))
                                                      (0, 0, 0, 0, 0, 0)).2.2.2.1,
                                            (W.get (W.app y2 [(y.1, y.2.1, y.2.2.1, y.2.2.2.1, y.2.2.2.2.1, y.2.2.2.2.2)]) (W.toNat (W.wrap IntKind.i64 (W.sub (W.ofNat (W.addN y1 1)) 1)))
                                                        (0, 0, 0, 0, 0, 0)).2.2.2.2.1,
                                            W.wrap IntKind.u64 (W.or IntKind.u64 (W.wrap IntKind.u64 (W.shl IntKind.u64 y_2 32)) y_3)))
                                        [(0, 0, 0, 0, 0, 0)])
                                      k k2)
                                    none)
                                  none))
                          none)
                      none)))
                none)
              none)
          none)
        (k2 (y1, y2, ())) := by kernel_rfl
noncomputable def N_code_decoded_1 (F_code_read : FT ps_code_read qs_code_read) (F_word_Imm : FT ps_word_Imm qs_word_Imm) (fl : Nat) : TE_code_decoded_1 := fun R x k k2 => match x with
  | (y0, ()) => 
      br (W.or2 (W.not (W.not (W.eq (W.ofNat (W.len y0)) 0))) true)
        (br (W.pick (W.eq (W.ofNat (W.len y0)) 0) true (W.gt (W.rem (W.ofNat (W.len y0)) 8) 0)) (k (30, ()))
          (br (W.gt (W.wrap IntKind.i64 (W.quo (W.ofNat (W.len y0)) 8)) 4096) (k (31, ())) (P_code_decoded_1_6_0 F_code_read F_word_Imm fl fl R y0 0 [] k k2)))
        none
theorem Q_code_decoded_1 {F_code_read : FT ps_code_read qs_code_read} {F_word_Imm : FT ps_word_Imm qs_word_Imm} (fl : Nat) (R : Type) (x : IT_code_decoded_1) (k : OT_code_decoded_1 → Option R) (k2 : OT2_code_decoded_1 → Option R) : execFn (Cw Tryd.prog [(31, mkS ps_code_read qs_code_read F_code_read), (32, mkS ps_word_Imm qs_word_Imm F_word_Imm)] hintsF) fl (callE (Cw Tryd.prog [(31, mkS ps_code_read qs_code_read F_code_read), (32, mkS ps_word_Imm qs_word_Imm F_word_Imm)] hintsF) [] fl 11) 20 (encE1 pa_code_decoded_1 ph_code_decoded_1 x) (encE2 pa_code_decoded_1 ph_code_decoded_1 x) (getE2 ph_code_decoded_1.length pr_code_decoded_1 pz_code_decoded_1 k pr2_code_decoded_1 pz2_code_decoded_1 k2) = N_code_decoded_1 F_code_read F_word_Imm fl R x k k2 := by
  obtain ⟨y0, ⟨⟩⟩ := x; kernel_rfl
theorem S_code_decoded_1 {F_code_read : FT ps_code_read qs_code_read} {F_word_Imm : FT ps_word_Imm qs_word_Imm} (h_code_read : SpecOk Tryd.prog 31 (mkS ps_code_read qs_code_read F_code_read)) (h_word_Imm : SpecOk Tryd.prog 32 (mkS ps_word_Imm qs_word_Imm F_word_Imm)) : ESpOk Tryd.prog 20 (mkE2 pa_code_decoded_1 ph_code_decoded_1 pr_code_decoded_1 pz_code_decoded_1 pr2_code_decoded_1 pz2_code_decoded_1 (N_code_decoded_1 F_code_read F_word_Imm W.big)) :=
  espOk_mk2 (fl := W.big) (d := 11) (cfgOk_cons (cfgOk_cons base h_word_Imm) h_code_read) esOk_nil (fun R x k k2 => Q_code_decoded_1 W.big R x k k2)
noncomputable def E_code_decoded_1 : TE_code_decoded_1 := N_code_decoded_1 F_code_read F_word_Imm W.big
theorem okE_code_decoded_1 : ESpOk Tryd.prog 20 (mkE2 pa_code_decoded_1 ph_code_decoded_1 pr_code_decoded_1 pz_code_decoded_1 pr2_code_decoded_1 pz2_code_decoded_1 E_code_decoded_1) := S_code_decoded_1 ok_code_read ok_word_Imm
abbrev ps_code_Decode : List PT := [.one (.slice (.int .u8))]
abbrev qs_code_Decode : List PT := [.one (.slice ((.prod (.int .i64) (.prod (.int .i64) (.prod (.int .i64) (.prod (.int .i64) (.prod (.int .i64) (.int .u64)))))))), .one (.int .i64)]
noncomputable def N_code_Decode (F_code_read : FT ps_code_read qs_code_read) (F_word_Imm : FT ps_word_Imm qs_word_Imm) (E_code_decoded_1 : TE_code_decoded_1)  : FT ps_code_Decode qs_code_Decode := fun R x k => match x with
  | x0 => 
      E_code_decoded_1 R (x0, ()) (fun z => k ([], z.1)) fun z => k (z.2.1, 0)
theorem S_code_Decode {F_code_read : FT ps_code_read qs_code_read} {F_word_Imm : FT ps_word_Imm qs_word_Imm} {E_code_decoded_1 : TE_code_decoded_1} (h_code_read : SpecOk Tryd.prog 31 (mkS ps_code_read qs_code_read F_code_read)) (h_word_Imm : SpecOk Tryd.prog 32 (mkS ps_word_Imm qs_word_Imm F_word_Imm)) (h_code_decoded_1 : ESpOk Tryd.prog 20 (mkE2 pa_code_decoded_1 ph_code_decoded_1 pr_code_decoded_1 pz_code_decoded_1 pr2_code_decoded_1 pz2_code_decoded_1 E_code_decoded_1)) : SpecOk Tryd.prog 9 (mkS ps_code_Decode qs_code_Decode (N_code_Decode F_code_read F_word_Imm E_code_decoded_1)) :=
  specOkE_mk (fl := 10) (d := 12) (cfgOk_cons (cfgOk_cons base h_word_Imm) h_code_read) (esOk_cons (esOk_cons esOk_nil h_code_decoded_1) ok_as) (by intro R x0 k; kernel_rfl)
noncomputable def F_code_Decode : FT ps_code_Decode qs_code_Decode := N_code_Decode F_code_read F_word_Imm E_code_decoded_1 
theorem ok_code_Decode : SpecOk Tryd.prog 9 (mkS ps_code_Decode qs_code_Decode F_code_Decode) := S_code_Decode ok_code_read ok_word_Imm okE_code_decoded_1
abbrev ps_clevisref01Size : List PT := [.one (.int .i64)]
abbrev qs_clevisref01Size : List PT := [.one (.bool)]
noncomputable def N_clevisref01Size   : FT ps_clevisref01Size qs_clevisref01Size := fun R x k => match x with
  | x0 => 
      k (W.pick (W.pick (W.pick (W.eq x0 1) true (W.eq x0 2)) true (W.eq x0 4)) true (W.eq x0 8))
theorem S_clevisref01Size   : SpecOk Tryd.prog 50 (mkS ps_clevisref01Size qs_clevisref01Size (N_clevisref01Size )) :=
  specOk_mk (fl := 10) (d := 12) base (by intro R x0 k; kernel_rfl)
noncomputable def F_clevisref01Size : FT ps_clevisref01Size qs_clevisref01Size := N_clevisref01Size  
theorem ok_clevisref01Size : SpecOk Tryd.prog 50 (mkS ps_clevisref01Size qs_clevisref01Size F_clevisref01Size) := S_clevisref01Size 
abbrev ps_clevisref01Sign : List PT := [.one (.int .u64), .one (.int .i64)]
abbrev qs_clevisref01Sign : List PT := [.one (.int .u64)]
noncomputable def N_clevisref01Sign (F_clevisref01Size : FT ps_clevisref01Size qs_clevisref01Size)  : FT ps_clevisref01Sign qs_clevisref01Sign := fun R x k => match x with
  | (x0, x1) => 
      F_clevisref01Size R x1 fun y =>
        br (W.pick (W.not y) true (W.eq x1 8)) (k x0)
          (br (W.eq (W.wrap IntKind.u64 (W.shl IntKind.u64 1 (W.wrap IntKind.u64 (W.wrap IntKind.i64 (W.mul 8 x1))))) 0) none
            (br
              (W.ge (W.rem x0 (W.wrap IntKind.u64 (W.shl IntKind.u64 1 (W.wrap IntKind.u64 (W.wrap IntKind.i64 (W.mul 8 x1))))))
                (W.wrap IntKind.u64 (W.quo (W.wrap IntKind.u64 (W.shl IntKind.u64 1 (W.wrap IntKind.u64 (W.wrap IntKind.i64 (W.mul 8 x1))))) 2)))
              (k
                (W.wrap IntKind.u64
                  (W.sub (W.rem x0 (W.wrap IntKind.u64 (W.shl IntKind.u64 1 (W.wrap IntKind.u64 (W.wrap IntKind.i64 (W.mul 8 x1))))))
                    (W.wrap IntKind.u64 (W.shl IntKind.u64 1 (W.wrap IntKind.u64 (W.wrap IntKind.i64 (W.mul 8 x1))))))))
              (k (W.rem x0 (W.wrap IntKind.u64 (W.shl IntKind.u64 1 (W.wrap IntKind.u64 (W.wrap IntKind.i64 (W.mul 8 x1)))))))))
theorem S_clevisref01Sign {F_clevisref01Size : FT ps_clevisref01Size qs_clevisref01Size} (h_clevisref01Size : SpecOk Tryd.prog 50 (mkS ps_clevisref01Size qs_clevisref01Size F_clevisref01Size)) : SpecOk Tryd.prog 34 (mkS ps_clevisref01Sign qs_clevisref01Sign (N_clevisref01Sign F_clevisref01Size)) :=
  specOk_mk (fl := 10) (d := 12) (cfgOk_cons base h_clevisref01Size) (by rintro R ⟨x0, x1⟩ k; kernel_rfl)
noncomputable def F_clevisref01Sign : FT ps_clevisref01Sign qs_clevisref01Sign := N_clevisref01Sign F_clevisref01Size 
theorem ok_clevisref01Sign : SpecOk Tryd.prog 34 (mkS ps_clevisref01Sign qs_clevisref01Sign F_clevisref01Sign) := S_clevisref01Sign ok_clevisref01Size
abbrev ps_clevisref01Get : List PT := [.one (.slice (.int .u8))]
abbrev qs_clevisref01Get : List PT := [.one (.int .u64)]
noncomputable def PL_clevisref01Get_3_0  (fl : Nat)  (R : Type) (k : PTs.D qs_clevisref01Get → Option R) : LoopI R :=
  locate (Cw Tryd.prog [] hintsF) fl (call (Cw Tryd.prog [] hintsF) fl 11) 0 35 3 [] (getR qs_clevisref01Get k)
noncomputable def P_clevisref01Get_3_0  (fl : Nat)  (n : Nat) (R : Type) (y0 : List Int) (y1 : Int) (y2 : Int) (k : PTs.D qs_clevisref01Get → Option R) : Option R :=
  loopH (PL_clevisref01Get_3_0  fl  R k).body (PL_clevisref01Get_3_0  fl  R k).head n (some (
      S.mk
        [V.ro true (Ty.int IntKind.u8) y0, V.any, V.any, V.int IntKind.u64 y1, V.int IntKind.i64 y2, V.any, V.any, V.any, V.any, V.any, V.any, V.any, V.any, V.any, V.any, V.any, V.any, V.any, V.any, V.any,
          V.any, V.any, V.any, V.any, V.any, V.any, V.any]
        [] [])) (PL_clevisref01Get_3_0  fl  R k).kont
theorem P_clevisref01Get_3_0_s  (fl : Nat)  (n : Nat) (R : Type) (y0 : List Int) (y1 : Int) (y2 : Int) (k : PTs.D qs_clevisref01Get → Option R) : P_clevisref01Get_3_0  fl  (n + 1) R y0 y1 y2 k =
      br (W.pick (W.lt y2 (W.ofNat (W.len y0))) (W.lt y2 8) false)
        (br (W.and2 (W.le 0 y2) (W.lt y2 (W.ofNat (W.len y0))))
          (P_clevisref01Get_3_0 fl n R y0
            (W.wrap IntKind.u64 (W.or IntKind.u64 y1 (W.wrap IntKind.u64 (W.shl IntKind.u64 (W.wrap IntKind.u64 (W.get y0 (W.toNat y2) 0)) (W.wrap IntKind.u64 (W.wrap IntKind.i64 (W.mul 8 y2)))))))
            (W.wrap IntKind.i64 (W.add y2 1)) k)
          none)
        (k y1) := by kernel_rfl
noncomputable def N_clevisref01Get  (fl : Nat) : FT ps_clevisref01Get qs_clevisref01Get := fun R x k => match x with
  | x0 => 
      P_clevisref01Get_3_0 fl fl R x0 0 0 k
theorem Q_clevisref01Get  (fl : Nat) (R : Type) (x : PTs.D ps_clevisref01Get) (k : PTs.D qs_clevisref01Get → Option R) : call (Cw Tryd.prog [] hintsF) fl 12 35 (encL true ps_clevisref01Get x) [] (getR qs_clevisref01Get k) = N_clevisref01Get  fl R x k := by
  kernel_rfl
theorem S_clevisref01Get   : SpecOk Tryd.prog 35 (mkS ps_clevisref01Get qs_clevisref01Get (N_clevisref01Get  W.big)) :=
  specOk_mk (fl := W.big) (d := 12) base (fun R x k => Q_clevisref01Get W.big R x k)
noncomputable def F_clevisref01Get : FT ps_clevisref01Get qs_clevisref01Get := N_clevisref01Get  W.big
theorem ok_clevisref01Get : SpecOk Tryd.prog 35 (mkS ps_clevisref01Get qs_clevisref01Get F_clevisref01Get) := S_clevisref01Get 
abbrev ps_clevisref03slot : List PT := [.one (.slice (.int .u8))]
abbrev qs_clevisref03slot : List PT := [.agg ((.prod (.int .i64) (.prod (.int .i64) (.prod (.int .i64) (.prod (.int .i64) (.prod (.int .i64) (.int .u64)))))))]
noncomputable def N_clevisref03slot (F_clevisref01Sign : FT ps_clevisref01Sign qs_clevisref01Sign) (F_clevisref01Get : FT ps_clevisref01Get qs_clevisref01Get)  : FT ps_clevisref03slot qs_clevisref03slot := fun R x k => match x with
  | x0 => 
      br (W.le 4 (W.ofNat (W.len x0)))
        (F_clevisref01Get R (W.slice x0 2 2) fun y =>
          F_clevisref01Sign R (y, 2) fun y =>
            br (W.le 8 (W.ofNat (W.len x0)))
              (F_clevisref01Get R (W.slice x0 4 4) fun y_1 =>
                F_clevisref01Sign R (y_1, 4) fun y_2 =>
                  br (W.lt 0 (W.ofNat (W.len x0)))
                    (br (W.lt 1 (W.ofNat (W.len x0)))
                      (br (W.lt 1 (W.ofNat (W.len x0)))
                        (k
                          (W.wrap IntKind.i64 (W.get x0 0 0), W.wrap IntKind.i64 (W.rem (W.get x0 1 0) 16), W.wrap IntKind.i64 (W.wrap IntKind.u8 (W.quo (W.get x0 1 0) 16)), W.wrap IntKind.i64 y,
                            W.wrap IntKind.i64 y_2, 0))
                        none)
                      none)
                    none)
              none)
        none
theorem S_clevisref03slot {F_clevisref01Sign : FT ps_clevisref01Sign qs_clevisref01Sign} {F_clevisref01Get : FT ps_clevisref01Get qs_clevisref01Get} (h_clevisref01Sign : SpecOk Tryd.prog 34 (mkS ps_clevisref01Sign qs_clevisref01Sign F_clevisref01Sign)) (h_clevisref01Get : SpecOk Tryd.prog 35 (mkS ps_clevisref01Get qs_clevisref01Get F_clevisref01Get)) : SpecOk Tryd.prog 22 (mkS ps_clevisref03slot qs_clevisref03slot (N_clevisref03slot F_clevisref01Sign F_clevisref01Get)) :=
  specOk_mk (fl := 10) (d := 12) (cfgOk_cons (cfgOk_cons base h_clevisref01Get) h_clevisref01Sign) (by intro R x0 k; kernel_rfl)
noncomputable def F_clevisref03slot : FT ps_clevisref03slot qs_clevisref03slot := N_clevisref03slot F_clevisref01Sign F_clevisref01Get 
theorem ok_clevisref03slot : SpecOk Tryd.prog 22 (mkS ps_clevisref03slot qs_clevisref03slot F_clevisref03slot) := S_clevisref03slot ok_clevisref01Sign ok_clevisref01Get
abbrev ps_clevisref01Imm : List PT := [.one (.int .i64), .one (.bool)]
abbrev qs_clevisref01Imm : List PT := [.one (.int .u64)]
noncomputable def N_clevisref01Imm (F_clevisref01Sign : FT ps_clevisref01Sign qs_clevisref01Sign)  : FT ps_clevisref01Imm qs_clevisref01Imm := fun R x k => match x with
  | (x0, x1) => 
      br x1 (F_clevisref01Sign R (W.wrap IntKind.u64 x0, 4) fun y => k y) (k (W.wrap IntKind.u64 (W.and IntKind.u64 (W.wrap IntKind.u64 x0) 4294967295)))
theorem S_clevisref01Imm {F_clevisref01Sign : FT ps_clevisref01Sign qs_clevisref01Sign} (h_clevisref01Sign : SpecOk Tryd.prog 34 (mkS ps_clevisref01Sign qs_clevisref01Sign F_clevisref01Sign)) : SpecOk Tryd.prog 23 (mkS ps_clevisref01Imm qs_clevisref01Imm (N_clevisref01Imm F_clevisref01Sign)) :=
  specOk_mk (fl := 10) (d := 12) (cfgOk_cons base h_clevisref01Sign) (by rintro R ⟨x0, x1⟩ k; kernel_rfl)
noncomputable def F_clevisref01Imm : FT ps_clevisref01Imm qs_clevisref01Imm := N_clevisref01Imm F_clevisref01Sign 
theorem ok_clevisref01Imm : SpecOk Tryd.prog 23 (mkS ps_clevisref01Imm qs_clevisref01Imm F_clevisref01Imm) := S_clevisref01Imm ok_clevisref01Sign
abbrev ps_clevisref03Decode : List PT := [.one (.slice (.int .u8))]
abbrev qs_clevisref03Decode : List PT := [.one (.slice ((.prod (.int .i64) (.prod (.int .i64) (.prod (.int .i64) (.prod (.int .i64) (.prod (.int .i64) (.int .u64)))))))), .one (.int .i64)]
noncomputable def PL_clevisref03Decode_7_0 (F_clevisref03slot : FT ps_clevisref03slot qs_clevisref03slot) (F_clevisref01Imm : FT ps_clevisref01Imm qs_clevisref01Imm) (fl : Nat)  (R : Type) (k : PTs.D qs_clevisref03Decode → Option R) : LoopI R :=
  locate (Cw Tryd.prog [(22, mkS ps_clevisref03slot qs_clevisref03slot F_clevisref03slot), (23, mkS ps_clevisref01Imm qs_clevisref01Imm F_clevisref01Imm)] hintsF) fl (call (Cw Tryd.prog [(22, mkS ps_clevisref03slot qs_clevisref03slot F_clevisref03slot), (23, mkS ps_clevisref01Imm qs_clevisref01Imm F_clevisref01Imm)] hintsF) fl 11) 0 10 7 [] (getR qs_clevisref03Decode k)
noncomputable def P_clevisref03Decode_7_0 (F_clevisref03slot : FT ps_clevisref03slot qs_clevisref03slot) (F_clevisref01Imm : FT ps_clevisref01Imm qs_clevisref01Imm) (fl : Nat)  (n : Nat) (R : Type) (y0 : List Int) (y1 : Nat) (y2 : Int) (y3 : List (Int × Int × Int × Int × Int × Int)) (k : PTs.D qs_clevisref03Decode → Option R) : Option R :=
  loopH (PL_clevisref03Decode_7_0 F_clevisref03slot F_clevisref01Imm fl  R k).body (PL_clevisref03Decode_7_0 F_clevisref03slot F_clevisref01Imm fl  R k).head n (some (
      S.mk
        [V.ro true (Ty.int IntKind.u8) y0, V.any, V.any, V.any, V.sl 0 6 y1, V.int IntKind.i64 y2, V.any, V.any, V.any, V.any, V.any, V.any, V.any, V.any, V.any, V.any, V.any, V.any, V.any, V.any, V.any,
          V.any, V.any, V.any, V.any, V.any, V.any, V.any, V.any, V.any, V.any, V.any, V.any, V.any, V.any, V.any, V.any, V.any, V.any, V.any, V.any, V.any, V.any, V.any, V.any, V.any, V.any, V.any, V.any,
          V.any, V.any, V.any, V.any, V.any, V.any, V.any, V.any, V.any, V.any, V.any, V.any, V.any, V.any, V.any, V.any, V.any, V.any, V.any, V.any, V.any, V.any, V.any, V.any, V.any, V.any, V.any, V.any,
          V.any, V.any, V.any, V.any, V.any, V.any, V.any, V.any, V.any, V.any]
        [] [Blk.row (Ty.prod (Ty.int IntKind.i64) (Ty.prod (Ty.int IntKind.i64) (Ty.prod (Ty.int IntKind.i64) (Ty.prod (Ty.int IntKind.i64) (Ty.prod (Ty.int IntKind.i64) (Ty.int IntKind.u64)))))) y3])) (PL_clevisref03Decode_7_0 F_clevisref03slot F_clevisref01Imm fl  R k).kont
theorem P_clevisref03Decode_7_0_s {F_clevisref03slot : FT ps_clevisref03slot qs_clevisref03slot} {F_clevisref01Imm : FT ps_clevisref01Imm qs_clevisref01Imm} (fl : Nat)  (n : Nat) (R : Type) (y0 : List Int) (y1 : Nat) (y2 : Int) (y3 : List (Int × Int × Int × Int × Int × Int)) (k : PTs.D qs_clevisref03Decode → Option R) : P_clevisref03Decode_7_0 F_clevisref03slot F_clevisref01Imm fl  (n + 1) R y0 y1 y2 y3 k =
      br (W.lt y2 (W.ofNat (W.len y0)))
        (br (W.and2 (W.le 0 y2) (W.and2 (W.le y2 (W.wrap IntKind.i64 (W.add y2 8))) (W.le (W.wrap IntKind.i64 (W.add y2 8)) (W.ofNat (W.len y0)))))
          (F_clevisref03slot R (W.slice y0 (W.toNat y2) (W.subN (W.toNat (W.wrap IntKind.i64 (W.add y2 8))) (W.toNat y2))) fun y =>
            br (W.ne y.1 24)
              (br (W.leN (W.mulN (W.addN y1 1) 48) 140737488355328)
                (P_clevisref03Decode_7_0 F_clevisref03slot F_clevisref01Imm fl n R y0 (W.addN y1 1) (W.wrap IntKind.i64 (W.add y2 8)) (W.app y3 [(y.1, y.2.1, y.2.2.1, y.2.2.2.1, y.2.2.2.2.1, y.2.2.2.2.2)]) k) none)
              (br (W.ge (W.wrap IntKind.i64 (W.add y2 8)) (W.ofNat (W.len y0))) (k ([], 30))
                (br
                  (W.and2 (W.le 0 (W.wrap IntKind.i64 (W.add y2 8)))
                    (W.and2 (W.le (W.wrap IntKind.i64 (W.add y2 8)) (W.wrap IntKind.i64 (W.add y2 16))) (W.le (W.wrap IntKind.i64 (W.add y2 16)) (W.ofNat (W.len y0)))))
                  (F_clevisref03slot R (W.slice y0 (W.toNat (W.wrap IntKind.i64 (W.add y2 8))) (W.subN (W.toNat (W.wrap IntKind.i64 (W.add y2 16))) (W.toNat (W.wrap IntKind.i64 (W.add y2 8))))) fun y_1 =>
                    br (W.pick (W.pick (W.pick (W.ne y_1.1 0) true (W.ne y_1.2.1 0)) true (W.ne y_1.2.2.1 0)) true (W.ne y_1.2.2.2.1 0)) (k ([], 30))
                      (F_clevisref01Imm R (y.2.2.2.2.1, false) fun y_2 =>
                        F_clevisref01Imm R (y_1.2.2.2.2.1, false) fun y_3 =>
                          br (W.leN (W.mulN (W.addN y1 2) 48) 140737488355328)
                            (P_clevisref03Decode_7_0 F_clevisref03slot F_clevisref01Imm fl n R y0 (W.addN y1 2) (W.wrap IntKind.i64 (W.add (W.wrap IntKind.i64 (W.add y2 8)) 8))
                              (W.app y3 [(y.1, y.2.1, y.2.2.1, y.2.2.2.1, y.2.2.2.2.1, W.wrap IntKind.u64 (W.add y_2 (W.wrap IntKind.u64 (W.mul y_3 4294967296)))), (0, 0, 0, 0, 0, 0)]) k)
                            none))
                  none)))
          none)
        (k (y3, 0)) := by kernel_rfl
noncomputable def N_clevisref03Decode (F_clevisref03slot : FT ps_clevisref03slot qs_clevisref03slot) (F_clevisref01Imm : FT ps_clevisref01Imm qs_clevisref01Imm) (fl : Nat) : FT ps_clevisref03Decode qs_clevisref03Decode := fun R x k => match x with
  | x0 => 
      br (W.or2 (W.not (W.not (W.eq (W.ofNat (W.len x0)) 0))) true)
        (br (W.pick (W.eq (W.ofNat (W.len x0)) 0) true (W.ne (W.rem (W.ofNat (W.len x0)) 8) 0)) (k ([], 30))
          (br (W.gt (W.wrap IntKind.i64 (W.quo (W.ofNat (W.len x0)) 8)) 4096) (k ([], 31)) (P_clevisref03Decode_7_0 F_clevisref03slot F_clevisref01Imm fl fl R x0 0 0 [] k)))
        none
theorem Q_clevisref03Decode {F_clevisref03slot : FT ps_clevisref03slot qs_clevisref03slot} {F_clevisref01Imm : FT ps_clevisref01Imm qs_clevisref01Imm} (fl : Nat) (R : Type) (x : PTs.D ps_clevisref03Decode) (k : PTs.D qs_clevisref03Decode → Option R) : call (Cw Tryd.prog [(22, mkS ps_clevisref03slot qs_clevisref03slot F_clevisref03slot), (23, mkS ps_clevisref01Imm qs_clevisref01Imm F_clevisref01Imm)] hintsF) fl 12 10 (encL true ps_clevisref03Decode x) [] (getR qs_clevisref03Decode k) = N_clevisref03Decode F_clevisref03slot F_clevisref01Imm fl R x k := by
  kernel_rfl
theorem S_clevisref03Decode {F_clevisref03slot : FT ps_clevisref03slot qs_clevisref03slot} {F_clevisref01Imm : FT ps_clevisref01Imm qs_clevisref01Imm} (h_clevisref03slot : SpecOk Tryd.prog 22 (mkS ps_clevisref03slot qs_clevisref03slot F_clevisref03slot)) (h_clevisref01Imm : SpecOk Tryd.prog 23 (mkS ps_clevisref01Imm qs_clevisref01Imm F_clevisref01Imm)) : SpecOk Tryd.prog 10 (mkS ps_clevisref03Decode qs_clevisref03Decode (N_clevisref03Decode F_clevisref03slot F_clevisref01Imm W.big)) :=
  specOk_mk (fl := W.big) (d := 12) (cfgOk_cons (cfgOk_cons base h_clevisref01Imm) h_clevisref03slot) (fun R x k => Q_clevisref03Decode W.big R x k)
noncomputable def F_clevisref03Decode : FT ps_clevisref03Decode qs_clevisref03Decode := N_clevisref03Decode F_clevisref03slot F_clevisref01Imm W.big
theorem ok_clevisref03Decode : SpecOk Tryd.prog 10 (mkS ps_clevisref03Decode qs_clevisref03Decode F_clevisref03Decode) := S_clevisref03Decode ok_clevisref03slot ok_clevisref01Imm
abbrev ps_clevisref03Same : List PT := [.one (.slice ((.prod (.int .i64) (.prod (.int .i64) (.prod (.int .i64) (.prod (.int .i64) (.prod (.int .i64) (.int .u64)))))))), .one (.slice ((.prod (.int .i64) (.prod (.int .i64) (.prod (.int .i64) (.prod (.int .i64) (.prod (.int .i64) (.int .u64))))))))]
abbrev qs_clevisref03Same : List PT := [.one (.bool)]
noncomputable def PL_clevisref03Same_4_0  (fl : Nat)  (R : Type) (k : PTs.D qs_clevisref03Same → Option R) : LoopI R :=
  locate (Cw Tryd.prog [] hintsF) fl (call (Cw Tryd.prog [] hintsF) fl 11) 0 11 4 [] (getR qs_clevisref03Same k)
noncomputable def P_clevisref03Same_4_0  (fl : Nat)  (n : Nat) (R : Type) (y0 : List (Int × Int × Int × Int × Int × Int)) (y1 : List (Int × Int × Int × Int × Int × Int)) (y2 : Int) (k : PTs.D qs_clevisref03Same → Option R) : Option R :=
  loopH (PL_clevisref03Same_4_0  fl  R k).body (PL_clevisref03Same_4_0  fl  R k).head n (some (
      S.mk
        [V.ro true (Ty.prod (Ty.int IntKind.i64) (Ty.prod (Ty.int IntKind.i64) (Ty.prod (Ty.int IntKind.i64) (Ty.prod (Ty.int IntKind.i64) (Ty.prod (Ty.int IntKind.i64) (Ty.int IntKind.u64)))))) y0,
          V.ro true (Ty.prod (Ty.int IntKind.i64) (Ty.prod (Ty.int IntKind.i64) (Ty.prod (Ty.int IntKind.i64) (Ty.prod (Ty.int IntKind.i64) (Ty.prod (Ty.int IntKind.i64) (Ty.int IntKind.u64)))))) y1, V.any,
          V.any, V.any, V.int IntKind.i64 y2, V.any, V.any, V.any, V.any, V.any, V.any, V.any, V.any, V.any, V.any, V.any, V.any, V.any, V.any, V.any, V.any, V.any, V.any, V.any, V.any]
        [] [])) (PL_clevisref03Same_4_0  fl  R k).kont
theorem P_clevisref03Same_4_0_s  (fl : Nat)  (n : Nat) (R : Type) (y0 : List (Int × Int × Int × Int × Int × Int)) (y1 : List (Int × Int × Int × Int × Int × Int)) (y2 : Int) (k : PTs.D qs_clevisref03Same → Option R) : P_clevisref03Same_4_0  fl  (n + 1) R y0 y1 y2 k =
      br (W.lt y2 (W.ofNat (W.len y0)))
        (br (W.and2 (W.le 0 y2) (W.lt y2 (W.ofNat (W.len y0))))
          (br (W.and2 (W.le 0 y2) (W.lt y2 (W.ofNat (W.len y1))))
            (br
              (W.not
                (W.and2 (W.eq (W.get y0 (W.toNat y2) (0, 0, 0, 0, 0, 0)).1 (W.get y1 (W.toNat y2) (0, 0, 0, 0, 0, 0)).1)
                  (W.and2 (W.eq (W.get y0 (W.toNat y2) (0, 0, 0, 0, 0, 0)).2.1 (W.get y1 (W.toNat y2) (0, 0, 0, 0, 0, 0)).2.1)
                    (W.and2 (W.eq (W.get y0 (W.toNat y2) (0, 0, 0, 0, 0, 0)).2.2.1 (W.get y1 (W.toNat y2) (0, 0, 0, 0, 0, 0)).2.2.1)
                      (W.and2 (W.eq (W.get y0 (W.toNat y2) (0, 0, 0, 0, 0, 0)).2.2.2.1 (W.get y1 (W.toNat y2) (0, 0, 0, 0, 0, 0)).2.2.2.1)
                        (W.and2 (W.eq (W.get y0 (W.toNat y2) (0, 0, 0, 0, 0, 0)).2.2.2.2.1 (W.get y1 (W.toNat y2) (0, 0, 0, 0, 0, 0)).2.2.2.2.1)
                          (W.and2 (W.eq (W.get y0 (W.toNat y2) (0, 0, 0, 0, 0, 0)).2.2.2.2.2 (W.get y1 (W.toNat y2) (0, 0, 0, 0, 0, 0)).2.2.2.2.2) true)))))))
              (k false) (P_clevisref03Same_4_0 fl n R y0 y1 (W.wrap IntKind.i64 (W.add y2 1)) k))
            none)
          none)
        (k true) := by kernel_rfl
noncomputable def N_clevisref03Same  (fl : Nat) : FT ps_clevisref03Same qs_clevisref03Same := fun R x k => match x with
  | (x0, x1) => 
      br (W.ne (W.ofNat (W.len x0)) (W.ofNat (W.len x1))) (k false) (P_clevisref03Same_4_0 fl fl R x0 x1 0 k)
theorem Q_clevisref03Same  (fl : Nat) (R : Type) (x : PTs.D ps_clevisref03Same) (k : PTs.D qs_clevisref03Same → Option R) : call (Cw Tryd.prog [] hintsF) fl 12 11 (encL true ps_clevisref03Same x) [] (getR qs_clevisref03Same k) = N_clevisref03Same  fl R x k := by
  obtain ⟨x0, x1⟩ := x; kernel_rfl
theorem S_clevisref03Same   : SpecOk Tryd.prog 11 (mkS ps_clevisref03Same qs_clevisref03Same (N_clevisref03Same  W.big)) :=
  specOk_mk (fl := W.big) (d := 12) base (fun R x k => Q_clevisref03Same W.big R x k)
noncomputable def F_clevisref03Same : FT ps_clevisref03Same qs_clevisref03Same := N_clevisref03Same  W.big
theorem ok_clevisref03Same : SpecOk Tryd.prog 11 (mkS ps_clevisref03Same qs_clevisref03Same F_clevisref03Same) := S_clevisref03Same 
abbrev ps_code_Hole : List PT := [.one (.slice ((.prod (.int .i64) (.prod (.int .i64) (.prod (.int .i64) (.prod (.int .i64) (.prod (.int .i64) (.int .u64)))))))), .one (.int .i64)]
abbrev qs_code_Hole : List PT := [.one (.bool)]
noncomputable def PL_code_Hole_4_0  (fl : Nat)  (R : Type) (k : PTs.D qs_code_Hole → Option R) : LoopI R :=
  locate (Cw Tryd.prog [] hintsF) fl (call (Cw Tryd.prog [] hintsF) fl 11) 0 13 4 [] (getR qs_code_Hole k)
noncomputable def P_code_Hole_4_0  (fl : Nat)  (n : Nat) (R : Type) (y0 : List (Int × Int × Int × Int × Int × Int)) (y1 : Int) (y2 : Int) (k : PTs.D qs_code_Hole → Option R) : Option R :=
  loopH (PL_code_Hole_4_0  fl  R k).body (PL_code_Hole_4_0  fl  R k).head n (some (
      S.mk
        [V.ro true (Ty.prod (Ty.int IntKind.i64) (Ty.prod (Ty.int IntKind.i64) (Ty.prod (Ty.int IntKind.i64) (Ty.prod (Ty.int IntKind.i64) (Ty.prod (Ty.int IntKind.i64) (Ty.int IntKind.u64)))))) y0,
          V.int IntKind.i64 y1, V.any, V.any, V.any, V.int IntKind.i64 y2, V.any, V.any, V.any, V.any, V.any, V.any, V.any, V.any, V.any, V.any, V.any, V.any, V.any, V.any, V.any, V.any, V.any, V.any,
          V.any, V.any, V.any, V.any, V.any, V.any, V.any, V.any, V.any]
        [] [])) (PL_code_Hole_4_0  fl  R k).kont
theorem P_code_Hole_4_0_s  (fl : Nat)  (n : Nat) (R : Type) (y0 : List (Int × Int × Int × Int × Int × Int)) (y1 : Int) (y2 : Int) (k : PTs.D qs_code_Hole → Option R) : P_code_Hole_4_0  fl  (n + 1) R y0 y1 y2 k =
      br
        (W.or2 (W.not (W.lt y2 y1))
          (W.and2 (W.le 0 (W.wrap IntKind.i64 (W.sub (W.wrap IntKind.i64 (W.sub y1 1)) y2))) (W.lt (W.wrap IntKind.i64 (W.sub (W.wrap IntKind.i64 (W.sub y1 1)) y2)) (W.ofNat (W.len y0)))))
        (br (W.pick (W.lt y2 y1) (W.eq (W.get y0 (W.toNat (W.wrap IntKind.i64 (W.sub (W.wrap IntKind.i64 (W.sub y1 1)) y2))) (0, 0, 0, 0, 0, 0)).1 24) false)
          (P_code_Hole_4_0 fl n R y0 y1 (W.wrap IntKind.i64 (W.add y2 1)) k) (k (W.eq (W.wrap IntKind.i64 (W.and IntKind.i64 y2 1)) 1)))
        none := by kernel_rfl
noncomputable def N_code_Hole  (fl : Nat) : FT ps_code_Hole qs_code_Hole := fun R x k => match x with
  | (x0, x1) => 
      br (W.pick (W.lt x1 1) true (W.ge x1 (W.ofNat (W.len x0)))) (k false) (P_code_Hole_4_0 fl fl R x0 x1 0 k)
theorem Q_code_Hole  (fl : Nat) (R : Type) (x : PTs.D ps_code_Hole) (k : PTs.D qs_code_Hole → Option R) : call (Cw Tryd.prog [] hintsF) fl 12 13 (encL true ps_code_Hole x) [] (getR qs_code_Hole k) = N_code_Hole  fl R x k := by
  obtain ⟨x0, x1⟩ := x; kernel_rfl
theorem S_code_Hole   : SpecOk Tryd.prog 13 (mkS ps_code_Hole qs_code_Hole (N_code_Hole  W.big)) :=
  specOk_mk (fl := W.big) (d := 12) base (fun R x k => Q_code_Hole W.big R x k)
noncomputable def F_code_Hole : FT ps_code_Hole qs_code_Hole := N_code_Hole  W.big
theorem ok_code_Hole : SpecOk Tryd.prog 13 (mkS ps_code_Hole qs_code_Hole F_code_Hole) := S_code_Hole 
abbrev ps_strconv_Itoa_28 : List PT := [.one (.int .i64)]
abbrev qs_strconv_Itoa_28 : List PT := [.one (.str)]
/-- strconv.Itoa: a number's decimal numeral. -/
noncomputable def F_strconv_Itoa_28 : FT ps_strconv_Itoa_28 qs_strconv_Itoa_28 := fun R x k => k (itoaS x)
theorem ok_strconv_Itoa_28 : SpecOk Tryd.prog 28 (mkS ps_strconv_Itoa_28 qs_strconv_Itoa_28 F_strconv_Itoa_28) := specOk_str (ps := ps_strconv_Itoa_28) (f := fun n => itoaS n) (fun _ => true) (fun n F w cargs _ hz hB ha => by
  obtain ⟨cv, m, hm, hv, hn⟩ := VRL.cons (show VRL _ _ [V.int .i64 n] cargs.toList from ha)
  have := VRL.nil hn; subst this
  have hca : cargs = #[cv] := Array.toList_inj.1 (by simpa using hm)
  simp only [VR] at hv
  obtain ⟨rfl, hw⟩ := hv
  have h64 : -9223372036854775808 ≤ n ∧ n ≤ 9223372036854775807 := by simpa [wfI, Lit.wf, IntKind.min, IntKind.max, IntKind.signed, IntKind.bits] using hw
  refine ⟨Nat.le_trans (itoaS_size n h64.1 h64.2) (by decide), ?_⟩
  rw [hca]
  refine (Any.strconv_Itoa Tryd.laysm171 n h64.1 h64.2 w (tab_of_base (g := 1) (by kernel_rfl) rfl hB)).mono ?_
  rintro e w' ⟨he, k, os, rfl⟩
  exact ⟨he, grow_below w k os⟩)
abbrev ps_strconv_FormatUint_29 : List PT := [.one (.int .u64), .one (.int .i64)]
abbrev qs_strconv_FormatUint_29 : List PT := [.one (.str)]
/-- strconv.FormatUint at base 10: a number's decimal numeral. -/
noncomputable def F_strconv_FormatUint_29 : FT ps_strconv_FormatUint_29 qs_strconv_FormatUint_29 := fun R x k => br (W.eq x.2 10) (k (utoaS x.1)) none
theorem ok_strconv_FormatUint_29 : SpecOk Tryd.prog 29 (mkS ps_strconv_FormatUint_29 qs_strconv_FormatUint_29 F_strconv_FormatUint_29) := specOk_str (ps := ps_strconv_FormatUint_29) (f := fun x => utoaS x.1) (fun x => W.eq x.2 10) (fun x F w cargs hc hz hB ha => by
  obtain ⟨(n : Int), (b : Int)⟩ := x
  have hb : b = 10 := W.eq_t.1 hc
  subst hb
  obtain ⟨cv, m, hm, hv, hn⟩ := VRL.cons (show VRL _ _ [V.int .u64 n, V.int .i64 10] cargs.toList from ha)
  obtain ⟨cv2, m2, rfl, hv2, hn2⟩ := VRL.cons hn
  have := VRL.nil hn2; subst this
  have hca : cargs = #[cv, cv2] := Array.toList_inj.1 (by simpa using hm)
  simp only [VR] at hv hv2
  obtain ⟨rfl, hw⟩ := hv
  obtain ⟨rfl, _⟩ := hv2
  have h64 : 0 ≤ n ∧ n ≤ 18446744073709551615 := by simpa [wfI, Lit.wf, IntKind.min, IntKind.max, IntKind.signed, IntKind.bits] using hw
  obtain ⟨u, rfl⟩ : ∃ u : Nat, n = u := ⟨n.toNat, by omega⟩
  refine ⟨Nat.le_trans (utoaS_size u (by omega)) (by decide), ?_⟩
  rw [hca]
  refine (formatUintPublic u (by omega) w hB).mono ?_
  rintro e w' ⟨he, k, os, rfl⟩
  exact ⟨he, grow_below w k os⟩)
abbrev ps_strings_Join : List PT := [.one (.slice (.str)), .one (.str)]
abbrev qs_strings_Join : List PT := [.one (.str)]
/-- strings.Join. -/
noncomputable def F_strings_Join : FT ps_strings_Join qs_strings_Join := fun R x k => br (W.and2 (W.leN (W.len x.1) 140737488355328) (W.leN (W.size (joinS x.1 x.2)) 281474976710656)) (k (joinS x.1 x.2)) none
theorem ok_strings_Join : SpecOk Tryd.prog 30 (mkS ps_strings_Join qs_strings_Join F_strings_Join) := specOk_str (ps := ps_strings_Join) (f := fun x => joinS x.1 x.2) (fun x => W.and2 (W.leN (W.len x.1) 140737488355328) (W.leN (W.size (joinS x.1 x.2)) 281474976710656)) (fun x F w cargs hc hz hB ha => by
  obtain ⟨(xs : List ByteArray), (sep : ByteArray)⟩ := x
  simp only [W.and2_t, W.leN_t, W.size] at hc
  obtain ⟨hc1, hc2⟩ := hc
  have hc1 : xs.length ≤ 140737488355328 := hc1
  obtain ⟨cv, m, hm, hv, hn⟩ := VRL.cons (show VRL _ _ [V.ro true .str xs, V.str sep] cargs.toList from ha)
  obtain ⟨cv2, m2, rfl, hv2, hn2⟩ := VRL.cons hn
  have := VRL.nil hn2; subst this
  have hca : cargs = #[cv, cv2] := Array.toList_inj.1 (by simpa using hm)
  simp only [VR] at hv2
  obtain ⟨rfl, _⟩ := hv2
  simp only [VR, TR] at hv
  obtain ⟨a, cap, hcv, h1, h2, h3⟩ := hv
  simp only [List.cons.injEq, and_true] at hcv
  subst hcv
  have hlen : (Lib.join (xs.map (·.data.toList)) sep.data.toList).length ≤ 281474976710656 := by
    have : (joinS xs sep).size ≤ 281474976710656 := hc2
    simpa [joinS, ByteArray.size] using this
  refine ⟨Nat.le_trans hc2 (by decide), ?_⟩
  rw [hca]
  rcases Nat.eq_zero_or_pos xs.length with h0 | h0
  · have hx0 : xs = [] := List.length_eq_zero_iff.1 h0
    subst hx0
    refine (Any.strings_Join_none Tryd.lays156 Tryd.extra156 a cap sep w).mono ?_
    rintro e w' ⟨rfl, rfl⟩
    exact ⟨rfl, RowKit.Below.refl _ _⟩
  · obtain ⟨g, off, rfl, h4⟩ := h3 h0
    have hcell : ∀ (j : Nat) y, xs[j]? = some y → w.cell? ⟨g, off + j, none⟩ = some (.string y) := by
      intro j y hy
      obtain ⟨hj, rfl⟩ := List.getElem?_eq_some_iff.1 hy
      obtain ⟨ds, h5, h6⟩ := h4 j hj
      try simp only [TR] at h5
      obtain ⟨rfl, _⟩ := h5
      have h7 := h6 0 _ rfl
      simpa [lend, snap, Ty.size] using h7
    have hbk : g < w.heap.size := by
      have := hcell 0 _ (List.getElem?_eq_getElem h0)
      refine Classical.byContradiction fun hn => ?_
      have e : w.heap[g]? = none := Array.getElem?_eq_none (by omega)
      simp [World.cell?, e] at this
    exact Any.strings_Join_48 Tryd.lays156 Tryd.extra156 g off cap xs sep w hcell hbk hc1 h1 hlen)
abbrev ps_code_Text : List PT := [.agg ((.prod (.int .i64) (.prod (.int .i64) (.prod (.int .i64) (.prod (.int .i64) (.prod (.int .i64) (.int .u64)))))))]
abbrev qs_code_Text : List PT := [.one (.str)]
noncomputable def N_code_Text (F_strconv_Itoa_28 : FT ps_strconv_Itoa_28 qs_strconv_Itoa_28) (F_strconv_FormatUint_29 : FT ps_strconv_FormatUint_29 qs_strconv_FormatUint_29) (F_strings_Join : FT ps_strings_Join qs_strings_Join)  : FT ps_code_Text qs_code_Text := fun R x k => match x with
  | (x0Op, x0Dst, x0Src, x0Off, x0Imm, x0Wide) => 
      F_strconv_Itoa_28 R (W.get [x0Op, x0Dst, x0Src, x0Off, x0Imm] 0 0) fun y =>
        br (W.leN (W.mulN 1 16) 140737488355328)
          (F_strconv_Itoa_28 R (W.get [x0Op, x0Dst, x0Src, x0Off, x0Imm] 1 0) fun y_1 =>
            br (W.leN (W.mulN 2 16) 140737488355328)
              (F_strconv_Itoa_28 R (W.get [x0Op, x0Dst, x0Src, x0Off, x0Imm] 2 0) fun y_2 =>
                br (W.leN (W.mulN 3 16) 140737488355328)
                  (F_strconv_Itoa_28 R (W.get [x0Op, x0Dst, x0Src, x0Off, x0Imm] 3 0) fun y_3 =>
                    br (W.leN (W.mulN 4 16) 140737488355328)
                      (F_strconv_Itoa_28 R (W.get [x0Op, x0Dst, x0Src, x0Off, x0Imm] 4 0) fun y_4 =>
                        br (W.leN (W.mulN 5 16) 140737488355328)
                          (br (W.eq x0Op 24)
                            (F_strconv_FormatUint_29 R (x0Wide, 10) fun y_5 =>
                              br (W.leN (W.mulN 6 16) 140737488355328)
                                (F_strings_Join R
                                  (W.app (W.app (W.app (W.app (W.app [y] [y_1]) [y_2]) [y_3]) [y_4]) [y_5],
                                    ByteArray.mk (Array.mk [UInt8.ofBitVec (BitVec.ofFin (Fin.mk 32 (Nat.mod_lt 32 (BitVec.ofNat._proof_1 8))))]))
                                  fun y => k y)
                                none)
                            (F_strings_Join R
                              (W.app (W.app (W.app (W.app [y] [y_1]) [y_2]) [y_3]) [y_4], ByteArray.mk (Array.mk [UInt8.ofBitVec (BitVec.ofFin (Fin.mk 32 (Nat.mod_lt 32 (BitVec.ofNat._proof_1 8))))]))
                              fun y => k y))
                          none)
                      none)
                  none)
              none)
          none
theorem S_code_Text {F_strconv_Itoa_28 : FT ps_strconv_Itoa_28 qs_strconv_Itoa_28} {F_strconv_FormatUint_29 : FT ps_strconv_FormatUint_29 qs_strconv_FormatUint_29} {F_strings_Join : FT ps_strings_Join qs_strings_Join} (h_strconv_Itoa_28 : SpecOk Tryd.prog 28 (mkS ps_strconv_Itoa_28 qs_strconv_Itoa_28 F_strconv_Itoa_28)) (h_strconv_FormatUint_29 : SpecOk Tryd.prog 29 (mkS ps_strconv_FormatUint_29 qs_strconv_FormatUint_29 F_strconv_FormatUint_29)) (h_strings_Join : SpecOk Tryd.prog 30 (mkS ps_strings_Join qs_strings_Join F_strings_Join)) : SpecOk Tryd.prog 18 (mkS ps_code_Text qs_code_Text (N_code_Text F_strconv_Itoa_28 F_strconv_FormatUint_29 F_strings_Join)) :=
  specOk_mk (fl := 22) (d := 12) (cfgOk_cons (cfgOk_cons (cfgOk_cons base h_strings_Join) h_strconv_FormatUint_29) h_strconv_Itoa_28) (by rintro R ⟨x0Op, x0Dst, x0Src, x0Off, x0Imm, x0Wide⟩ k; kernel_rfl)
noncomputable def F_code_Text : FT ps_code_Text qs_code_Text := N_code_Text F_strconv_Itoa_28 F_strconv_FormatUint_29 F_strings_Join 
theorem ok_code_Text : SpecOk Tryd.prog 18 (mkS ps_code_Text qs_code_Text F_code_Text) := S_code_Text ok_strconv_Itoa_28 ok_strconv_FormatUint_29 ok_strings_Join
abbrev ps_clevislaw03heads : List PT := []
abbrev qs_clevislaw03heads : List PT := [.one (.bool)]
noncomputable def N_clevislaw03heads (F_code_Decode : FT ps_code_Decode qs_code_Decode) (F_code_Hole : FT ps_code_Hole qs_code_Hole) (F_code_Text : FT ps_code_Text qs_code_Text)  : FT ps_clevislaw03heads qs_clevislaw03heads := fun R x k => match x with
  | () => 
      F_code_Decode R [183, 0, 0, 0, 5, 0, 0, 0] fun y =>
        F_code_Decode R [24, 0, 0, 0, 0, 0, 0, 0] fun y_1 =>
          F_code_Decode R [24, 1, 0, 0, 7, 0, 0, 0, 0, 0, 0, 0, 1, 0, 0, 0] fun y_2 =>
            br (W.or2 (W.not (W.pick (W.eq y.2 0) (W.eq (W.ofNat (W.len y.1)) 1) false)) (W.lt 0 (W.ofNat (W.len y.1))))
              (br
                (W.or2
                  (W.not
                    (W.pick (W.pick (W.eq y.2 0) (W.eq (W.ofNat (W.len y.1)) 1) false)
                      (W.and2 (W.eq (W.get y.1 0 (0, 0, 0, 0, 0, 0)).1 183)
                        (W.and2 (W.eq (W.get y.1 0 (0, 0, 0, 0, 0, 0)).2.1 0)
                          (W.and2 (W.eq (W.get y.1 0 (0, 0, 0, 0, 0, 0)).2.2.1 0)
                            (W.and2 (W.eq (W.get y.1 0 (0, 0, 0, 0, 0, 0)).2.2.2.1 0)
                              (W.and2 (W.eq (W.get y.1 0 (0, 0, 0, 0, 0, 0)).2.2.2.2.1 5) (W.and2 (W.eq (W.get y.1 0 (0, 0, 0, 0, 0, 0)).2.2.2.2.2 0) true))))))
                      false))
                  (W.lt 0 (W.ofNat (W.len y.1))))
                (br
                  (W.pick (W.pick (W.eq y.2 0) (W.eq (W.ofNat (W.len y.1)) 1) false)
                    (W.and2 (W.eq (W.get y.1 0 (0, 0, 0, 0, 0, 0)).1 183)
                      (W.and2 (W.eq (W.get y.1 0 (0, 0, 0, 0, 0, 0)).2.1 0)
                        (W.and2 (W.eq (W.get y.1 0 (0, 0, 0, 0, 0, 0)).2.2.1 0)
                          (W.and2 (W.eq (W.get y.1 0 (0, 0, 0, 0, 0, 0)).2.2.2.1 0)
                            (W.and2 (W.eq (W.get y.1 0 (0, 0, 0, 0, 0, 0)).2.2.2.2.1 5) (W.and2 (W.eq (W.get y.1 0 (0, 0, 0, 0, 0, 0)).2.2.2.2.2 0) true))))))
                    false)
                  (F_code_Text R
                    ((W.get y.1 0 (0, 0, 0, 0, 0, 0)).1, (W.get y.1 0 (0, 0, 0, 0, 0, 0)).2.1, (W.get y.1 0 (0, 0, 0, 0, 0, 0)).2.2.1, (W.get y.1 0 (0, 0, 0, 0, 0, 0)).2.2.2.1,
                      (W.get y.1 0 (0, 0, 0, 0, 0, 0)).2.2.2.2.1, (W.get y.1 0 (0, 0, 0, 0, 0, 0)).2.2.2.2.2)
                    fun y =>
                    br
                      (W.or2
                        (W.not
                          (W.pick
                            (W.pick
                              (W.pick
                                (W.eqS y
                                  (ByteArray.mk
                                    (Array.mk
                                      [UInt8.ofBitVec (BitVec.ofFin (Fin.mk 49 (Nat.mod_lt 49 (BitVec.ofNat._proof_1 8)))),
                                        UInt8.ofBitVec (BitVec.ofFin (Fin.mk 56 (Nat.mod_lt 56 (BitVec.ofNat._proof_1 8)))),
                                        UInt8.ofBitVec (BitVec.ofFin (Fin.mk 51 (Nat.mod_lt 51 (BitVec.ofNat._proof_1 8)))),
                                        UInt8.ofBitVec (BitVec.ofFin (Fin.mk 32 (Nat.mod_lt 32 (BitVec.ofNat._proof_1 8)))),
                                        UInt8.ofBitVec (BitVec.ofFin (Fin.mk 48 (Nat.mod_lt 48 (BitVec.ofNat._proof_1 8)))),
                                        UInt8.ofBitVec (BitVec.ofFin (Fin.mk 32 (Nat.mod_lt 32 (BitVec.ofNat._proof_1 8)))),
                                        UInt8.ofBitVec (BitVec.ofFin (Fin.mk 48 (Nat.mod_lt 48 (BitVec.ofNat._proof_1 8)))),
                                        UInt8.ofBitVec (BitVec.ofFin (Fin.mk 32 (Nat.mod_lt 32 (BitVec.ofNat._proof_1 8)))),
                                        UInt8.ofBitVec (BitVec.ofFin (Fin.mk 48 (Nat.mod_lt 48 (BitVec.ofNat._proof_1 8)))),
                                        UInt8.ofBitVec (BitVec.ofFin (Fin.mk 32 (Nat.mod_lt 32 (BitVec.ofNat._proof_1 8)))),
                                        UInt8.ofBitVec (BitVec.ofFin (Fin.mk 53 (Nat.mod_lt 53 (BitVec.ofNat._proof_1 8))))])))
                                (W.eq y_1.2 30) false)
                              (W.eq y_2.2 0) false)
                            (W.eq (W.ofNat (W.len y_2.1)) 2) false))
                        (W.lt 0 (W.ofNat (W.len y_2.1))))
                      (br
                        (W.pick
                          (W.pick
                            (W.pick
                              (W.pick
                                (W.eqS y
                                  (ByteArray.mk
                                    (Array.mk
                                      [UInt8.ofBitVec (BitVec.ofFin (Fin.mk 49 (Nat.mod_lt 49 (BitVec.ofNat._proof_1 8)))),
                                        UInt8.ofBitVec (BitVec.ofFin (Fin.mk 56 (Nat.mod_lt 56 (BitVec.ofNat._proof_1 8)))),
                                        UInt8.ofBitVec (BitVec.ofFin (Fin.mk 51 (Nat.mod_lt 51 (BitVec.ofNat._proof_1 8)))),
                                        UInt8.ofBitVec (BitVec.ofFin (Fin.mk 32 (Nat.mod_lt 32 (BitVec.ofNat._proof_1 8)))),
                                        UInt8.ofBitVec (BitVec.ofFin (Fin.mk 48 (Nat.mod_lt 48 (BitVec.ofNat._proof_1 8)))),
                                        UInt8.ofBitVec (BitVec.ofFin (Fin.mk 32 (Nat.mod_lt 32 (BitVec.ofNat._proof_1 8)))),
                                        UInt8.ofBitVec (BitVec.ofFin (Fin.mk 48 (Nat.mod_lt 48 (BitVec.ofNat._proof_1 8)))),
                                        UInt8.ofBitVec (BitVec.ofFin (Fin.mk 32 (Nat.mod_lt 32 (BitVec.ofNat._proof_1 8)))),
                                        UInt8.ofBitVec (BitVec.ofFin (Fin.mk 48 (Nat.mod_lt 48 (BitVec.ofNat._proof_1 8)))),
                                        UInt8.ofBitVec (BitVec.ofFin (Fin.mk 32 (Nat.mod_lt 32 (BitVec.ofNat._proof_1 8)))),
                                        UInt8.ofBitVec (BitVec.ofFin (Fin.mk 53 (Nat.mod_lt 53 (BitVec.ofNat._proof_1 8))))])))
                                (W.eq y_1.2 30) false)
                              (W.eq y_2.2 0) false)
                            (W.eq (W.ofNat (W.len y_2.1)) 2) false)
                          (W.eq (W.get y_2.1 0 (0, 0, 0, 0, 0, 0)).2.2.2.2.2 4294967303) false)
                        (F_code_Hole R (y_2.1, 1) fun y => br y (F_code_Hole R (y_2.1, 0) fun y => k (W.not y)) (k false)) (k false))
                      none)
                  (br (W.or2 (W.not false) (W.lt 0 (W.ofNat (W.len y_2.1)))) (k false) none))
                none)
              none
theorem S_clevislaw03heads {F_code_Decode : FT ps_code_Decode qs_code_Decode} {F_code_Hole : FT ps_code_Hole qs_code_Hole} {F_code_Text : FT ps_code_Text qs_code_Text} (h_code_Decode : SpecOk Tryd.prog 9 (mkS ps_code_Decode qs_code_Decode F_code_Decode)) (h_code_Hole : SpecOk Tryd.prog 13 (mkS ps_code_Hole qs_code_Hole F_code_Hole)) (h_code_Text : SpecOk Tryd.prog 18 (mkS ps_code_Text qs_code_Text F_code_Text)) : SpecOk Tryd.prog 12 (mkS ps_clevislaw03heads qs_clevislaw03heads (N_clevislaw03heads F_code_Decode F_code_Hole F_code_Text)) :=
  specOk_mk (fl := 10) (d := 12) (cfgOk_cons (cfgOk_cons (cfgOk_cons base h_code_Text) h_code_Hole) h_code_Decode) (by intro R x k; kernel_rfl)
noncomputable def F_clevislaw03heads : FT ps_clevislaw03heads qs_clevislaw03heads := N_clevislaw03heads F_code_Decode F_code_Hole F_code_Text 
theorem ok_clevislaw03heads : SpecOk Tryd.prog 12 (mkS ps_clevislaw03heads qs_clevislaw03heads F_clevislaw03heads) := S_clevislaw03heads ok_code_Decode ok_code_Hole ok_code_Text
abbrev ps_clevislaw03CodeReads : List PT := [.one (.slice (.int .u8))]
noncomputable def L_clevislaw03CodeReads (F_code_Decode : FT ps_code_Decode qs_code_Decode) (F_clevisref03Decode : FT ps_clevisref03Decode qs_clevisref03Decode) (F_clevisref03Same : FT ps_clevisref03Same qs_clevisref03Same) (F_clevislaw03heads : FT ps_clevislaw03heads qs_clevislaw03heads)  (x : PTs.D ps_clevislaw03CodeReads) : Option Unit := match x with
  | x0 => 
      F_code_Decode Unit x0 fun y =>
        F_clevisref03Decode Unit x0 fun y_1 =>
          F_clevisref03Same Unit (y.1, y_1.1) fun y_2 => br (W.pick y_2 (W.eq y.2 y_1.2) false) (F_clevislaw03heads Unit () fun y => br y (some ()) none) none
theorem E_clevislaw03CodeReads {F_code_Decode : FT ps_code_Decode qs_code_Decode} {F_clevisref03Decode : FT ps_clevisref03Decode qs_clevisref03Decode} {F_clevisref03Same : FT ps_clevisref03Same qs_clevisref03Same} {F_clevislaw03heads : FT ps_clevislaw03heads qs_clevislaw03heads} (h_code_Decode : SpecOk Tryd.prog 9 (mkS ps_code_Decode qs_code_Decode F_code_Decode)) (h_clevisref03Decode : SpecOk Tryd.prog 10 (mkS ps_clevisref03Decode qs_clevisref03Decode F_clevisref03Decode)) (h_clevisref03Same : SpecOk Tryd.prog 11 (mkS ps_clevisref03Same qs_clevisref03Same F_clevisref03Same)) (h_clevislaw03heads : SpecOk Tryd.prog 12 (mkS ps_clevislaw03heads qs_clevislaw03heads F_clevislaw03heads)) (x : PTs.D ps_clevislaw03CodeReads) (hL : L_clevislaw03CodeReads F_code_Decode F_clevisref03Decode F_clevisref03Same F_clevislaw03heads x = some ()) :
    ∃ (C : Cfg) (fl d : Nat), CfgOk C ∧ C.P = Tryd.prog ∧ call C fl d 3 (encL false ps_clevislaw03CodeReads x) [] getL = some () :=
  ⟨_, 10, 12, (cfgOk_cons (cfgOk_cons (cfgOk_cons (cfgOk_cons base h_clevislaw03heads) h_clevisref03Same) h_clevisref03Decode) h_code_Decode), rfl, (show _ = L_clevislaw03CodeReads F_code_Decode F_clevisref03Decode F_clevisref03Same F_clevislaw03heads x by kernel_rfl).trans hL⟩
abbrev ps_clevislaw03CodeJoins : List PT := [.one (.slice (.int .u8)), .one (.slice (.int .u8))]
noncomputable def L_clevislaw03CodeJoins (F_code_Decode : FT ps_code_Decode qs_code_Decode) (F_clevisref03Same : FT ps_clevisref03Same qs_clevisref03Same) (F_clevislaw03heads : FT ps_clevislaw03heads qs_clevislaw03heads)  (x : PTs.D ps_clevislaw03CodeJoins) : Option Unit := match x with
  | (x0, x1) => 
      F_code_Decode Unit x0 fun y =>
        F_code_Decode Unit x1 fun y_1 =>
          br (W.pick (W.pick (W.pick (W.ne y.2 0) true (W.ne y_1.2 0)) true (W.gt (W.ofNat (W.len x0)) 1000)) true (W.gt (W.ofNat (W.len x1)) 1000))
            (F_clevislaw03heads Unit () fun y => br y (some ()) none)
            (br (W.leN (W.mulN (W.len x0) 1) 140737488355328)
              (br (W.leN (W.mulN (W.addN (W.len x0) (W.len x1)) 1) 140737488355328)
                (F_code_Decode Unit (W.app x0 x1) fun y_2 =>
                  br (W.eq y_2.2 0)
                    (br (W.leN (W.mulN (W.len y.1) 48) 140737488355328)
                      (br (W.leN (W.mulN (W.addN (W.len y.1) (W.len y_1.1)) 48) 140737488355328)
                        (F_clevisref03Same Unit (y_2.1, W.app y.1 y_1.1) fun y => br y (F_clevislaw03heads Unit () fun y => br y (some ()) none) none) none)
                      none)
                    none)
                none)
              none)
theorem E_clevislaw03CodeJoins {F_code_Decode : FT ps_code_Decode qs_code_Decode} {F_clevisref03Same : FT ps_clevisref03Same qs_clevisref03Same} {F_clevislaw03heads : FT ps_clevislaw03heads qs_clevislaw03heads} (h_code_Decode : SpecOk Tryd.prog 9 (mkS ps_code_Decode qs_code_Decode F_code_Decode)) (h_clevisref03Same : SpecOk Tryd.prog 11 (mkS ps_clevisref03Same qs_clevisref03Same F_clevisref03Same)) (h_clevislaw03heads : SpecOk Tryd.prog 12 (mkS ps_clevislaw03heads qs_clevislaw03heads F_clevislaw03heads)) (x : PTs.D ps_clevislaw03CodeJoins) (hL : L_clevislaw03CodeJoins F_code_Decode F_clevisref03Same F_clevislaw03heads x = some ()) :
    ∃ (C : Cfg) (fl d : Nat), CfgOk C ∧ C.P = Tryd.prog ∧ call C fl d 4 (encL false ps_clevislaw03CodeJoins x) [] getL = some () :=
  ⟨_, 10, 12, (cfgOk_cons (cfgOk_cons (cfgOk_cons base h_clevislaw03heads) h_clevisref03Same) h_code_Decode), rfl, (show _ = L_clevislaw03CodeJoins F_code_Decode F_clevisref03Same F_clevislaw03heads x by obtain ⟨x0, x1⟩ := x; kernel_rfl).trans hL⟩
abbrev ps_clevislaw03CodeHoles : List PT := [.one (.slice (.int .u8))]
noncomputable def PL_clevislaw03CodeHoles_5_0 (F_code_Decode : FT ps_code_Decode qs_code_Decode) (F_code_Hole : FT ps_code_Hole qs_code_Hole) (F_clevislaw03heads : FT ps_clevislaw03heads qs_clevislaw03heads) (fl : Nat)  (R : Type)  : LoopI Unit :=
  locate (Cw Tryd.prog [(9, mkS ps_code_Decode qs_code_Decode F_code_Decode), (13, mkS ps_code_Hole qs_code_Hole F_code_Hole), (12, mkS ps_clevislaw03heads qs_clevislaw03heads F_clevislaw03heads)] hintsF) fl (call (Cw Tryd.prog [(9, mkS ps_code_Decode qs_code_Decode F_code_Decode), (13, mkS ps_code_Hole qs_code_Hole F_code_Hole), (12, mkS ps_clevislaw03heads qs_clevislaw03heads F_clevislaw03heads)] hintsF) fl 11) 0 5 5 [] getL
noncomputable def P_clevislaw03CodeHoles_5_0 (F_code_Decode : FT ps_code_Decode qs_code_Decode) (F_code_Hole : FT ps_code_Hole qs_code_Hole) (F_clevislaw03heads : FT ps_clevislaw03heads qs_clevislaw03heads) (fl : Nat)  (n : Nat) (R : Type) (y0 : List (Int × Int × Int × Int × Int × Int)) (y1 : Int)  : Option Unit :=
  loopH (PL_clevislaw03CodeHoles_5_0 F_code_Decode F_code_Hole F_clevislaw03heads fl  R ).body (PL_clevislaw03CodeHoles_5_0 F_code_Decode F_code_Hole F_clevislaw03heads fl  R ).head n (some (
      S.mk
        [V.any, V.any, V.any,
          V.ro false (Ty.prod (Ty.int IntKind.i64) (Ty.prod (Ty.int IntKind.i64) (Ty.prod (Ty.int IntKind.i64) (Ty.prod (Ty.int IntKind.i64) (Ty.prod (Ty.int IntKind.i64) (Ty.int IntKind.u64)))))) y0,
          V.any, V.int IntKind.i64 y1, V.any, V.any, V.any, V.any, V.any, V.any, V.any, V.any, V.any, V.any, V.any, V.any, V.any, V.any, V.any, V.any, V.any, V.any, V.any, V.any, V.any, V.any, V.any, V.any,
          V.any, V.any, V.any, V.any, V.any, V.any, V.any, V.any, V.any, V.any, V.any, V.any, V.any, V.any, V.any, V.any, V.any, V.any, V.any, V.any, V.any, V.any, V.any, V.any, V.any, V.any, V.any, V.any,
          V.any, V.any, V.any, V.any, V.any, V.any, V.any, V.any, V.any, V.any, V.any, V.any, V.any, V.any, V.any, V.any, V.any, V.any, V.any]
        [] [])) (PL_clevislaw03CodeHoles_5_0 F_code_Decode F_code_Hole F_clevislaw03heads fl  R ).kont
theorem P_clevislaw03CodeHoles_5_0_s {F_code_Decode : FT ps_code_Decode qs_code_Decode} {F_code_Hole : FT ps_code_Hole qs_code_Hole} {F_clevislaw03heads : FT ps_clevislaw03heads qs_clevislaw03heads} (fl : Nat)  (n : Nat)  (y0 : List (Int × Int × Int × Int × Int × Int)) (y1 : Int)  : P_clevislaw03CodeHoles_5_0 F_code_Decode F_code_Hole F_clevislaw03heads fl  (n + 1) Unit y0 y1  =
      br (W.lt y1 (W.ofNat (W.len y0)))
        (F_code_Hole Unit (y0, y1) fun y =>
          br (W.or2 (W.not (W.and2 y (W.not (W.eq y1 0)))) (W.and2 (W.le 0 y1) (W.lt y1 (W.ofNat (W.len y0)))))
            (br
              (W.or2
                (W.not
                  (W.and2 y
                    (W.not
                      (W.pick (W.eq y1 0) true
                        (W.not
                          (W.and2 (W.eq (W.get y0 (W.toNat y1) (0, 0, 0, 0, 0, 0)).1 0)
                            (W.and2 (W.eq (W.get y0 (W.toNat y1) (0, 0, 0, 0, 0, 0)).2.1 0)
                              (W.and2 (W.eq (W.get y0 (W.toNat y1) (0, 0, 0, 0, 0, 0)).2.2.1 0)
                                (W.and2 (W.eq (W.get y0 (W.toNat y1) (0, 0, 0, 0, 0, 0)).2.2.2.1 0)
                                  (W.and2 (W.eq (W.get y0 (W.toNat y1) (0, 0, 0, 0, 0, 0)).2.2.2.2.1 0) (W.and2 (W.eq (W.get y0 (W.toNat y1) (0, 0, 0, 0, 0, 0)).2.2.2.2.2 0) true)))))))))))
                (W.and2 (W.le 0 (W.wrap IntKind.i64 (W.sub y1 1))) (W.lt (W.wrap IntKind.i64 (W.sub y1 1)) (W.ofNat (W.len y0)))))
              (br
                (W.and2 y
                  (W.not
                    (W.pick
                      (W.pick (W.eq y1 0) true
                        (W.not
                          (W.and2 (W.eq (W.get y0 (W.toNat y1) (0, 0, 0, 0, 0, 0)).1 0)
                            (W.and2 (W.eq (W.get y0 (W.toNat y1) (0, 0, 0, 0, 0, 0)).2.1 0)
                              (W.and2 (W.eq (W.get y0 (W.toNat y1) (0, 0, 0, 0, 0, 0)).2.2.1 0)
                                (W.and2 (W.eq (W.get y0 (W.toNat y1) (0, 0, 0, 0, 0, 0)).2.2.2.1 0)
                                  (W.and2 (W.eq (W.get y0 (W.toNat y1) (0, 0, 0, 0, 0, 0)).2.2.2.2.1 0) (W.and2 (W.eq (W.get y0 (W.toNat y1) (0, 0, 0, 0, 0, 0)).2.2.2.2.2 0) true))))))))
                      true (W.ne (W.get y0 (W.toNat (W.wrap IntKind.i64 (W.sub y1 1))) (0, 0, 0, 0, 0, 0)).1 24))))
                (F_code_Hole Unit (y0, W.wrap IntKind.i64 (W.sub y1 1)) fun y_1 =>
                  br
                    (W.pick y
                      (W.pick
                        (W.pick
                          (W.pick (W.eq y1 0) true
                            (W.not
                              (W.and2 (W.eq (W.get y0 (W.toNat y1) (0, 0, 0, 0, 0, 0)).1 0)
                                (W.and2 (W.eq (W.get y0 (W.toNat y1) (0, 0, 0, 0, 0, 0)).2.1 0)
                                  (W.and2 (W.eq (W.get y0 (W.toNat y1) (0, 0, 0, 0, 0, 0)).2.2.1 0)
                                    (W.and2 (W.eq (W.get y0 (W.toNat y1) (0, 0, 0, 0, 0, 0)).2.2.2.1 0)
                                      (W.and2 (W.eq (W.get y0 (W.toNat y1) (0, 0, 0, 0, 0, 0)).2.2.2.2.1 0) (W.and2 (W.eq (W.get y0 (W.toNat y1) (0, 0, 0, 0, 0, 0)).2.2.2.2.2 0) true))))))))
                          true (W.ne (W.get y0 (W.toNat (W.wrap IntKind.i64 (W.sub y1 1))) (0, 0, 0, 0, 0, 0)).1 24))
                        true y_1)
                      false)
                    none
                    (br (W.or2 (W.not (W.not y)) (W.and2 (W.le 0 y1) (W.lt y1 (W.ofNat (W.len y0)))))
                      (br (W.and2 (W.pick (W.not y) (W.eq (W.get y0 (W.toNat y1) (0, 0, 0, 0, 0, 0)).1 24) false) (W.not (W.ge (W.wrap IntKind.i64 (W.add y1 1)) (W.ofNat (W.len y0)))))
                        (F_code_Hole Unit (y0, W.wrap IntKind.i64 (W.add y1 1)) fun y_2 =>
                          br
                            (W.pick (W.pick (W.not y) (W.eq (W.get y0 (W.toNat y1) (0, 0, 0, 0, 0, 0)).1 24) false) (W.pick (W.ge (W.wrap IntKind.i64 (W.add y1 1)) (W.ofNat (W.len y0))) true (W.not y_2))
                              false)
                            none (P_clevislaw03CodeHoles_5_0 F_code_Decode F_code_Hole F_clevislaw03heads fl n Unit y0 (W.wrap IntKind.i64 (W.add y1 1))))
                        (br (W.and2 (W.pick (W.not y) (W.eq (W.get y0 (W.toNat y1) (0, 0, 0, 0, 0, 0)).1 24) false) (W.not (W.ge (W.wrap IntKind.i64 (W.add y1 1)) (W.ofNat (W.len y0))))) none
                          (br (W.pick (W.not y) (W.eq (W.get y0 (W.toNat y1) (0, 0, 0, 0, 0, 0)).1 24) false) (br (W.ge (W.wrap IntKind.i64 (W.add y1 1)) (W.ofNat (W.len y0))) none none)
                            (P_clevislaw03CodeHoles_5_0 F_code_Decode F_code_Hole F_clevislaw03heads fl n Unit y0 (W.wrap IntKind.i64 (W.add y1 1))))))
                      none))
                (br y
                  (br
                    (W.pick
                      (W.pick (W.eq y1 0) true
                        (W.not
                          (W.and2 (W.eq (W.get y0 (W.toNat y1) (0, 0, 0, 0, 0, 0)).1 0)
                            (W.and2 (W.eq (W.get y0 (W.toNat y1) (0, 0, 0, 0, 0, 0)).2.1 0)
                              (W.and2 (W.eq (W.get y0 (W.toNat y1) (0, 0, 0, 0, 0, 0)).2.2.1 0)
                                (W.and2 (W.eq (W.get y0 (W.toNat y1) (0, 0, 0, 0, 0, 0)).2.2.2.1 0)
                                  (W.and2 (W.eq (W.get y0 (W.toNat y1) (0, 0, 0, 0, 0, 0)).2.2.2.2.1 0) (W.and2 (W.eq (W.get y0 (W.toNat y1) (0, 0, 0, 0, 0, 0)).2.2.2.2.2 0) true))))))))
                      true (W.ne (W.get y0 (W.toNat (W.wrap IntKind.i64 (W.sub y1 1))) (0, 0, 0, 0, 0, 0)).1 24))
                    none none)
                  (br (W.or2 (W.not (W.not y)) (W.and2 (W.le 0 y1) (W.lt y1 (W.ofNat (W.len y0)))))
                    (br (W.and2 (W.pick (W.not y) (W.eq (W.get y0 (W.toNat y1) (0, 0, 0, 0, 0, 0)).1 24) false) (W.not (W.ge (W.wrap IntKind.i64 (W.add y1 1)) (W.ofNat (W.len y0)))))
                      (F_code_Hole Unit (y0, W.wrap IntKind.i64 (W.add y1 1)) fun y_1 =>
                        br
                          (W.pick (W.pick (W.not y) (W.eq (W.get y0 (W.toNat y1) (0, 0, 0, 0, 0, 0)).1 24) false) (W.pick (W.ge (W.wrap IntKind.i64 (W.add y1 1)) (W.ofNat (W.len y0))) true (W.not y_1))
                            false)
                          none (P_clevislaw03CodeHoles_5_0 F_code_Decode F_code_Hole F_clevislaw03heads fl n Unit y0 (W.wrap IntKind.i64 (W.add y1 1))))
                      (br (W.and2 (W.pick (W.not y) (W.eq (W.get y0 (W.toNat y1) (0, 0, 0, 0, 0, 0)).1 24) false) (W.not (W.ge (W.wrap IntKind.i64 (W.add y1 1)) (W.ofNat (W.len y0))))) none
                        (br (W.pick (W.not y) (W.eq (W.get y0 (W.toNat y1) (0, 0, 0, 0, 0, 0)).1 24) false) (br (W.ge (W.wrap IntKind.i64 (W.add y1 1)) (W.ofNat (W.len y0))) none none)
                          (P_clevislaw03CodeHoles_5_0 F_code_Decode F_code_Hole F_clevislaw03heads fl n Unit y0 (W.wrap IntKind.i64 (W.add y1 1))))))
                    none)))
              none)
            none)
        (F_clevislaw03heads Unit () fun y => br y (some ()) none) := by kernel_rfl
noncomputable def L_clevislaw03CodeHoles (F_code_Decode : FT ps_code_Decode qs_code_Decode) (F_code_Hole : FT ps_code_Hole qs_code_Hole) (F_clevislaw03heads : FT ps_clevislaw03heads qs_clevislaw03heads) (fl : Nat) (x : PTs.D ps_clevislaw03CodeHoles) : Option Unit := match x with
  | x0 => 
      F_code_Decode Unit x0 fun y => br (W.ne y.2 0) (F_clevislaw03heads Unit () fun y => br y (some ()) none) (P_clevislaw03CodeHoles_5_0 F_code_Decode F_code_Hole F_clevislaw03heads fl fl Unit y.1 0)
theorem Q_clevislaw03CodeHoles {F_code_Decode : FT ps_code_Decode qs_code_Decode} {F_code_Hole : FT ps_code_Hole qs_code_Hole} {F_clevislaw03heads : FT ps_clevislaw03heads qs_clevislaw03heads} (fl : Nat) (x : PTs.D ps_clevislaw03CodeHoles) : call (Cw Tryd.prog [(9, mkS ps_code_Decode qs_code_Decode F_code_Decode), (13, mkS ps_code_Hole qs_code_Hole F_code_Hole), (12, mkS ps_clevislaw03heads qs_clevislaw03heads F_clevislaw03heads)] hintsF) fl 12 5 (encL false ps_clevislaw03CodeHoles x) [] getL = L_clevislaw03CodeHoles F_code_Decode F_code_Hole F_clevislaw03heads fl x := by
  kernel_rfl
theorem E_clevislaw03CodeHoles {F_code_Decode : FT ps_code_Decode qs_code_Decode} {F_code_Hole : FT ps_code_Hole qs_code_Hole} {F_clevislaw03heads : FT ps_clevislaw03heads qs_clevislaw03heads} (h_code_Decode : SpecOk Tryd.prog 9 (mkS ps_code_Decode qs_code_Decode F_code_Decode)) (h_code_Hole : SpecOk Tryd.prog 13 (mkS ps_code_Hole qs_code_Hole F_code_Hole)) (h_clevislaw03heads : SpecOk Tryd.prog 12 (mkS ps_clevislaw03heads qs_clevislaw03heads F_clevislaw03heads)) (x : PTs.D ps_clevislaw03CodeHoles) (fl : Nat) (hL : L_clevislaw03CodeHoles F_code_Decode F_code_Hole F_clevislaw03heads fl x = some ()) :
    ∃ (C : Cfg) (fl d : Nat), CfgOk C ∧ C.P = Tryd.prog ∧ call C fl d 5 (encL false ps_clevislaw03CodeHoles x) [] getL = some () :=
  ⟨_, fl, 12, (cfgOk_cons (cfgOk_cons (cfgOk_cons base h_clevislaw03heads) h_code_Hole) h_code_Decode), rfl, (Q_clevislaw03CodeHoles fl x).trans hL⟩
abbrev ps_code_within : List PT := [.one (.int .i64), .one (.int .i64)]
abbrev qs_code_within : List PT := [.one (.bool)]
noncomputable def N_code_within   : FT ps_code_within qs_code_within := fun R x k => match x with
  | (x0, x1) => 
      br (W.lt (W.wrap IntKind.i64 (W.sub x1 1)) 0) none
        (br (W.or2 (W.not (W.ge x0 (W.wrap IntKind.i64 (W.shl IntKind.i64 (-1) (W.wrap IntKind.i64 (W.sub x1 1)))))) (W.not (W.lt (W.wrap IntKind.i64 (W.sub x1 1)) 0)))
          (k (W.pick (W.ge x0 (W.wrap IntKind.i64 (W.shl IntKind.i64 (-1) (W.wrap IntKind.i64 (W.sub x1 1))))) (W.lt x0 (W.wrap IntKind.i64 (W.shl IntKind.i64 1 (W.wrap IntKind.i64 (W.sub x1 1))))) false))
          none)
theorem S_code_within   : SpecOk Tryd.prog 36 (mkS ps_code_within qs_code_within (N_code_within )) :=
  specOk_mk (fl := 10) (d := 12) base (by rintro R ⟨x0, x1⟩ k; kernel_rfl)
noncomputable def F_code_within : FT ps_code_within qs_code_within := N_code_within  
theorem ok_code_within : SpecOk Tryd.prog 36 (mkS ps_code_within qs_code_within F_code_within) := S_code_within 
abbrev ps_code_may : List PT := [.agg ((.prod (.int .i64) (.prod (.int .i64) (.prod (.int .i64) (.prod (.int .i64) (.prod (.int .i64) (.int .u64)))))))]
abbrev qs_code_may : List PT := [.one (.bool)]
noncomputable def N_code_may (F_code_within : FT ps_code_within qs_code_within)  : FT ps_code_may qs_code_may := fun R x k => match x with
  | (x0Op, x0Dst, x0Src, x0Off, x0Imm, x0Wide) => 
      br (W.pick (W.pick (W.pick (W.pick (W.pick (W.ge x0Op 0) (W.lt x0Op 256) false) (W.ge x0Dst 0) false) (W.lt x0Dst 16) false) (W.ge x0Src 0) false) (W.lt x0Src 16) false)
        (F_code_within R (x0Off, 16) fun y => br y (F_code_within R (x0Imm, 32) fun y => k y) (k false)) (k false)
theorem S_code_may {F_code_within : FT ps_code_within qs_code_within} (h_code_within : SpecOk Tryd.prog 36 (mkS ps_code_within qs_code_within F_code_within)) : SpecOk Tryd.prog 24 (mkS ps_code_may qs_code_may (N_code_may F_code_within)) :=
  specOk_mk (fl := 10) (d := 12) (cfgOk_cons base h_code_within) (by rintro R ⟨x0Op, x0Dst, x0Src, x0Off, x0Imm, x0Wide⟩ k; kernel_rfl)
noncomputable def F_code_may : FT ps_code_may qs_code_may := N_code_may F_code_within 
theorem ok_code_may : SpecOk Tryd.prog 24 (mkS ps_code_may qs_code_may F_code_may) := S_code_may ok_code_within
abbrev ps_word_Size : List PT := [.one (.int .i64)]
abbrev qs_word_Size : List PT := [.one (.bool)]
noncomputable def N_word_Size   : FT ps_word_Size qs_word_Size := fun R x k => match x with
  | x0 => 
      k (W.pick (W.pick (W.gt x0 0) (W.le x0 8) false) (W.eq (W.wrap IntKind.i64 (W.and IntKind.i64 x0 (W.wrap IntKind.i64 (W.sub x0 1)))) 0) false)
theorem S_word_Size   : SpecOk Tryd.prog 51 (mkS ps_word_Size qs_word_Size (N_word_Size )) :=
  specOk_mk (fl := 10) (d := 12) base (by intro R x0 k; kernel_rfl)
noncomputable def F_word_Size : FT ps_word_Size qs_word_Size := N_word_Size  
theorem ok_word_Size : SpecOk Tryd.prog 51 (mkS ps_word_Size qs_word_Size F_word_Size) := S_word_Size 
abbrev ps_word_Put : List PT := [.one (.int .u64), .one (.int .i64)]
abbrev qs_word_Put : List PT := [.one (.slice (.int .u8))]
noncomputable def PL_word_Put_5_0 (F_word_Size : FT ps_word_Size qs_word_Size) (fl : Nat)  (R : Type) (k : PTs.D qs_word_Put → Option R) : LoopI R :=
  locate (Cw Tryd.prog [(51, mkS ps_word_Size qs_word_Size F_word_Size)] hintsF) fl (call (Cw Tryd.prog [(51, mkS ps_word_Size qs_word_Size F_word_Size)] hintsF) fl 11) 0 37 5 [] (getR qs_word_Put k)
noncomputable def P_word_Put_5_0 (F_word_Size : FT ps_word_Size qs_word_Size) (fl : Nat)  (n : Nat) (R : Type) (y0 : Int) (y1 : Int) (y2 : Int) (y3 : List Int) (k : PTs.D qs_word_Put → Option R) : Option R :=
  loopH (PL_word_Put_5_0 F_word_Size fl  R k).body (PL_word_Put_5_0 F_word_Size fl  R k).head n (some (
      S.mk
        [V.int IntKind.u64 y0, V.int IntKind.i64 y1, V.any, V.any, V.any, V.parr 0 8 1, V.any, V.any, V.any, V.any, V.int IntKind.i64 y2, V.any, V.any, V.any, V.any, V.any, V.any, V.any, V.any, V.any,
          V.any, V.any, V.any, V.any]
        [] [Blk.row (Ty.int IntKind.u8) y3])) (PL_word_Put_5_0 F_word_Size fl  R k).kont
theorem P_word_Put_5_0_s {F_word_Size : FT ps_word_Size qs_word_Size} (fl : Nat)  (n : Nat) (R : Type) (y0 : Int) (y1 : Int) (y2 : Int) (y3 : List Int) (k : PTs.D qs_word_Put → Option R) : P_word_Put_5_0 F_word_Size fl  (n + 1) R y0 y1 y2 y3 k =
      br (W.lt y2 8)
        (br (W.lt (W.wrap IntKind.i64 (W.mul 8 y2)) 0) none
          (br (W.and2 (W.le 0 y2) (W.lt y2 8))
            (P_word_Put_5_0 F_word_Size fl n R y0 y1 (W.wrap IntKind.i64 (W.add y2 1)) (W.set y3 (W.toNat y2) (W.wrap IntKind.u8 (W.shr IntKind.u64 y0 (W.wrap IntKind.i64 (W.mul 8 y2))))) k) none))
        (br (W.and2 (W.le 0 y1) (W.and2 (W.le y1 y1) (W.le y1 8))) (k (W.slice y3 0 (W.toNat y1))) none) := by kernel_rfl
noncomputable def N_word_Put (F_word_Size : FT ps_word_Size qs_word_Size) (fl : Nat) : FT ps_word_Put qs_word_Put := fun R x k => match x with
  | (x0, x1) => 
      F_word_Size R x1 fun y => br (W.not y) (k []) (P_word_Put_5_0 F_word_Size fl fl R x0 x1 0 [0, 0, 0, 0, 0, 0, 0, 0] k)
theorem Q_word_Put {F_word_Size : FT ps_word_Size qs_word_Size} (fl : Nat) (R : Type) (x : PTs.D ps_word_Put) (k : PTs.D qs_word_Put → Option R) : call (Cw Tryd.prog [(51, mkS ps_word_Size qs_word_Size F_word_Size)] hintsF) fl 12 37 (encL true ps_word_Put x) [] (getR qs_word_Put k) = N_word_Put F_word_Size fl R x k := by
  obtain ⟨x0, x1⟩ := x; kernel_rfl
theorem S_word_Put {F_word_Size : FT ps_word_Size qs_word_Size} (h_word_Size : SpecOk Tryd.prog 51 (mkS ps_word_Size qs_word_Size F_word_Size)) : SpecOk Tryd.prog 37 (mkS ps_word_Put qs_word_Put (N_word_Put F_word_Size W.big)) :=
  specOk_mk (fl := W.big) (d := 12) (cfgOk_cons base h_word_Size) (fun R x k => Q_word_Put W.big R x k)
noncomputable def F_word_Put : FT ps_word_Put qs_word_Put := N_word_Put F_word_Size W.big
theorem ok_word_Put : SpecOk Tryd.prog 37 (mkS ps_word_Put qs_word_Put F_word_Put) := S_word_Put ok_word_Size
abbrev ps_code_write : List PT := [.agg ((.prod (.int .i64) (.prod (.int .i64) (.prod (.int .i64) (.prod (.int .i64) (.prod (.int .i64) (.int .u64)))))))]
abbrev qs_code_write : List PT := [.one (.slice (.int .u8))]
noncomputable def N_code_write (F_word_Put : FT ps_word_Put qs_word_Put)  : FT ps_code_write qs_code_write := fun R x k => match x with
  | (x0Op, x0Dst, x0Src, x0Off, x0Imm, x0Wide) => 
      F_word_Put R (W.wrap IntKind.u64 x0Off, 2) fun y =>
        br (W.leN (W.mulN (W.addN 2 (W.len y)) 1) 140737488355328)
          (F_word_Put R (W.wrap IntKind.u64 x0Imm, 4) fun y_1 =>
            br (W.leN (W.mulN (W.addN (W.addN 2 (W.len y)) (W.len y_1)) 1) 140737488355328)
              (k (W.app (W.app [W.wrap IntKind.u8 x0Op, W.wrap IntKind.u8 (W.wrap IntKind.i64 (W.or IntKind.i64 (W.wrap IntKind.i64 (W.shl IntKind.i64 x0Src 4)) x0Dst))] y) y_1)) none)
          none
theorem S_code_write {F_word_Put : FT ps_word_Put qs_word_Put} (h_word_Put : SpecOk Tryd.prog 37 (mkS ps_word_Put qs_word_Put F_word_Put)) : SpecOk Tryd.prog 25 (mkS ps_code_write qs_code_write (N_code_write F_word_Put)) :=
  specOk_mk (fl := 10) (d := 12) (cfgOk_cons base h_word_Put) (by rintro R ⟨x0Op, x0Dst, x0Src, x0Off, x0Imm, x0Wide⟩ k; kernel_rfl)
noncomputable def F_code_write : FT ps_code_write qs_code_write := N_code_write F_word_Put 
theorem ok_code_write : SpecOk Tryd.prog 25 (mkS ps_code_write qs_code_write F_code_write) := S_code_write ok_word_Put
abbrev ps_code_Encode : List PT := [.one (.slice ((.prod (.int .i64) (.prod (.int .i64) (.prod (.int .i64) (.prod (.int .i64) (.prod (.int .i64) (.int .u64))))))))]
abbrev qs_code_Encode : List PT := [.one (.slice (.int .u8)), .one (.int .i64)]
noncomputable def PL_code_Encode_4_0 (F_code_may : FT ps_code_may qs_code_may) (F_code_write : FT ps_code_write qs_code_write) (fl : Nat)  (R : Type) (k : PTs.D qs_code_Encode → Option R) : LoopI R :=
  locate (Cw Tryd.prog [(24, mkS ps_code_may qs_code_may F_code_may), (25, mkS ps_code_write qs_code_write F_code_write)] hintsF) fl (call (Cw Tryd.prog [(24, mkS ps_code_may qs_code_may F_code_may), (25, mkS ps_code_write qs_code_write F_code_write)] hintsF) fl 11) 0 14 4 [] (getR qs_code_Encode k)
noncomputable def P_code_Encode_4_0 (F_code_may : FT ps_code_may qs_code_may) (F_code_write : FT ps_code_write qs_code_write) (fl : Nat)  (n : Nat) (R : Type) (y0 : List (Int × Int × Int × Int × Int × Int)) (y1 : Nat) (y2 : List Int) (k : PTs.D qs_code_Encode → Option R) : Option R :=
  loopH (PL_code_Encode_4_0 F_code_may F_code_write fl  R k).body (PL_code_Encode_4_0 F_code_may F_code_write fl  R k).head n (some (
      S.mk
        [V.ro true (Ty.prod (Ty.int IntKind.i64) (Ty.prod (Ty.int IntKind.i64) (Ty.prod (Ty.int IntKind.i64) (Ty.prod (Ty.int IntKind.i64) (Ty.prod (Ty.int IntKind.i64) (Ty.int IntKind.u64)))))) y0, V.any,
          V.any, V.any, V.sl 0 1 y1, V.any, V.any, V.any, V.any, V.any, V.any, V.any, V.any, V.any, V.any, V.any, V.any, V.any, V.any, V.any, V.any, V.any, V.any, V.any, V.any, V.any, V.any, V.any, V.any,
          V.any, V.any, V.any, V.any, V.any, V.any, V.any, V.any, V.any, V.any, V.any, V.any, V.any, V.any, V.any, V.any, V.any, V.any, V.any, V.any, V.any, V.any, V.any, V.any, V.any, V.any, V.any, V.any,
          V.any, V.any, V.any, V.any, V.any, V.any, V.any, V.any, V.any, V.any, V.any, V.any, V.any, V.any, V.any, V.any, V.any, V.any, V.any, V.any, V.any]
        [] [Blk.row (Ty.int IntKind.u8) y2])) (PL_code_Encode_4_0 F_code_may F_code_write fl  R k).kont
theorem P_code_Encode_4_0_s {F_code_may : FT ps_code_may qs_code_may} {F_code_write : FT ps_code_write qs_code_write} (fl : Nat)  (n : Nat) (R : Type) (y0 : List (Int × Int × Int × Int × Int × Int)) (y1 : Nat) (y2 : List Int) (k : PTs.D qs_code_Encode → Option R) : P_code_Encode_4_0 F_code_may F_code_write fl  (n + 1) R y0 y1 y2 k =
      br (W.gt (W.ofNat (W.len y0)) 0)
        (br (W.lt 0 (W.ofNat (W.len y0)))
          (br (W.le 1 (W.ofNat (W.len y0)))
            (F_code_may R
              ((W.get y0 0 (0, 0, 0, 0, 0, 0)).1, (W.get y0 0 (0, 0, 0, 0, 0, 0)).2.1, (W.get y0 0 (0, 0, 0, 0, 0, 0)).2.2.1, (W.get y0 0 (0, 0, 0, 0, 0, 0)).2.2.2.1,
                (W.get y0 0 (0, 0, 0, 0, 0, 0)).2.2.2.2.1, (W.get y0 0 (0, 0, 0, 0, 0, 0)).2.2.2.2.2)
              fun y =>
              br
                (W.or2
                  (W.not
                    (W.and2
                      (W.and2 (W.not (W.pick (W.not y) true (W.pick (W.not (W.eq (W.get y0 0 (0, 0, 0, 0, 0, 0)).1 24)) (W.ne (W.get y0 0 (0, 0, 0, 0, 0, 0)).2.2.2.2.2 0) false)))
                        (W.eq (W.get y0 0 (0, 0, 0, 0, 0, 0)).1 24))
                      (W.not (W.eq (W.ofNat (W.len (W.slice y0 1 (W.subN (W.len y0) 1)))) 0))))
                  (W.lt 0 (W.ofNat (W.len (W.slice y0 1 (W.subN (W.len y0) 1))))))
                (br
                  (W.pick (W.pick (W.not y) true (W.pick (W.not (W.eq (W.get y0 0 (0, 0, 0, 0, 0, 0)).1 24)) (W.ne (W.get y0 0 (0, 0, 0, 0, 0, 0)).2.2.2.2.2 0) false)) true
                    (W.pick (W.eq (W.get y0 0 (0, 0, 0, 0, 0, 0)).1 24)
                      (W.pick
                        (W.pick (W.eq (W.ofNat (W.len (W.slice y0 1 (W.subN (W.len y0) 1)))) 0) true
                          (W.not
                            (W.and2 (W.eq (W.get (W.slice y0 1 (W.subN (W.len y0) 1)) 0 (0, 0, 0, 0, 0, 0)).1 0)
                              (W.and2 (W.eq (W.get (W.slice y0 1 (W.subN (W.len y0) 1)) 0 (0, 0, 0, 0, 0, 0)).2.1 0)
                                (W.and2 (W.eq (W.get (W.slice y0 1 (W.subN (W.len y0) 1)) 0 (0, 0, 0, 0, 0, 0)).2.2.1 0)
                                  (W.and2 (W.eq (W.get (W.slice y0 1 (W.subN (W.len y0) 1)) 0 (0, 0, 0, 0, 0, 0)).2.2.2.1 0)
                                    (W.and2 (W.eq (W.get (W.slice y0 1 (W.subN (W.len y0) 1)) 0 (0, 0, 0, 0, 0, 0)).2.2.2.2.1 0)
                                      (W.and2 (W.eq (W.get (W.slice y0 1 (W.subN (W.len y0) 1)) 0 (0, 0, 0, 0, 0, 0)).2.2.2.2.2 0) true))))))))
                        true (W.ne (W.wrap IntKind.u32 (W.get y0 0 (0, 0, 0, 0, 0, 0)).2.2.2.2.2) (W.wrap IntKind.u32 (W.get y0 0 (0, 0, 0, 0, 0, 0)).2.2.2.2.1)))
                      false))
                  (k ([], 2))
                  (F_code_write R
                    ((W.get y0 0 (0, 0, 0, 0, 0, 0)).1, (W.get y0 0 (0, 0, 0, 0, 0, 0)).2.1, (W.get y0 0 (0, 0, 0, 0, 0, 0)).2.2.1, (W.get y0 0 (0, 0, 0, 0, 0, 0)).2.2.2.1,
                      (W.get y0 0 (0, 0, 0, 0, 0, 0)).2.2.2.2.1, (W.get y0 0 (0, 0, 0, 0, 0, 0)).2.2.2.2.2)
                    fun y =>
                    br (W.leN (W.mulN (W.addN y1 (W.len y)) 1) 140737488355328)
                      (br (W.eq (W.get y0 0 (0, 0, 0, 0, 0, 0)).1 24)
                        (F_code_write R (0, 0, 0, 0, W.wrap IntKind.i64 (W.shr IntKind.u64 (W.get y0 0 (0, 0, 0, 0, 0, 0)).2.2.2.2.2 32), 0) fun y_1 =>
                          br (W.leN (W.mulN (W.addN (W.addN y1 (W.len y)) (W.len y_1)) 1) 140737488355328)
                            (br (W.le 1 (W.ofNat (W.len (W.slice y0 1 (W.subN (W.len y0) 1)))))
                              (P_code_Encode_4_0 F_code_may F_code_write fl n R (W.slice (W.slice y0 1 (W.subN (W.len y0) 1)) 1 (W.subN (W.len (W.slice y0 1 (W.subN (W.len y0) 1))) 1))
                                (W.addN (W.addN y1 (W.len y)) (W.len y_1)) (W.app (W.app y2 y) y_1) k)
                              none)
                            none)
                        (P_code_Encode_4_0 F_code_may F_code_write fl n R (W.slice y0 1 (W.subN (W.len y0) 1)) (W.addN y1 (W.len y)) (W.app y2 y) k))
                      none))
                none)
            none)
          none)
        (k (y2, 0)) := by kernel_rfl
noncomputable def N_code_Encode (F_code_may : FT ps_code_may qs_code_may) (F_code_write : FT ps_code_write qs_code_write) (fl : Nat) : FT ps_code_Encode qs_code_Encode := fun R x k => match x with
  | x0 => 
      br (W.pick (W.eq (W.ofNat (W.len x0)) 0) true (W.gt (W.ofNat (W.len x0)) 4096)) (k ([], 2)) (P_code_Encode_4_0 F_code_may F_code_write fl fl R x0 0 [] k)
theorem Q_code_Encode {F_code_may : FT ps_code_may qs_code_may} {F_code_write : FT ps_code_write qs_code_write} (fl : Nat) (R : Type) (x : PTs.D ps_code_Encode) (k : PTs.D qs_code_Encode → Option R) : call (Cw Tryd.prog [(24, mkS ps_code_may qs_code_may F_code_may), (25, mkS ps_code_write qs_code_write F_code_write)] hintsF) fl 12 14 (encL true ps_code_Encode x) [] (getR qs_code_Encode k) = N_code_Encode F_code_may F_code_write fl R x k := by
  kernel_rfl
theorem S_code_Encode {F_code_may : FT ps_code_may qs_code_may} {F_code_write : FT ps_code_write qs_code_write} (h_code_may : SpecOk Tryd.prog 24 (mkS ps_code_may qs_code_may F_code_may)) (h_code_write : SpecOk Tryd.prog 25 (mkS ps_code_write qs_code_write F_code_write)) : SpecOk Tryd.prog 14 (mkS ps_code_Encode qs_code_Encode (N_code_Encode F_code_may F_code_write W.big)) :=
  specOk_mk (fl := W.big) (d := 12) (cfgOk_cons (cfgOk_cons base h_code_write) h_code_may) (fun R x k => Q_code_Encode W.big R x k)
noncomputable def F_code_Encode : FT ps_code_Encode qs_code_Encode := N_code_Encode F_code_may F_code_write W.big
theorem ok_code_Encode : SpecOk Tryd.prog 14 (mkS ps_code_Encode qs_code_Encode F_code_Encode) := S_code_Encode ok_code_may ok_code_write
abbrev ps_clevisref03within : List PT := [.one (.int .i64), .one (.int .i64), .one (.int .i64)]
abbrev qs_clevisref03within : List PT := [.one (.bool)]
noncomputable def N_clevisref03within   : FT ps_clevisref03within qs_clevisref03within := fun R x k => match x with
  | (x0, x1, x2) => 
      k (W.pick (W.ge x0 x1) (W.le x0 x2) false)
theorem S_clevisref03within   : SpecOk Tryd.prog 26 (mkS ps_clevisref03within qs_clevisref03within (N_clevisref03within )) :=
  specOk_mk (fl := 10) (d := 12) base (by rintro R ⟨x0, x1, x2⟩ k; kernel_rfl)
noncomputable def F_clevisref03within : FT ps_clevisref03within qs_clevisref03within := N_clevisref03within  
theorem ok_clevisref03within : SpecOk Tryd.prog 26 (mkS ps_clevisref03within qs_clevisref03within F_clevisref03within) := S_clevisref03within 
abbrev ps_clevisref01Put : List PT := [.one (.int .u64), .one (.int .i64)]
abbrev qs_clevisref01Put : List PT := [.one (.slice (.int .u8))]
noncomputable def PL_clevisref01Put_3_0 (F_clevisref01Size : FT ps_clevisref01Size qs_clevisref01Size) (fl : Nat)  (R : Type) (k : PTs.D qs_clevisref01Put → Option R) : LoopI R :=
  locate (Cw Tryd.prog [(50, mkS ps_clevisref01Size qs_clevisref01Size F_clevisref01Size)] hintsF) fl (call (Cw Tryd.prog [(50, mkS ps_clevisref01Size qs_clevisref01Size F_clevisref01Size)] hintsF) fl 11) 0 38 3 [] (getR qs_clevisref01Put k)
noncomputable def P_clevisref01Put_3_0 (F_clevisref01Size : FT ps_clevisref01Size qs_clevisref01Size) (fl : Nat)  (n : Nat) (R : Type) (y0 : Int) (y1 : Int) (y2 : Nat) (y3 : Int) (y4 : List Int) (k : PTs.D qs_clevisref01Put → Option R) : Option R :=
  loopH (PL_clevisref01Put_3_0 F_clevisref01Size fl  R k).body (PL_clevisref01Put_3_0 F_clevisref01Size fl  R k).head n (some (
      S.mk
        [V.int IntKind.u64 y0, V.int IntKind.i64 y1, V.any, V.any, V.any, V.sl 0 1 y2, V.int IntKind.i64 y3, V.any, V.any, V.any, V.any, V.any, V.any, V.any, V.any, V.any, V.any, V.any, V.any, V.any, V.any,
          V.any, V.any, V.any, V.any, V.any]
        [] [Blk.row (Ty.int IntKind.u8) y4])) (PL_clevisref01Put_3_0 F_clevisref01Size fl  R k).kont
theorem P_clevisref01Put_3_0_s {F_clevisref01Size : FT ps_clevisref01Size qs_clevisref01Size} (fl : Nat)  (n : Nat) (R : Type) (y0 : Int) (y1 : Int) (y2 : Nat) (y3 : Int) (y4 : List Int) (k : PTs.D qs_clevisref01Put → Option R) : P_clevisref01Put_3_0 F_clevisref01Size fl  (n + 1) R y0 y1 y2 y3 y4 k =
      br (W.lt y3 y1)
        (F_clevisref01Size R y1 fun y =>
          br y
            (br (W.leN (W.mulN (W.addN y2 1) 1) 140737488355328)
              (P_clevisref01Put_3_0 F_clevisref01Size fl n R y0 y1 (W.addN y2 1) (W.wrap IntKind.i64 (W.add y3 1))
                (W.app y4 [W.wrap IntKind.u8 (W.shr IntKind.u64 y0 (W.wrap IntKind.u64 (W.wrap IntKind.i64 (W.mul 8 y3))))]) k)
              none)
            (k y4))
        (k y4) := by kernel_rfl
noncomputable def N_clevisref01Put (F_clevisref01Size : FT ps_clevisref01Size qs_clevisref01Size) (fl : Nat) : FT ps_clevisref01Put qs_clevisref01Put := fun R x k => match x with
  | (x0, x1) => 
      P_clevisref01Put_3_0 F_clevisref01Size fl fl R x0 x1 0 0 [] k
theorem Q_clevisref01Put {F_clevisref01Size : FT ps_clevisref01Size qs_clevisref01Size} (fl : Nat) (R : Type) (x : PTs.D ps_clevisref01Put) (k : PTs.D qs_clevisref01Put → Option R) : call (Cw Tryd.prog [(50, mkS ps_clevisref01Size qs_clevisref01Size F_clevisref01Size)] hintsF) fl 12 38 (encL true ps_clevisref01Put x) [] (getR qs_clevisref01Put k) = N_clevisref01Put F_clevisref01Size fl R x k := by
  obtain ⟨x0, x1⟩ := x; kernel_rfl
theorem S_clevisref01Put {F_clevisref01Size : FT ps_clevisref01Size qs_clevisref01Size} (h_clevisref01Size : SpecOk Tryd.prog 50 (mkS ps_clevisref01Size qs_clevisref01Size F_clevisref01Size)) : SpecOk Tryd.prog 38 (mkS ps_clevisref01Put qs_clevisref01Put (N_clevisref01Put F_clevisref01Size W.big)) :=
  specOk_mk (fl := W.big) (d := 12) (cfgOk_cons base h_clevisref01Size) (fun R x k => Q_clevisref01Put W.big R x k)
noncomputable def F_clevisref01Put : FT ps_clevisref01Put qs_clevisref01Put := N_clevisref01Put F_clevisref01Size W.big
theorem ok_clevisref01Put : SpecOk Tryd.prog 38 (mkS ps_clevisref01Put qs_clevisref01Put F_clevisref01Put) := S_clevisref01Put ok_clevisref01Size
abbrev ps_clevisref03bytes : List PT := [.agg ((.prod (.int .i64) (.prod (.int .i64) (.prod (.int .i64) (.prod (.int .i64) (.prod (.int .i64) (.int .u64)))))))]
abbrev qs_clevisref03bytes : List PT := [.one (.slice (.int .u8))]
noncomputable def N_clevisref03bytes (F_clevisref01Put : FT ps_clevisref01Put qs_clevisref01Put)  : FT ps_clevisref03bytes qs_clevisref03bytes := fun R x k => match x with
  | (x0Op, x0Dst, x0Src, x0Off, x0Imm, x0Wide) => 
      F_clevisref01Put R (W.wrap IntKind.u64 x0Off, 2) fun y =>
        br (W.leN (W.mulN (W.addN 2 (W.len y)) 1) 140737488355328)
          (F_clevisref01Put R (W.wrap IntKind.u64 x0Imm, 4) fun y_1 =>
            br (W.leN (W.mulN (W.addN (W.addN 2 (W.len y)) (W.len y_1)) 1) 140737488355328)
              (k (W.app (W.app [W.wrap IntKind.u8 x0Op, W.wrap IntKind.u8 (W.wrap IntKind.i64 (W.add x0Dst (W.wrap IntKind.i64 (W.mul 16 x0Src))))] y) y_1)) none)
          none
theorem S_clevisref03bytes {F_clevisref01Put : FT ps_clevisref01Put qs_clevisref01Put} (h_clevisref01Put : SpecOk Tryd.prog 38 (mkS ps_clevisref01Put qs_clevisref01Put F_clevisref01Put)) : SpecOk Tryd.prog 27 (mkS ps_clevisref03bytes qs_clevisref03bytes (N_clevisref03bytes F_clevisref01Put)) :=
  specOk_mk (fl := 10) (d := 12) (cfgOk_cons base h_clevisref01Put) (by rintro R ⟨x0Op, x0Dst, x0Src, x0Off, x0Imm, x0Wide⟩ k; kernel_rfl)
noncomputable def F_clevisref03bytes : FT ps_clevisref03bytes qs_clevisref03bytes := N_clevisref03bytes F_clevisref01Put 
theorem ok_clevisref03bytes : SpecOk Tryd.prog 27 (mkS ps_clevisref03bytes qs_clevisref03bytes F_clevisref03bytes) := S_clevisref03bytes ok_clevisref01Put
abbrev ps_clevisref03Encode : List PT := [.one (.slice ((.prod (.int .i64) (.prod (.int .i64) (.prod (.int .i64) (.prod (.int .i64) (.prod (.int .i64) (.int .u64))))))))]
abbrev qs_clevisref03Encode : List PT := [.one (.slice (.int .u8)), .one (.int .i64)]
noncomputable def PL_clevisref03Encode_5_0 (F_clevisref01Imm : FT ps_clevisref01Imm qs_clevisref01Imm) (F_clevisref03within : FT ps_clevisref03within qs_clevisref03within) (F_clevisref03bytes : FT ps_clevisref03bytes qs_clevisref03bytes) (fl : Nat)  (R : Type) (k : PTs.D qs_clevisref03Encode → Option R) : LoopI R :=
  locate (Cw Tryd.prog [(23, mkS ps_clevisref01Imm qs_clevisref01Imm F_clevisref01Imm), (26, mkS ps_clevisref03within qs_clevisref03within F_clevisref03within), (27, mkS ps_clevisref03bytes qs_clevisref03bytes F_clevisref03bytes)] hintsF) fl (call (Cw Tryd.prog [(23, mkS ps_clevisref01Imm qs_clevisref01Imm F_clevisref01Imm), (26, mkS ps_clevisref03within qs_clevisref03within F_clevisref03within), (27, mkS ps_clevisref03bytes qs_clevisref03bytes F_clevisref03bytes)] hintsF) fl 11) 0 15 5 [] (getR qs_clevisref03Encode k)
noncomputable def P_clevisref03Encode_5_0 (F_clevisref01Imm : FT ps_clevisref01Imm qs_clevisref01Imm) (F_clevisref03within : FT ps_clevisref03within qs_clevisref03within) (F_clevisref03bytes : FT ps_clevisref03bytes qs_clevisref03bytes) (fl : Nat)  (n : Nat) (R : Type) (y0 : List (Int × Int × Int × Int × Int × Int)) (y1 : Nat) (y2 : Int) (y3 : List Int) (k : PTs.D qs_clevisref03Encode → Option R) : Option R :=
  loopH (PL_clevisref03Encode_5_0 F_clevisref01Imm F_clevisref03within F_clevisref03bytes fl  R k).body (PL_clevisref03Encode_5_0 F_clevisref01Imm F_clevisref03within F_clevisref03bytes fl  R k).head n (some (
      S.mk
        [V.ro true (Ty.prod (Ty.int IntKind.i64) (Ty.prod (Ty.int IntKind.i64) (Ty.prod (Ty.int IntKind.i64) (Ty.prod (Ty.int IntKind.i64) (Ty.prod (Ty.int IntKind.i64) (Ty.int IntKind.u64)))))) y0, V.any,
          V.any, V.any, V.sl 0 1 y1, V.int IntKind.i64 y2, V.any, V.any, V.any, V.any, V.any, V.any, V.any, V.any, V.any, V.any, V.any, V.any, V.any, V.any, V.any, V.any, V.any, V.any, V.any, V.any, V.any,
          V.any, V.any, V.any, V.any, V.any, V.any, V.any, V.any, V.any, V.any, V.any, V.any, V.any, V.any, V.any, V.any, V.any, V.any, V.any, V.any, V.any, V.any, V.any, V.any, V.any, V.any, V.any, V.any,
          V.any, V.any, V.any, V.any, V.any, V.any, V.any, V.any, V.any, V.any, V.any, V.any, V.any, V.any, V.any, V.any, V.any, V.any, V.any, V.any, V.any, V.any, V.any, V.any, V.any, V.any, V.any, V.any,
          V.any, V.any, V.any, V.any, V.any, V.any, V.any, V.any, V.any, V.any, V.any, V.any, V.any, V.any]
        [] [Blk.row (Ty.int IntKind.u8) y3])) (PL_clevisref03Encode_5_0 F_clevisref01Imm F_clevisref03within F_clevisref03bytes fl  R k).kont
theorem P_clevisref03Encode_5_0_s {F_clevisref01Imm : FT ps_clevisref01Imm qs_clevisref01Imm} {F_clevisref03within : FT ps_clevisref03within qs_clevisref03within} {F_clevisref03bytes : FT ps_clevisref03bytes qs_clevisref03bytes} (fl : Nat)  (n : Nat) (R : Type) (y0 : List (Int × Int × Int × Int × Int × Int)) (y1 : Nat) (y2 : Int) (y3 : List Int) (k : PTs.D qs_clevisref03Encode → Option R) : P_clevisref03Encode_5_0 F_clevisref01Imm F_clevisref03within F_clevisref03bytes fl  (n + 1) R y0 y1 y2 y3 k =
      br (W.lt y2 (W.ofNat (W.len y0)))
        (br (W.and2 (W.le 0 y2) (W.lt y2 (W.ofNat (W.len y0))))
          (F_clevisref03within R ((W.get y0 (W.toNat y2) (0, 0, 0, 0, 0, 0)).1, 0, 255) fun y =>
            br (W.not (W.not y))
              (F_clevisref03within R ((W.get y0 (W.toNat y2) (0, 0, 0, 0, 0, 0)).2.1, 0, 15) fun y =>
                br (W.not (W.not y))
                  (F_clevisref03within R ((W.get y0 (W.toNat y2) (0, 0, 0, 0, 0, 0)).2.2.1, 0, 15) fun y =>
                    br (W.not (W.not y))
                      (F_clevisref03within R ((W.get y0 (W.toNat y2) (0, 0, 0, 0, 0, 0)).2.2.2.1, -32768, 32767) fun y =>
                        br (W.not (W.not y))
                          (F_clevisref03within R ((W.get y0 (W.toNat y2) (0, 0, 0, 0, 0, 0)).2.2.2.2.1, -2147483648, 2147483647) fun y =>
                            br (W.not y) (k ([], 2))
                              (F_clevisref03bytes R
                                ((W.get y0 (W.toNat y2) (0, 0, 0, 0, 0, 0)).1, (W.get y0 (W.toNat y2) (0, 0, 0, 0, 0, 0)).2.1, (W.get y0 (W.toNat y2) (0, 0, 0, 0, 0, 0)).2.2.1,
                                  (W.get y0 (W.toNat y2) (0, 0, 0, 0, 0, 0)).2.2.2.1, (W.get y0 (W.toNat y2) (0, 0, 0, 0, 0, 0)).2.2.2.2.1, (W.get y0 (W.toNat y2) (0, 0, 0, 0, 0, 0)).2.2.2.2.2)
                                fun y =>
                                br (W.leN (W.mulN (W.addN y1 (W.len y)) 1) 140737488355328)
                                  (br (W.ne (W.get y0 (W.toNat y2) (0, 0, 0, 0, 0, 0)).1 24)
                                    (br (W.ne (W.get y0 (W.toNat y2) (0, 0, 0, 0, 0, 0)).2.2.2.2.2 0) (k ([], 2))
                                      (P_clevisref03Encode_5_0 F_clevisref01Imm F_clevisref03within F_clevisref03bytes fl n R y0 (W.addN y1 (W.len y)) (W.wrap IntKind.i64 (W.add y2 1)) (W.app y3 y) k))
                                    (F_clevisref01Imm R ((W.get y0 (W.toNat y2) (0, 0, 0, 0, 0, 0)).2.2.2.2.1, false) fun y_1 =>
                                      br
                                        (W.or2
                                          (W.not
                                            (W.not
                                              (W.pick (W.ne y_1 (W.rem (W.get y0 (W.toNat y2) (0, 0, 0, 0, 0, 0)).2.2.2.2.2 4294967296)) true (W.ge (W.wrap IntKind.i64 (W.add y2 1)) (W.ofNat (W.len y0))))))
                                          (W.and2 (W.le 0 (W.wrap IntKind.i64 (W.add y2 1))) (W.lt (W.wrap IntKind.i64 (W.add y2 1)) (W.ofNat (W.len y0)))))
                                        (br
                                          (W.pick
                                            (W.pick (W.ne y_1 (W.rem (W.get y0 (W.toNat y2) (0, 0, 0, 0, 0, 0)).2.2.2.2.2 4294967296)) true (W.ge (W.wrap IntKind.i64 (W.add y2 1)) (W.ofNat (W.len y0))))
                                            true
                                            (W.not
                                              (W.and2 (W.eq (W.get y0 (W.toNat (W.wrap IntKind.i64 (W.add y2 1))) (0, 0, 0, 0, 0, 0)).1 0)
                                                (W.and2 (W.eq (W.get y0 (W.toNat (W.wrap IntKind.i64 (W.add y2 1))) (0, 0, 0, 0, 0, 0)).2.1 0)
                                                  (W.and2 (W.eq (W.get y0 (W.toNat (W.wrap IntKind.i64 (W.add y2 1))) (0, 0, 0, 0, 0, 0)).2.2.1 0)
                                                    (W.and2 (W.eq (W.get y0 (W.toNat (W.wrap IntKind.i64 (W.add y2 1))) (0, 0, 0, 0, 0, 0)).2.2.2.1 0)
                                                      (W.and2 (W.eq (W.get y0 (W.toNat (W.wrap IntKind.i64 (W.add y2 1))) (0, 0, 0, 0, 0, 0)).2.2.2.2.1 0)
                                                        (W.and2 (W.eq (W.get y0 (W.toNat (W.wrap IntKind.i64 (W.add y2 1))) (0, 0, 0, 0, 0, 0)).2.2.2.2.2 0) true))))))))
                                          (k ([], 2))
                                          (F_clevisref03bytes R (0, 0, 0, 0, W.wrap IntKind.i64 (W.wrap IntKind.u64 (W.quo (W.get y0 (W.toNat y2) (0, 0, 0, 0, 0, 0)).2.2.2.2.2 4294967296)), 0) fun y_2 =>
                                            br (W.leN (W.mulN (W.addN (W.addN y1 (W.len y)) (W.len y_2)) 1) 140737488355328)
                                              (P_clevisref03Encode_5_0 F_clevisref01Imm F_clevisref03within F_clevisref03bytes fl n R y0 (W.addN (W.addN y1 (W.len y)) (W.len y_2))
                                                (W.wrap IntKind.i64 (W.add (W.wrap IntKind.i64 (W.add y2 1)) 1)) (W.app (W.app y3 y) y_2) k)
                                              none))
                                        none))
                                  none))
                          (k ([], 2)))
                      (k ([], 2)))
                  (k ([], 2)))
              (k ([], 2)))
          none)
        (k (y3, 0)) := by kernel_rfl
noncomputable def N_clevisref03Encode (F_clevisref01Imm : FT ps_clevisref01Imm qs_clevisref01Imm) (F_clevisref03within : FT ps_clevisref03within qs_clevisref03within) (F_clevisref03bytes : FT ps_clevisref03bytes qs_clevisref03bytes) (fl : Nat) : FT ps_clevisref03Encode qs_clevisref03Encode := fun R x k => match x with
  | x0 => 
      br (W.pick (W.lt (W.ofNat (W.len x0)) 1) true (W.gt (W.ofNat (W.len x0)) 4096)) (k ([], 2)) (P_clevisref03Encode_5_0 F_clevisref01Imm F_clevisref03within F_clevisref03bytes fl fl R x0 0 0 [] k)
theorem Q_clevisref03Encode {F_clevisref01Imm : FT ps_clevisref01Imm qs_clevisref01Imm} {F_clevisref03within : FT ps_clevisref03within qs_clevisref03within} {F_clevisref03bytes : FT ps_clevisref03bytes qs_clevisref03bytes} (fl : Nat) (R : Type) (x : PTs.D ps_clevisref03Encode) (k : PTs.D qs_clevisref03Encode → Option R) : call (Cw Tryd.prog [(23, mkS ps_clevisref01Imm qs_clevisref01Imm F_clevisref01Imm), (26, mkS ps_clevisref03within qs_clevisref03within F_clevisref03within), (27, mkS ps_clevisref03bytes qs_clevisref03bytes F_clevisref03bytes)] hintsF) fl 12 15 (encL true ps_clevisref03Encode x) [] (getR qs_clevisref03Encode k) = N_clevisref03Encode F_clevisref01Imm F_clevisref03within F_clevisref03bytes fl R x k := by
  kernel_rfl
theorem S_clevisref03Encode {F_clevisref01Imm : FT ps_clevisref01Imm qs_clevisref01Imm} {F_clevisref03within : FT ps_clevisref03within qs_clevisref03within} {F_clevisref03bytes : FT ps_clevisref03bytes qs_clevisref03bytes} (h_clevisref01Imm : SpecOk Tryd.prog 23 (mkS ps_clevisref01Imm qs_clevisref01Imm F_clevisref01Imm)) (h_clevisref03within : SpecOk Tryd.prog 26 (mkS ps_clevisref03within qs_clevisref03within F_clevisref03within)) (h_clevisref03bytes : SpecOk Tryd.prog 27 (mkS ps_clevisref03bytes qs_clevisref03bytes F_clevisref03bytes)) : SpecOk Tryd.prog 15 (mkS ps_clevisref03Encode qs_clevisref03Encode (N_clevisref03Encode F_clevisref01Imm F_clevisref03within F_clevisref03bytes W.big)) :=
  specOk_mk (fl := W.big) (d := 12) (cfgOk_cons (cfgOk_cons (cfgOk_cons base h_clevisref03bytes) h_clevisref03within) h_clevisref01Imm) (fun R x k => Q_clevisref03Encode W.big R x k)
noncomputable def F_clevisref03Encode : FT ps_clevisref03Encode qs_clevisref03Encode := N_clevisref03Encode F_clevisref01Imm F_clevisref03within F_clevisref03bytes W.big
theorem ok_clevisref03Encode : SpecOk Tryd.prog 15 (mkS ps_clevisref03Encode qs_clevisref03Encode F_clevisref03Encode) := S_clevisref03Encode ok_clevisref01Imm ok_clevisref03within ok_clevisref03bytes
abbrev ps_clevisref01Same : List PT := [.one (.slice (.int .u8)), .one (.slice (.int .u8))]
abbrev qs_clevisref01Same : List PT := [.one (.bool)]
noncomputable def N_clevisref01Same   : FT ps_clevisref01Same qs_clevisref01Same := fun R x k => match x with
  | (x0, x1) => 
      br (W.leN (W.len x0) 140737488355328) (br (W.leN (W.len x1) 140737488355328) (k (W.eqS (W.bytes x0) (W.bytes x1))) none) none
theorem S_clevisref01Same   : SpecOk Tryd.prog 16 (mkS ps_clevisref01Same qs_clevisref01Same (N_clevisref01Same )) :=
  specOk_mk (fl := 10) (d := 12) base (by rintro R ⟨x0, x1⟩ k; kernel_rfl)
noncomputable def F_clevisref01Same : FT ps_clevisref01Same qs_clevisref01Same := N_clevisref01Same  
theorem ok_clevisref01Same : SpecOk Tryd.prog 16 (mkS ps_clevisref01Same qs_clevisref01Same F_clevisref01Same) := S_clevisref01Same 
abbrev ps_clevisref03Hole : List PT := [.one (.slice ((.prod (.int .i64) (.prod (.int .i64) (.prod (.int .i64) (.prod (.int .i64) (.prod (.int .i64) (.int .u64)))))))), .one (.int .i64)]
abbrev qs_clevisref03Hole : List PT := [.one (.bool)]
noncomputable def PL_clevisref03Hole_5_0  (fl : Nat)  (R : Type) (k : PTs.D qs_clevisref03Hole → Option R) : LoopI R :=
  locate (Cw Tryd.prog [] hintsF) fl (call (Cw Tryd.prog [] hintsF) fl 11) 0 17 5 [] (getR qs_clevisref03Hole k)
noncomputable def P_clevisref03Hole_5_0  (fl : Nat)  (n : Nat) (R : Type) (y0 : List (Int × Int × Int × Int × Int × Int)) (y1 : Int) (y2 : Int) (k : PTs.D qs_clevisref03Hole → Option R) : Option R :=
  loopH (PL_clevisref03Hole_5_0  fl  R k).body (PL_clevisref03Hole_5_0  fl  R k).head n (some (
      S.mk
        [V.ro true (Ty.prod (Ty.int IntKind.i64) (Ty.prod (Ty.int IntKind.i64) (Ty.prod (Ty.int IntKind.i64) (Ty.prod (Ty.int IntKind.i64) (Ty.prod (Ty.int IntKind.i64) (Ty.int IntKind.u64)))))) y0, V.any,
          V.any, V.any, V.any, V.int IntKind.i64 y1, V.int IntKind.i64 y2, V.any, V.any, V.any, V.any, V.any, V.any, V.any, V.any, V.any, V.any, V.any, V.any, V.any, V.any, V.any, V.any, V.any, V.any,
          V.any, V.any, V.any, V.any, V.any, V.any, V.any, V.any, V.any, V.any, V.any, V.any, V.any, V.any, V.any, V.any, V.any, V.any]
        [] [])) (PL_clevisref03Hole_5_0  fl  R k).kont
theorem P_clevisref03Hole_5_0_s  (fl : Nat)  (n : Nat) (R : Type) (y0 : List (Int × Int × Int × Int × Int × Int)) (y1 : Int) (y2 : Int) (k : PTs.D qs_clevisref03Hole → Option R) : P_clevisref03Hole_5_0  fl  (n + 1) R y0 y1 y2 k =
      br (W.or2 (W.not (W.ge y2 0)) (W.and2 (W.le 0 y2) (W.lt y2 (W.ofNat (W.len y0)))))
        (br (W.pick (W.ge y2 0) (W.eq (W.get y0 (W.toNat y2) (0, 0, 0, 0, 0, 0)).1 24) false) (P_clevisref03Hole_5_0 fl n R y0 (W.wrap IntKind.i64 (W.add y1 1)) (W.wrap IntKind.i64 (W.sub y2 1)) k)
          (k (W.eq (W.rem y1 2) 1)))
        none := by kernel_rfl
noncomputable def N_clevisref03Hole  (fl : Nat) : FT ps_clevisref03Hole qs_clevisref03Hole := fun R x k => match x with
  | (x0, x1) => 
      br (W.or2 (W.not (W.not (W.pick (W.lt x1 1) true (W.ge x1 (W.ofNat (W.len x0)))))) (W.and2 (W.le 0 (W.wrap IntKind.i64 (W.sub x1 1))) (W.lt (W.wrap IntKind.i64 (W.sub x1 1)) (W.ofNat (W.len x0)))))
        (br (W.pick (W.pick (W.lt x1 1) true (W.ge x1 (W.ofNat (W.len x0)))) true (W.ne (W.get x0 (W.toNat (W.wrap IntKind.i64 (W.sub x1 1))) (0, 0, 0, 0, 0, 0)).1 24)) (k false)
          (P_clevisref03Hole_5_0 fl fl R x0 0 (W.wrap IntKind.i64 (W.sub x1 1)) k))
        none
theorem Q_clevisref03Hole  (fl : Nat) (R : Type) (x : PTs.D ps_clevisref03Hole) (k : PTs.D qs_clevisref03Hole → Option R) : call (Cw Tryd.prog [] hintsF) fl 12 17 (encL true ps_clevisref03Hole x) [] (getR qs_clevisref03Hole k) = N_clevisref03Hole  fl R x k := by
  obtain ⟨x0, x1⟩ := x; kernel_rfl
theorem S_clevisref03Hole   : SpecOk Tryd.prog 17 (mkS ps_clevisref03Hole qs_clevisref03Hole (N_clevisref03Hole  W.big)) :=
  specOk_mk (fl := W.big) (d := 12) base (fun R x k => Q_clevisref03Hole W.big R x k)
noncomputable def F_clevisref03Hole : FT ps_clevisref03Hole qs_clevisref03Hole := N_clevisref03Hole  W.big
theorem ok_clevisref03Hole : SpecOk Tryd.prog 17 (mkS ps_clevisref03Hole qs_clevisref03Hole F_clevisref03Hole) := S_clevisref03Hole 
abbrev ps_clevisref03Text : List PT := [.agg ((.prod (.int .i64) (.prod (.int .i64) (.prod (.int .i64) (.prod (.int .i64) (.prod (.int .i64) (.int .u64)))))))]
abbrev qs_clevisref03Text : List PT := [.one (.str)]
noncomputable def N_clevisref03Text (F_strconv_Itoa_28 : FT ps_strconv_Itoa_28 qs_strconv_Itoa_28) (F_strconv_FormatUint_29 : FT ps_strconv_FormatUint_29 qs_strconv_FormatUint_29)  : FT ps_clevisref03Text qs_clevisref03Text := fun R x k => match x with
  | (x0Op, x0Dst, x0Src, x0Off, x0Imm, x0Wide) => 
      F_strconv_Itoa_28 R x0Op fun y =>
        br (W.leN (W.addN (W.size y) 1) 140737488355328)
          (F_strconv_Itoa_28 R x0Dst fun y_1 =>
            br (W.leN (W.addN (W.size (W.cat y (ByteArray.mk (Array.mk [UInt8.ofBitVec (BitVec.ofFin (Fin.mk 32 (Nat.mod_lt 32 (BitVec.ofNat._proof_1 8))))])))) (W.size y_1)) 140737488355328)
              (br (W.leN (W.addN (W.size (W.cat (W.cat y (ByteArray.mk (Array.mk [UInt8.ofBitVec (BitVec.ofFin (Fin.mk 32 (Nat.mod_lt 32 (BitVec.ofNat._proof_1 8))))]))) y_1)) 1) 140737488355328)
                (F_strconv_Itoa_28 R x0Src fun y_2 =>
                  br
                    (W.leN
                      (W.addN
                        (W.size
                          (W.cat (W.cat (W.cat y (ByteArray.mk (Array.mk [UInt8.ofBitVec (BitVec.ofFin (Fin.mk 32 (Nat.mod_lt 32 (BitVec.ofNat._proof_1 8))))]))) y_1)
                            (ByteArray.mk (Array.mk [UInt8.ofBitVec (BitVec.ofFin (Fin.mk 32 (Nat.mod_lt 32 (BitVec.ofNat._proof_1 8))))]))))
                        (W.size y_2))
                      140737488355328)
                    (br
                      (W.leN
                        (W.addN
                          (W.size
                            (W.cat
                              (W.cat (W.cat (W.cat y (ByteArray.mk (Array.mk [UInt8.ofBitVec (BitVec.ofFin (Fin.mk 32 (Nat.mod_lt 32 (BitVec.ofNat._proof_1 8))))]))) y_1)
                                (ByteArray.mk (Array.mk [UInt8.ofBitVec (BitVec.ofFin (Fin.mk 32 (Nat.mod_lt 32 (BitVec.ofNat._proof_1 8))))])))
                              y_2))
                          1)
                        140737488355328)
                      (F_strconv_Itoa_28 R x0Off fun y_3 =>
                        br
                          (W.leN
                            (W.addN
                              (W.size
                                (W.cat
                                  (W.cat
                                    (W.cat (W.cat (W.cat y (ByteArray.mk (Array.mk [UInt8.ofBitVec (BitVec.ofFin (Fin.mk 32 (Nat.mod_lt 32 (BitVec.ofNat._proof_1 8))))]))) y_1)
                                      (ByteArray.mk (Array.mk [UInt8.ofBitVec (BitVec.ofFin (Fin.mk 32 (Nat.mod_lt 32 (BitVec.ofNat._proof_1 8))))])))
                                    y_2)
                                  (ByteArray.mk (Array.mk [UInt8.ofBitVec (BitVec.ofFin (Fin.mk 32 (Nat.mod_lt 32 (BitVec.ofNat._proof_1 8))))]))))
                              (W.size y_3))
                            140737488355328)
                          (br
                            (W.leN
                              (W.addN
                                (W.size
                                  (W.cat
                                    (W.cat
                                      (W.cat
                                        (W.cat (W.cat (W.cat y (ByteArray.mk (Array.mk [UInt8.ofBitVec (BitVec.ofFin (Fin.mk 32 (Nat.mod_lt 32 (BitVec.ofNat._proof_1 8))))]))) y_1)
                                          (ByteArray.mk (Array.mk [UInt8.ofBitVec (BitVec.ofFin (Fin.mk 32 (Nat.mod_lt 32 (BitVec.ofNat._proof_1 8))))])))
                                        y_2)
                                      (ByteArray.mk (Array.mk [UInt8.ofBitVec (BitVec.ofFin (Fin.mk 32 (Nat.mod_lt 32 (BitVec.ofNat._proof_1 8))))])))
                                    y_3))
                                1)
                              140737488355328)
                            (F_strconv_Itoa_28 R x0Imm fun y_4 =>
                              br
                                (W.leN
                                  (W.addN
                                    (W.size
                                      (W.cat
                                        (W.cat
                                          (W.cat
                                            (W.cat
                                              (W.cat (W.cat (W.cat y (ByteArray.mk (Array.mk [UInt8.ofBitVec (BitVec.ofFin (Fin.mk 32 (Nat.mod_lt 32 (BitVec.ofNat._proof_1 8))))]))) y_1)
                                                (ByteArray.mk (Array.mk [UInt8.ofBitVec (BitVec.ofFin (Fin.mk 32 (Nat.mod_lt 32 (BitVec.ofNat._proof_1 8))))])))
                                              y_2)
                                            (ByteArray.mk (Array.mk [UInt8.ofBitVec (BitVec.ofFin (Fin.mk 32 (Nat.mod_lt 32 (BitVec.ofNat._proof_1 8))))])))
                                          y_3)
                                        (ByteArray.mk (Array.mk [UInt8.ofBitVec (BitVec.ofFin (Fin.mk 32 (Nat.mod_lt 32 (BitVec.ofNat._proof_1 8))))]))))
                                    (W.size y_4))
                                  140737488355328)
                                (br (W.eq x0Op 24)
                                  (br
                                    (W.leN
                                      (W.addN
                                        (W.size
                                          (W.cat
                                            (W.cat
                                              (W.cat
                                                (W.cat
                                                  (W.cat
                                                    (W.cat (W.cat (W.cat y (ByteArray.mk (Array.mk [UInt8.ofBitVec (BitVec.ofFin (Fin.mk 32 (Nat.mod_lt 32 (BitVec.ofNat._proof_1 8))))]))) y_1)
                                                      (ByteArray.mk (Array.mk [UInt8.ofBitVec (BitVec.ofFin (Fin.mk 32 (Nat.mod_lt 32 (BitVec.ofNat._proof_1 8))))])))
                                                    y_2)
                                                  (ByteArray.mk (Array.mk [UInt8.ofBitVec (BitVec.ofFin (Fin.mk 32 (Nat.mod_lt 32 (BitVec.ofNat._proof_1 8))))])))
                                                y_3)
                                              (ByteArray.mk (Array.mk [UInt8.ofBitVec (BitVec.ofFin (Fin.mk 32 (Nat.mod_lt 32 (BitVec.ofNat._proof_1 8))))])))
                                            y_4))
                                        1)
                                      140737488355328)
                                    (F_strconv_FormatUint_29 R (x0Wide, 10) fun y_5 =>
                                      br
                                        (W.leN
                                          (W.addN
                                            (W.size
                                              (W.cat
                                                (W.cat
                                                  (W.cat
                                                    (W.cat
                                                      (W.cat
                                                        (W.cat
                                                          (W.cat (W.cat (W.cat y (ByteArray.mk (Array.mk [UInt8.ofBitVec (BitVec.ofFin (Fin.mk 32 (Nat.mod_lt 32 (BitVec.ofNat._proof_1 8))))]))) y_1)
                                                            (ByteArray.mk (Array.mk [UInt8.ofBitVec (BitVec.ofFin (Fin.mk 32 (Nat.mod_lt 32 (BitVec.ofNat._proof_1 8))))])))
                                                          y_2)
                                                        (ByteArray.mk (Array.mk [UInt8.ofBitVec (BitVec.ofFin (Fin.mk 32 (Nat.mod_lt 32 (BitVec.ofNat._proof_1 8))))])))
                                                      y_3)
                                                    (ByteArray.mk (Array.mk [UInt8.ofBitVec (BitVec.ofFin (Fin.mk 32 (Nat.mod_lt 32 (BitVec.ofNat._proof_1 8))))])))
                                                  y_4)
                                                (ByteArray.mk (Array.mk [UInt8.ofBitVec (BitVec.ofFin (Fin.mk 32 (Nat.mod_lt 32 (BitVec.ofNat._proof_1 8))))]))))
                                            (W.size y_5))
                                          140737488355328)
                                        (k
                                          (W.cat
                                            (W.cat
                                              (W.cat
                                                (W.cat
                                                  (W.cat
                                                    (W.cat
                                                      (W.cat
                                                        (W.cat (W.cat (W.cat y (ByteArray.mk (Array.mk [UInt8.ofBitVec (BitVec.ofFin (Fin.mk 32 (Nat.mod_lt 32 (BitVec.ofNat._proof_1 8))))]))) y_1)
                                                          (ByteArray.mk (Array.mk [UInt8.ofBitVec (BitVec.ofFin (Fin.mk 32 (Nat.mod_lt 32 (BitVec.ofNat._proof_1 8))))])))
                                                        y_2)
                                                      (ByteArray.mk (Array.mk [UInt8.ofBitVec (BitVec.ofFin (Fin.mk 32 (Nat.mod_lt 32 (BitVec.ofNat._proof_1 8))))])))
                                                    y_3)
                                                  (ByteArray.mk (Array.mk [UInt8.ofBitVec (BitVec.ofFin (Fin.mk 32 (Nat.mod_lt 32 (BitVec.ofNat._proof_1 8))))])))
                                                y_4)
                                              (ByteArray.mk (Array.mk [UInt8.ofBitVec (BitVec.ofFin (Fin.mk 32 (Nat.mod_lt 32 (BitVec.ofNat._proof_1 8))))])))
                                            y_5))
                                        none)
                                    none)
                                  (k
                                    (W.cat
                                      (W.cat
                                        (W.cat
                                          (W.cat
                                            (W.cat
                                              (W.cat (W.cat (W.cat y (ByteArray.mk (Array.mk [UInt8.ofBitVec (BitVec.ofFin (Fin.mk 32 (Nat.mod_lt 32 (BitVec.ofNat._proof_1 8))))]))) y_1)
                                                (ByteArray.mk (Array.mk [UInt8.ofBitVec (BitVec.ofFin (Fin.mk 32 (Nat.mod_lt 32 (BitVec.ofNat._proof_1 8))))])))
                                              y_2)
                                            (ByteArray.mk (Array.mk [UInt8.ofBitVec (BitVec.ofFin (Fin.mk 32 (Nat.mod_lt 32 (BitVec.ofNat._proof_1 8))))])))
                                          y_3)
                                        (ByteArray.mk (Array.mk [UInt8.ofBitVec (BitVec.ofFin (Fin.mk 32 (Nat.mod_lt 32 (BitVec.ofNat._proof_1 8))))])))
                                      y_4)))
                                none)
                            none)
                          none)
                      none)
                    none)
                none)
              none)
          none
theorem S_clevisref03Text {F_strconv_Itoa_28 : FT ps_strconv_Itoa_28 qs_strconv_Itoa_28} {F_strconv_FormatUint_29 : FT ps_strconv_FormatUint_29 qs_strconv_FormatUint_29} (h_strconv_Itoa_28 : SpecOk Tryd.prog 28 (mkS ps_strconv_Itoa_28 qs_strconv_Itoa_28 F_strconv_Itoa_28)) (h_strconv_FormatUint_29 : SpecOk Tryd.prog 29 (mkS ps_strconv_FormatUint_29 qs_strconv_FormatUint_29 F_strconv_FormatUint_29)) : SpecOk Tryd.prog 19 (mkS ps_clevisref03Text qs_clevisref03Text (N_clevisref03Text F_strconv_Itoa_28 F_strconv_FormatUint_29)) :=
  specOk_mk (fl := 10) (d := 12) (cfgOk_cons (cfgOk_cons base h_strconv_FormatUint_29) h_strconv_Itoa_28) (by rintro R ⟨x0Op, x0Dst, x0Src, x0Off, x0Imm, x0Wide⟩ k; kernel_rfl)
noncomputable def F_clevisref03Text : FT ps_clevisref03Text qs_clevisref03Text := N_clevisref03Text F_strconv_Itoa_28 F_strconv_FormatUint_29 
theorem ok_clevisref03Text : SpecOk Tryd.prog 19 (mkS ps_clevisref03Text qs_clevisref03Text F_clevisref03Text) := S_clevisref03Text ok_strconv_Itoa_28 ok_strconv_FormatUint_29
abbrev ps_clevislaw03CodeWrites : List PT := [.one (.slice ((.prod (.int .i64) (.prod (.int .i64) (.prod (.int .i64) (.prod (.int .i64) (.prod (.int .i64) (.int .u64)))))))), .one (.int .i64)]
noncomputable def L_clevislaw03CodeWrites (F_code_Hole : FT ps_code_Hole qs_code_Hole) (F_code_Text : FT ps_code_Text qs_code_Text) (F_clevislaw03heads : FT ps_clevislaw03heads qs_clevislaw03heads) (F_code_Encode : FT ps_code_Encode qs_code_Encode) (F_clevisref03Encode : FT ps_clevisref03Encode qs_clevisref03Encode) (F_clevisref01Same : FT ps_clevisref01Same qs_clevisref01Same) (F_clevisref03Hole : FT ps_clevisref03Hole qs_clevisref03Hole) (F_clevisref03Text : FT ps_clevisref03Text qs_clevisref03Text)  (x : PTs.D ps_clevislaw03CodeWrites) : Option Unit := match x with
  | (x0, x1) => 
      F_code_Encode Unit x0 fun y =>
        F_clevisref03Encode Unit x0 fun y_1 =>
          br (W.pick (W.ge x1 0) (W.lt x1 (W.ofNat (W.len x0))) false)
            (br (W.and2 (W.le 0 x1) (W.lt x1 (W.ofNat (W.len x0))))
              (F_clevisref01Same Unit (y.1, y_1.1) fun y_2 =>
                br (W.pick y_2 (W.eq y.2 y_1.2) false)
                  (F_code_Hole Unit (x0, x1) fun y =>
                    F_clevisref03Hole Unit (x0, x1) fun y_3 =>
                      br (W.eqB y y_3)
                        (F_code_Text Unit
                          ((W.get x0 (W.toNat x1) (0, 0, 0, 0, 0, 0)).1, (W.get x0 (W.toNat x1) (0, 0, 0, 0, 0, 0)).2.1, (W.get x0 (W.toNat x1) (0, 0, 0, 0, 0, 0)).2.2.1,
                            (W.get x0 (W.toNat x1) (0, 0, 0, 0, 0, 0)).2.2.2.1, (W.get x0 (W.toNat x1) (0, 0, 0, 0, 0, 0)).2.2.2.2.1, (W.get x0 (W.toNat x1) (0, 0, 0, 0, 0, 0)).2.2.2.2.2)
                          fun y =>
                          F_clevisref03Text Unit
                            ((W.get x0 (W.toNat x1) (0, 0, 0, 0, 0, 0)).1, (W.get x0 (W.toNat x1) (0, 0, 0, 0, 0, 0)).2.1, (W.get x0 (W.toNat x1) (0, 0, 0, 0, 0, 0)).2.2.1,
                              (W.get x0 (W.toNat x1) (0, 0, 0, 0, 0, 0)).2.2.2.1, (W.get x0 (W.toNat x1) (0, 0, 0, 0, 0, 0)).2.2.2.2.1, (W.get x0 (W.toNat x1) (0, 0, 0, 0, 0, 0)).2.2.2.2.2)
                            fun y_4 => br (W.eqS y y_4) (F_clevislaw03heads Unit () fun y => br y (some ()) none) none)
                        none)
                  none)
              none)
            (F_clevisref01Same Unit (y.1, y_1.1) fun y_2 =>
              br (W.pick y_2 (W.eq y.2 y_1.2) false)
                (F_code_Hole Unit (x0, x1) fun y =>
                  F_clevisref03Hole Unit (x0, x1) fun y_3 =>
                    br (W.eqB y y_3)
                      (F_code_Text Unit (0, 0, 0, 0, 0, 0) fun y =>
                        F_clevisref03Text Unit (0, 0, 0, 0, 0, 0) fun y_4 => br (W.eqS y y_4) (F_clevislaw03heads Unit () fun y => br y (some ()) none) none)
                      none)
                none)
theorem E_clevislaw03CodeWrites {F_code_Hole : FT ps_code_Hole qs_code_Hole} {F_code_Text : FT ps_code_Text qs_code_Text} {F_clevislaw03heads : FT ps_clevislaw03heads qs_clevislaw03heads} {F_code_Encode : FT ps_code_Encode qs_code_Encode} {F_clevisref03Encode : FT ps_clevisref03Encode qs_clevisref03Encode} {F_clevisref01Same : FT ps_clevisref01Same qs_clevisref01Same} {F_clevisref03Hole : FT ps_clevisref03Hole qs_clevisref03Hole} {F_clevisref03Text : FT ps_clevisref03Text qs_clevisref03Text} (h_code_Hole : SpecOk Tryd.prog 13 (mkS ps_code_Hole qs_code_Hole F_code_Hole)) (h_code_Text : SpecOk Tryd.prog 18 (mkS ps_code_Text qs_code_Text F_code_Text)) (h_clevislaw03heads : SpecOk Tryd.prog 12 (mkS ps_clevislaw03heads qs_clevislaw03heads F_clevislaw03heads)) (h_code_Encode : SpecOk Tryd.prog 14 (mkS ps_code_Encode qs_code_Encode F_code_Encode)) (h_clevisref03Encode : SpecOk Tryd.prog 15 (mkS ps_clevisref03Encode qs_clevisref03Encode F_clevisref03Encode)) (h_clevisref01Same : SpecOk Tryd.prog 16 (mkS ps_clevisref01Same qs_clevisref01Same F_clevisref01Same)) (h_clevisref03Hole : SpecOk Tryd.prog 17 (mkS ps_clevisref03Hole qs_clevisref03Hole F_clevisref03Hole)) (h_clevisref03Text : SpecOk Tryd.prog 19 (mkS ps_clevisref03Text qs_clevisref03Text F_clevisref03Text)) (x : PTs.D ps_clevislaw03CodeWrites) (hL : L_clevislaw03CodeWrites F_code_Hole F_code_Text F_clevislaw03heads F_code_Encode F_clevisref03Encode F_clevisref01Same F_clevisref03Hole F_clevisref03Text x = some ()) :
    ∃ (C : Cfg) (fl d : Nat), CfgOk C ∧ C.P = Tryd.prog ∧ call C fl d 6 (encL false ps_clevislaw03CodeWrites x) [] getL = some () :=
  ⟨_, 10, 12, (cfgOk_cons (cfgOk_cons (cfgOk_cons (cfgOk_cons (cfgOk_cons (cfgOk_cons (cfgOk_cons (cfgOk_cons base h_clevisref03Text) h_clevisref03Hole) h_clevisref01Same) h_clevisref03Encode) h_code_Encode) h_clevislaw03heads) h_code_Text) h_code_Hole), rfl, (show _ = L_clevislaw03CodeWrites F_code_Hole F_code_Text F_clevislaw03heads F_code_Encode F_clevisref03Encode F_clevisref01Same F_clevisref03Hole F_clevisref03Text x by obtain ⟨x0, x1⟩ := x; kernel_rfl).trans hL⟩
abbrev ps_clevislaw03CodeBack : List PT := [.one (.slice ((.prod (.int .i64) (.prod (.int .i64) (.prod (.int .i64) (.prod (.int .i64) (.prod (.int .i64) (.int .u64))))))))]
noncomputable def L_clevislaw03CodeBack (F_code_Decode : FT ps_code_Decode qs_code_Decode) (F_clevisref03Same : FT ps_clevisref03Same qs_clevisref03Same) (F_clevislaw03heads : FT ps_clevislaw03heads qs_clevislaw03heads) (F_code_Encode : FT ps_code_Encode qs_code_Encode)  (x : PTs.D ps_clevislaw03CodeBack) : Option Unit := match x with
  | x0 => 
      F_code_Encode Unit x0 fun y =>
        br (W.ne y.2 0) (br (W.eq (W.ofNat (W.len y.1)) 0) (F_clevislaw03heads Unit () fun y => br y (some ()) none) none)
          (F_code_Decode Unit y.1 fun y_1 =>
            br (W.eq y_1.2 0)
              (F_clevisref03Same Unit (x0, y_1.1) fun y_2 =>
                br (W.pick y_2 (W.eq (W.ofNat (W.len y.1)) (W.wrap IntKind.i64 (W.mul 8 (W.ofNat (W.len x0))))) false) (F_clevislaw03heads Unit () fun y => br y (some ()) none) none)
              none)
theorem E_clevislaw03CodeBack {F_code_Decode : FT ps_code_Decode qs_code_Decode} {F_clevisref03Same : FT ps_clevisref03Same qs_clevisref03Same} {F_clevislaw03heads : FT ps_clevislaw03heads qs_clevislaw03heads} {F_code_Encode : FT ps_code_Encode qs_code_Encode} (h_code_Decode : SpecOk Tryd.prog 9 (mkS ps_code_Decode qs_code_Decode F_code_Decode)) (h_clevisref03Same : SpecOk Tryd.prog 11 (mkS ps_clevisref03Same qs_clevisref03Same F_clevisref03Same)) (h_clevislaw03heads : SpecOk Tryd.prog 12 (mkS ps_clevislaw03heads qs_clevislaw03heads F_clevislaw03heads)) (h_code_Encode : SpecOk Tryd.prog 14 (mkS ps_code_Encode qs_code_Encode F_code_Encode)) (x : PTs.D ps_clevislaw03CodeBack) (hL : L_clevislaw03CodeBack F_code_Decode F_clevisref03Same F_clevislaw03heads F_code_Encode x = some ()) :
    ∃ (C : Cfg) (fl d : Nat), CfgOk C ∧ C.P = Tryd.prog ∧ call C fl d 7 (encL false ps_clevislaw03CodeBack x) [] getL = some () :=
  ⟨_, 10, 12, (cfgOk_cons (cfgOk_cons (cfgOk_cons (cfgOk_cons base h_code_Encode) h_clevislaw03heads) h_clevisref03Same) h_code_Decode), rfl, (show _ = L_clevislaw03CodeBack F_code_Decode F_clevisref03Same F_clevislaw03heads F_code_Encode x by kernel_rfl).trans hL⟩
abbrev ps_clevislaw03CodeAgain : List PT := [.one (.slice (.int .u8))]
noncomputable def L_clevislaw03CodeAgain (F_code_Decode : FT ps_code_Decode qs_code_Decode) (F_clevislaw03heads : FT ps_clevislaw03heads qs_clevislaw03heads) (F_code_Encode : FT ps_code_Encode qs_code_Encode) (F_clevisref01Same : FT ps_clevisref01Same qs_clevisref01Same)  (x : PTs.D ps_clevislaw03CodeAgain) : Option Unit := match x with
  | x0 => 
      F_code_Decode Unit x0 fun y =>
        br (W.ne y.2 0) (br (W.eq (W.ofNat (W.len y.1)) 0) (F_clevislaw03heads Unit () fun y => br y (some ()) none) none)
          (F_code_Encode Unit y.1 fun y_1 =>
            br (W.eq y_1.2 0)
              (F_clevisref01Same Unit (x0, y_1.1) fun y_2 =>
                br (W.pick y_2 (W.eq (W.wrap IntKind.i64 (W.mul (W.ofNat (W.len y.1)) 8)) (W.ofNat (W.len x0))) false) (F_clevislaw03heads Unit () fun y => br y (some ()) none) none)
              none)
theorem E_clevislaw03CodeAgain {F_code_Decode : FT ps_code_Decode qs_code_Decode} {F_clevislaw03heads : FT ps_clevislaw03heads qs_clevislaw03heads} {F_code_Encode : FT ps_code_Encode qs_code_Encode} {F_clevisref01Same : FT ps_clevisref01Same qs_clevisref01Same} (h_code_Decode : SpecOk Tryd.prog 9 (mkS ps_code_Decode qs_code_Decode F_code_Decode)) (h_clevislaw03heads : SpecOk Tryd.prog 12 (mkS ps_clevislaw03heads qs_clevislaw03heads F_clevislaw03heads)) (h_code_Encode : SpecOk Tryd.prog 14 (mkS ps_code_Encode qs_code_Encode F_code_Encode)) (h_clevisref01Same : SpecOk Tryd.prog 16 (mkS ps_clevisref01Same qs_clevisref01Same F_clevisref01Same)) (x : PTs.D ps_clevislaw03CodeAgain) (hL : L_clevislaw03CodeAgain F_code_Decode F_clevislaw03heads F_code_Encode F_clevisref01Same x = some ()) :
    ∃ (C : Cfg) (fl d : Nat), CfgOk C ∧ C.P = Tryd.prog ∧ call C fl d 8 (encL false ps_clevislaw03CodeAgain x) [] getL = some () :=
  ⟨_, 10, 12, (cfgOk_cons (cfgOk_cons (cfgOk_cons (cfgOk_cons base h_clevisref01Same) h_code_Encode) h_clevislaw03heads) h_code_Decode), rfl, (show _ = L_clevislaw03CodeAgain F_code_Decode F_clevislaw03heads F_code_Encode F_clevisref01Same x by kernel_rfl).trans hL⟩
end Go.Proofs.YtdfelkcioeinfaaDoor
