import Derived.Test.YthelcblaomahdaaProg
import Derived.Test.YthelcblaomahdaaEnwZ4
import Derived.KernelRfl
set_option maxHeartbeats 0
set_option maxRecDepth 1000000
set_option linter.unusedVariables false
namespace Go.Proofs.Ythelcblaomahdaa
open Go Go.Eng
def hintsF : FuncId → Nat → List Hint := fun g id => if g == 36 && id == 3 then [.tmp 5 (.int .u8) false] else if g == 16 && id == 5 then [.tmp 4 (.int .u8) true] else if g == 9 && id == 3 then [.tmp 4 (.int .u8) true] else if g == 30 && id == 3 then [.tmp 3 (.int .u8) true] else []
theorem base : CfgOk (Cw Try.prog [] hintsF) := cfgOk_nil (noGo_of (by kernel_rfl)) (by kernel_rfl) (by kernel_rfl)
abbrev ps_mem_Check : List PT := [.agg ((.prod ((.prod (.int .i64) (.bool))) (.slice ((.prod (.int .i64) (.bool))))))]
abbrev qs_mem_Check : List PT := [.one (.int .i64)]
noncomputable def PL_mem_Check_4_0  (fl : Nat)  (R : Type) (k : PTs.D qs_mem_Check → Option R) : LoopI R :=
  locate (Cw Try.prog [] hintsF) fl (call (Cw Try.prog [] hintsF) fl 11) 0 11 4 [] (getR qs_mem_Check k)
noncomputable def P_mem_Check_4_0  (fl : Nat)  (n : Nat) (R : Type) (y0 : List (Int × Bool)) (y1 : Int) (y2 : Int) (k : PTs.D qs_mem_Check → Option R) : Option R :=
  loopH (PL_mem_Check_4_0  fl  R k).body (PL_mem_Check_4_0  fl  R k).head n (some (
      S.mk
        [V.any, V.any, V.any, V.any, V.any, V.any, V.any, V.any, V.any, V.any, V.any, V.any, V.any, V.any, V.any, V.any, V.any, V.any, V.any, V.any, V.any, V.any,
          V.ro true (Ty.prod (Ty.int IntKind.i64) Ty.bool) y0, V.int IntKind.i64 y1, V.int IntKind.i64 y2, V.any, V.any, V.any, V.any, V.any, V.any, V.any, V.any, V.any, V.any, V.any, V.any]
        [] [])) (PL_mem_Check_4_0  fl  R k).kont
theorem P_mem_Check_4_0_s  (fl : Nat)  (n : Nat) (R : Type) (y0 : List (Int × Bool)) (y1 : Int) (y2 : Int) (k : PTs.D qs_mem_Check → Option R) : P_mem_Check_4_0  fl  (n + 1) R y0 y1 y2 k =
      br (W.lt y2 y1)
        (br (W.and2 (W.le 0 y2) (W.lt y2 (W.ofNat (W.len y0))))
          (br (W.pick (W.lt (W.get y0 (W.toNat y2) (0, false)).1 1) true (W.gt (W.get y0 (W.toNat y2) (0, false)).1 4096)) (k 22) (P_mem_Check_4_0 fl n R y0 y1 (W.wrap IntKind.i64 (W.add y2 1)) k)) none)
        (k 0) := by kernel_rfl
noncomputable def N_mem_Check  (fl : Nat) : FT ps_mem_Check qs_mem_Check := fun R x k => match x with
  | ((x0Context_Size, x0Context_Write), x0Maps) => 
      br (W.pick (W.pick (W.lt x0Context_Size 0) true (W.gt x0Context_Size 4096)) true (W.gt (W.ofNat (W.len x0Maps)) 8)) (k 22) (P_mem_Check_4_0 fl fl R x0Maps (W.ofNat (W.len x0Maps)) 0 k)
theorem Q_mem_Check  (fl : Nat) (R : Type) (x : PTs.D ps_mem_Check) (k : PTs.D qs_mem_Check → Option R) : call (Cw Try.prog [] hintsF) fl 12 11 (encL true ps_mem_Check x) [] (getR qs_mem_Check k) = N_mem_Check  fl R x k := by
  obtain ⟨⟨x0Context_Size, x0Context_Write⟩, x0Maps⟩ := x; kernel_rfl
theorem S_mem_Check   : SpecOk Try.prog 11 (mkS ps_mem_Check qs_mem_Check (N_mem_Check  W.big)) :=
  specOk_mk (fl := W.big) (d := 12) base (fun R x k => Q_mem_Check W.big R x k)
noncomputable def F_mem_Check : FT ps_mem_Check qs_mem_Check := N_mem_Check  W.big
theorem ok_mem_Check : SpecOk Try.prog 11 (mkS ps_mem_Check qs_mem_Check F_mem_Check) := S_mem_Check 
abbrev ps_mem_areas : List PT := [.agg ((.prod ((.prod (.int .i64) (.bool))) (.slice ((.prod (.int .i64) (.bool))))))]
abbrev qs_mem_areas : List PT := [.one (.slice ((.prod (.int .i64) (.bool))))]
noncomputable def N_mem_areas (F_mem_Check : FT ps_mem_Check qs_mem_Check)  : FT ps_mem_areas qs_mem_areas := fun R x k => match x with
  | ((x0Context_Size, x0Context_Write), x0Maps) => 
      F_mem_Check R ((x0Context_Size, x0Context_Write), x0Maps) fun y =>
        br (W.ne y 0) (k []) (br (W.leN (W.mulN (W.addN 2 (W.len x0Maps)) 16) 140737488355328) (k (W.app [(x0Context_Size, x0Context_Write), (512, true)] x0Maps)) none)
theorem S_mem_areas {F_mem_Check : FT ps_mem_Check qs_mem_Check} (h_mem_Check : SpecOk Try.prog 11 (mkS ps_mem_Check qs_mem_Check F_mem_Check)) : SpecOk Try.prog 37 (mkS ps_mem_areas qs_mem_areas (N_mem_areas F_mem_Check)) :=
  specOk_mk (fl := 10) (d := 12) (cfgOk_cons base h_mem_Check) (by rintro R ⟨⟨x0Context_Size, x0Context_Write⟩, x0Maps⟩ k; kernel_rfl)
noncomputable def F_mem_areas : FT ps_mem_areas qs_mem_areas := N_mem_areas F_mem_Check 
theorem ok_mem_areas : SpecOk Try.prog 37 (mkS ps_mem_areas qs_mem_areas F_mem_areas) := S_mem_areas ok_mem_Check
abbrev ps_mem_Fresh : List PT := [.agg ((.prod ((.prod (.int .i64) (.bool))) (.slice ((.prod (.int .i64) (.bool))))))]
abbrev qs_mem_Fresh : List PT := [.one (.slice (.slice (.int .u8))), .one (.int .i64)]
noncomputable def PL_mem_Fresh_3_0 (F_mem_Check : FT ps_mem_Check qs_mem_Check) (F_mem_areas : FT ps_mem_areas qs_mem_areas) (fl : Nat)  (R : Type) (k : PTs.D qs_mem_Fresh → Option R) : LoopI R :=
  locate (Cw Try.prog [(11, mkS ps_mem_Check qs_mem_Check F_mem_Check), (37, mkS ps_mem_areas qs_mem_areas F_mem_areas)] hintsF) fl (call (Cw Try.prog [(11, mkS ps_mem_Check qs_mem_Check F_mem_Check), (37, mkS ps_mem_areas qs_mem_areas F_mem_areas)] hintsF) fl 11) 0 9 3 [] (getR qs_mem_Fresh k)
noncomputable def P_mem_Fresh_3_0 (F_mem_Check : FT ps_mem_Check qs_mem_Check) (F_mem_areas : FT ps_mem_areas qs_mem_areas) (fl : Nat)  (n : Nat) (R : Type) (y0 : Nat) (y1 : List (Int × Bool)) (y2 : Int) (y3 : Int) (y4 : Int) (y5 : Bool) (y6 : List (Int × Bool)) (y7 : List (List Int)) (k : PTs.D qs_mem_Fresh → Option R) : Option R :=
  loopH (PL_mem_Fresh_3_0 F_mem_Check F_mem_areas fl  R k).body (PL_mem_Fresh_3_0 F_mem_Check F_mem_areas fl  R k).head n (some (
      S.mk
        [V.any, V.ptr 0 0, V.any, V.any, V.sl 1 1 y0, V.any, V.any, V.any, V.ro false (Ty.prod (Ty.int IntKind.i64) Ty.bool) y1, V.int IntKind.i64 y2, V.int IntKind.i64 y3, V.any, V.any, V.any, V.any,
          V.any, V.any, V.any, V.any, V.any, V.any, V.any, V.any, V.any]
        [] [Blk.cells [V.int IntKind.i64 y4, V.bool y5, V.ro true (Ty.prod (Ty.int IntKind.i64) Ty.bool) y6], Blk.rows (Ty.int IntKind.u8) y7])) (PL_mem_Fresh_3_0 F_mem_Check F_mem_areas fl  R k).kont
theorem P_mem_Fresh_3_0_s {F_mem_Check : FT ps_mem_Check qs_mem_Check} {F_mem_areas : FT ps_mem_areas qs_mem_areas} (fl : Nat)  (n : Nat) (R : Type) (y0 : Nat) (y1 : List (Int × Bool)) (y2 : Int) (y3 : Int) (y4 : Int) (y5 : Bool) (y6 : List (Int × Bool)) (y7 : List (List Int)) (k : PTs.D qs_mem_Fresh → Option R) : P_mem_Fresh_3_0 F_mem_Check F_mem_areas fl  (n + 1) R y0 y1 y2 y3 y4 y5 y6 y7 k =
      br (W.lt y3 y2)
        (br (W.and2 (W.le 0 y3) (W.lt y3 (W.ofNat (W.len y1))))
          (br (W.and2 (W.le 0 (W.get y1 (W.toNat y3) (0, false)).1) (W.le (W.mul (W.ofNat 1) (W.get y1 (W.toNat y3) (0, false)).1) 281474976710656))
            (br (W.leN (W.mulN (W.addN y0 1) 24) 140737488355328)
              (P_mem_Fresh_3_0 F_mem_Check F_mem_areas fl n R (W.addN y0 1) y1 y2 (W.wrap IntKind.i64 (W.add y3 1)) y4 y5 y6 (W.app y7 [W.rep (W.toNat (W.get y1 (W.toNat y3) (0, false)).1) 0]) k) none)
            none)
          none)
        (F_mem_Check R ((y4, y5), y6) fun y => k (y7, y)) := by kernel_rfl
noncomputable def N_mem_Fresh (F_mem_Check : FT ps_mem_Check qs_mem_Check) (F_mem_areas : FT ps_mem_areas qs_mem_areas) (fl : Nat) : FT ps_mem_Fresh qs_mem_Fresh := fun R x k => match x with
  | ((x0Context_Size, x0Context_Write), x0Maps) => 
      F_mem_areas R ((x0Context_Size, x0Context_Write), x0Maps) fun y => P_mem_Fresh_3_0 F_mem_Check F_mem_areas fl fl R 0 y (W.ofNat (W.len y)) 0 x0Context_Size x0Context_Write x0Maps [] k
theorem Q_mem_Fresh {F_mem_Check : FT ps_mem_Check qs_mem_Check} {F_mem_areas : FT ps_mem_areas qs_mem_areas} (fl : Nat) (R : Type) (x : PTs.D ps_mem_Fresh) (k : PTs.D qs_mem_Fresh → Option R) : call (Cw Try.prog [(11, mkS ps_mem_Check qs_mem_Check F_mem_Check), (37, mkS ps_mem_areas qs_mem_areas F_mem_areas)] hintsF) fl 12 9 (encL true ps_mem_Fresh x) [] (getR qs_mem_Fresh k) = N_mem_Fresh F_mem_Check F_mem_areas fl R x k := by
  obtain ⟨⟨x0Context_Size, x0Context_Write⟩, x0Maps⟩ := x; kernel_rfl
theorem S_mem_Fresh {F_mem_Check : FT ps_mem_Check qs_mem_Check} {F_mem_areas : FT ps_mem_areas qs_mem_areas} (h_mem_Check : SpecOk Try.prog 11 (mkS ps_mem_Check qs_mem_Check F_mem_Check)) (h_mem_areas : SpecOk Try.prog 37 (mkS ps_mem_areas qs_mem_areas F_mem_areas)) : SpecOk Try.prog 9 (mkS ps_mem_Fresh qs_mem_Fresh (N_mem_Fresh F_mem_Check F_mem_areas W.big)) :=
  specOk_mk (fl := W.big) (d := 12) (cfgOk_cons (cfgOk_cons base h_mem_areas) h_mem_Check) (fun R x k => Q_mem_Fresh W.big R x k)
noncomputable def F_mem_Fresh : FT ps_mem_Fresh qs_mem_Fresh := N_mem_Fresh F_mem_Check F_mem_areas W.big
theorem ok_mem_Fresh : SpecOk Try.prog 9 (mkS ps_mem_Fresh qs_mem_Fresh F_mem_Fresh) := S_mem_Fresh ok_mem_Check ok_mem_areas
abbrev ps_mem_Area : List PT := [.agg ((.prod ((.prod (.int .i64) (.bool))) (.slice ((.prod (.int .i64) (.bool)))))), .one (.int .i64)]
abbrev qs_mem_Area : List PT := [.agg ((.prod (.int .i64) (.bool))), .one (.bool)]
noncomputable def N_mem_Area (F_mem_areas : FT ps_mem_areas qs_mem_areas)  : FT ps_mem_Area qs_mem_Area := fun R x k => match x with
  | (((x0Context_Size, x0Context_Write), x0Maps), x1) => 
      F_mem_areas R ((x0Context_Size, x0Context_Write), x0Maps) fun y =>
        br (W.pick (W.ge x1 1) (W.le x1 (W.ofNat (W.len y))) false)
          (br (W.and2 (W.le 0 (W.wrap IntKind.i64 (W.sub x1 1))) (W.lt (W.wrap IntKind.i64 (W.sub x1 1)) (W.ofNat (W.len y))))
            (k (((W.get y (W.toNat (W.wrap IntKind.i64 (W.sub x1 1))) (0, false)).1, (W.get y (W.toNat (W.wrap IntKind.i64 (W.sub x1 1))) (0, false)).2), true)) none)
          (k ((0, false), false))
theorem S_mem_Area {F_mem_areas : FT ps_mem_areas qs_mem_areas} (h_mem_areas : SpecOk Try.prog 37 (mkS ps_mem_areas qs_mem_areas F_mem_areas)) : SpecOk Try.prog 10 (mkS ps_mem_Area qs_mem_Area (N_mem_Area F_mem_areas)) :=
  specOk_mk (fl := 10) (d := 12) (cfgOk_cons base h_mem_areas) (by rintro R ⟨⟨⟨x0Context_Size, x0Context_Write⟩, x0Maps⟩, x1⟩ k; kernel_rfl)
noncomputable def F_mem_Area : FT ps_mem_Area qs_mem_Area := N_mem_Area F_mem_areas 
theorem ok_mem_Area : SpecOk Try.prog 10 (mkS ps_mem_Area qs_mem_Area F_mem_Area) := S_mem_Area ok_mem_areas
abbrev ps_mem_Address : List PT := [.one (.int .i64), .one (.int .i64)]
abbrev qs_mem_Address : List PT := [.one (.int .u64)]
noncomputable def N_mem_Address   : FT ps_mem_Address qs_mem_Address := fun R x k => match x with
  | (x0, x1) => 
      k (W.wrap IntKind.u64 (W.add (W.wrap IntKind.u64 (W.shl IntKind.u64 (W.wrap IntKind.u64 x0) 32)) (W.wrap IntKind.u64 x1)))
theorem S_mem_Address   : SpecOk Try.prog 14 (mkS ps_mem_Address qs_mem_Address (N_mem_Address )) :=
  specOk_mk (fl := 10) (d := 12) base (by rintro R ⟨x0, x1⟩ k; kernel_rfl)
noncomputable def F_mem_Address : FT ps_mem_Address qs_mem_Address := N_mem_Address  
theorem ok_mem_Address : SpecOk Try.prog 14 (mkS ps_mem_Address qs_mem_Address F_mem_Address) := S_mem_Address 
abbrev ps_mem_Split : List PT := [.one (.int .u64)]
abbrev qs_mem_Split : List PT := [.one (.int .i64), .one (.int .i64)]
noncomputable def N_mem_Split   : FT ps_mem_Split qs_mem_Split := fun R x k => match x with
  | x0 => 
      k (W.wrap IntKind.i64 (W.shr IntKind.u64 x0 32), W.wrap IntKind.i64 (W.wrap IntKind.u32 x0))
theorem S_mem_Split   : SpecOk Try.prog 21 (mkS ps_mem_Split qs_mem_Split (N_mem_Split )) :=
  specOk_mk (fl := 10) (d := 12) base (by intro R x0 k; kernel_rfl)
noncomputable def F_mem_Split : FT ps_mem_Split qs_mem_Split := N_mem_Split  
theorem ok_mem_Split : SpecOk Try.prog 21 (mkS ps_mem_Split qs_mem_Split F_mem_Split) := S_mem_Split 
abbrev ps_mem_Access : List PT := [.agg ((.prod ((.prod (.int .i64) (.bool))) (.slice ((.prod (.int .i64) (.bool)))))), .one (.int .u64), .one (.int .i64), .one (.bool)]
abbrev qs_mem_Access : List PT := [.one (.int .i64)]
noncomputable def N_mem_Access (F_mem_Area : FT ps_mem_Area qs_mem_Area) (F_mem_Split : FT ps_mem_Split qs_mem_Split)  : FT ps_mem_Access qs_mem_Access := fun R x k => match x with
  | (((x0Context_Size, x0Context_Write), x0Maps), x1, x2, x3) => 
      br (W.pick (W.lt x2 1) true (W.gt x2 4096)) (k 2)
        (F_mem_Split R x1 fun y =>
          F_mem_Area R (((x0Context_Size, x0Context_Write), x0Maps), y.1) fun y_1 =>
            br (W.pick (W.not y_1.2) true (W.gt y.2 (W.wrap IntKind.i64 (W.sub y_1.1.1 x2)))) (k 20) (br (W.pick x3 (W.not y_1.1.2) false) (k 21) (k 0)))
theorem S_mem_Access {F_mem_Area : FT ps_mem_Area qs_mem_Area} {F_mem_Split : FT ps_mem_Split qs_mem_Split} (h_mem_Area : SpecOk Try.prog 10 (mkS ps_mem_Area qs_mem_Area F_mem_Area)) (h_mem_Split : SpecOk Try.prog 21 (mkS ps_mem_Split qs_mem_Split F_mem_Split)) : SpecOk Try.prog 15 (mkS ps_mem_Access qs_mem_Access (N_mem_Access F_mem_Area F_mem_Split)) :=
  specOk_mk (fl := 22) (d := 12) (cfgOk_cons (cfgOk_cons base h_mem_Split) h_mem_Area) (by rintro R ⟨⟨⟨x0Context_Size, x0Context_Write⟩, x0Maps⟩, x1, x2, x3⟩ k; kernel_rfl)
noncomputable def F_mem_Access : FT ps_mem_Access qs_mem_Access := N_mem_Access F_mem_Area F_mem_Split 
theorem ok_mem_Access : SpecOk Try.prog 15 (mkS ps_mem_Access qs_mem_Access F_mem_Access) := S_mem_Access ok_mem_Area ok_mem_Split
abbrev ps_mem_May : List PT := [.agg ((.prod ((.prod (.int .i64) (.bool))) (.slice ((.prod (.int .i64) (.bool)))))), .one (.slice (.slice (.int .u8)))]
abbrev qs_mem_May : List PT := [.one (.bool)]
noncomputable def PL_mem_May_5_0 (F_mem_areas : FT ps_mem_areas qs_mem_areas) (fl : Nat)  (R : Type) (k : PTs.D qs_mem_May → Option R) : LoopI R :=
  locate (Cw Try.prog [(37, mkS ps_mem_areas qs_mem_areas F_mem_areas)] hintsF) fl (call (Cw Try.prog [(37, mkS ps_mem_areas qs_mem_areas F_mem_areas)] hintsF) fl 11) 0 19 5 [] (getR qs_mem_May k)
noncomputable def P_mem_May_5_0 (F_mem_areas : FT ps_mem_areas qs_mem_areas) (fl : Nat)  (n : Nat) (R : Type) (y0 : List (List Int)) (y1 : List (Int × Bool)) (y2 : Int) (y3 : Int) (k : PTs.D qs_mem_May → Option R) : Option R :=
  loopH (PL_mem_May_5_0 F_mem_areas fl  R k).body (PL_mem_May_5_0 F_mem_areas fl  R k).head n (some (
      S.mk
        [V.any, V.ro true (Ty.slice (Ty.int IntKind.u8)) y0, V.any, V.any, V.any, V.ro false (Ty.prod (Ty.int IntKind.i64) Ty.bool) y1, V.any, V.any, V.any, V.any, V.any, V.any, V.any, V.any, V.any, V.any,
          V.any, V.any, V.any, V.any, V.int IntKind.i64 y2, V.int IntKind.i64 y3, V.any, V.any, V.any, V.any, V.any, V.any, V.any, V.any, V.any, V.any, V.any, V.any, V.any, V.any]
        [] [])) (PL_mem_May_5_0 F_mem_areas fl  R k).kont
theorem P_mem_May_5_0_s {F_mem_areas : FT ps_mem_areas qs_mem_areas} (fl : Nat)  (n : Nat) (R : Type) (y0 : List (List Int)) (y1 : List (Int × Bool)) (y2 : Int) (y3 : Int) (k : PTs.D qs_mem_May → Option R) : P_mem_May_5_0 F_mem_areas fl  (n + 1) R y0 y1 y2 y3 k =
      br (W.lt y3 y2)
        (br (W.and2 (W.le 0 y3) (W.lt y3 (W.ofNat (W.len y0))))
          (br (W.and2 (W.le 0 y3) (W.lt y3 (W.ofNat (W.len y1))))
            (br (W.ne (W.ofNat (W.len (W.get y0 (W.toNat y3) []))) (W.get y1 (W.toNat y3) (0, false)).1) (k false) (P_mem_May_5_0 F_mem_areas fl n R y0 y1 y2 (W.wrap IntKind.i64 (W.add y3 1)) k)) none)
          none)
        (k true) := by kernel_rfl
noncomputable def N_mem_May (F_mem_areas : FT ps_mem_areas qs_mem_areas) (fl : Nat) : FT ps_mem_May qs_mem_May := fun R x k => match x with
  | (((x0Context_Size, x0Context_Write), x0Maps), x1) => 
      F_mem_areas R ((x0Context_Size, x0Context_Write), x0Maps) fun y =>
        br (W.pick (W.eq (W.ofNat (W.len y)) 0) true (W.ne (W.ofNat (W.len y)) (W.ofNat (W.len x1)))) (k false) (P_mem_May_5_0 F_mem_areas fl fl R x1 y (W.ofNat (W.len y)) 0 k)
theorem Q_mem_May {F_mem_areas : FT ps_mem_areas qs_mem_areas} (fl : Nat) (R : Type) (x : PTs.D ps_mem_May) (k : PTs.D qs_mem_May → Option R) : call (Cw Try.prog [(37, mkS ps_mem_areas qs_mem_areas F_mem_areas)] hintsF) fl 12 19 (encL true ps_mem_May x) [] (getR qs_mem_May k) = N_mem_May F_mem_areas fl R x k := by
  obtain ⟨⟨⟨x0Context_Size, x0Context_Write⟩, x0Maps⟩, x1⟩ := x; kernel_rfl
theorem S_mem_May {F_mem_areas : FT ps_mem_areas qs_mem_areas} (h_mem_areas : SpecOk Try.prog 37 (mkS ps_mem_areas qs_mem_areas F_mem_areas)) : SpecOk Try.prog 19 (mkS ps_mem_May qs_mem_May (N_mem_May F_mem_areas W.big)) :=
  specOk_mk (fl := W.big) (d := 12) (cfgOk_cons base h_mem_areas) (fun R x k => Q_mem_May W.big R x k)
noncomputable def F_mem_May : FT ps_mem_May qs_mem_May := N_mem_May F_mem_areas W.big
theorem ok_mem_May : SpecOk Try.prog 19 (mkS ps_mem_May qs_mem_May F_mem_May) := S_mem_May ok_mem_areas
abbrev ps_mem_Bytes : List PT := [.agg ((.prod ((.prod (.int .i64) (.bool))) (.slice ((.prod (.int .i64) (.bool)))))), .one (.slice (.slice (.int .u8))), .one (.int .u64), .one (.int .i64)]
abbrev qs_mem_Bytes : List PT := [.one (.slice (.int .u8)), .one (.int .i64)]
noncomputable def N_mem_Bytes (F_mem_Split : FT ps_mem_Split qs_mem_Split) (F_mem_Access : FT ps_mem_Access qs_mem_Access) (F_mem_May : FT ps_mem_May qs_mem_May)  : FT ps_mem_Bytes qs_mem_Bytes := fun R x k => match x with
  | (((x0Context_Size, x0Context_Write), x0Maps), x1, x2, x3) => 
      F_mem_May R (((x0Context_Size, x0Context_Write), x0Maps), x1) fun y =>
        br (W.not y) (k ([], 2))
          (F_mem_Access R (((x0Context_Size, x0Context_Write), x0Maps), x2, x3, false) fun y =>
            br (W.ne y 0) (k ([], y))
              (F_mem_Split R x2 fun y =>
                br (W.and2 (W.le 0 x3) (W.le (W.mul (W.ofNat 1) x3) 281474976710656))
                  (br (W.and2 (W.le 0 (W.wrap IntKind.i64 (W.sub y.1 1))) (W.lt (W.wrap IntKind.i64 (W.sub y.1 1)) (W.ofNat (W.len x1))))
                    (br (W.and2 (W.le 0 y.2) (W.le y.2 (W.ofNat (W.len (W.get x1 (W.toNat (W.wrap IntKind.i64 (W.sub y.1 1))) [])))))
                      (k
                        (W.over (W.rep (W.toNat x3) 0) 0
                            (W.slice
                              (W.slice (W.get x1 (W.toNat (W.wrap IntKind.i64 (W.sub y.1 1))) []) (W.toNat y.2) (W.subN (W.len (W.get x1 (W.toNat (W.wrap IntKind.i64 (W.sub y.1 1))) [])) (W.toNat y.2))) 0
                              (W.minN
                                (W.len
                                  (W.slice (W.get x1 (W.toNat (W.wrap IntKind.i64 (W.sub y.1 1))) []) (W.toNat y.2)
                                    (W.subN (W.len (W.get x1 (W.toNat (W.wrap IntKind.i64 (W.sub y.1 1))) [])) (W.toNat y.2))))
                                (W.toNat x3))),
                          0))
                      none)
                    none)
                  none))
theorem S_mem_Bytes {F_mem_Split : FT ps_mem_Split qs_mem_Split} {F_mem_Access : FT ps_mem_Access qs_mem_Access} {F_mem_May : FT ps_mem_May qs_mem_May} (h_mem_Split : SpecOk Try.prog 21 (mkS ps_mem_Split qs_mem_Split F_mem_Split)) (h_mem_Access : SpecOk Try.prog 15 (mkS ps_mem_Access qs_mem_Access F_mem_Access)) (h_mem_May : SpecOk Try.prog 19 (mkS ps_mem_May qs_mem_May F_mem_May)) : SpecOk Try.prog 13 (mkS ps_mem_Bytes qs_mem_Bytes (N_mem_Bytes F_mem_Split F_mem_Access F_mem_May)) :=
  specOk_mk (fl := 10) (d := 12) (cfgOk_cons (cfgOk_cons (cfgOk_cons base h_mem_May) h_mem_Access) h_mem_Split) (by rintro R ⟨⟨⟨x0Context_Size, x0Context_Write⟩, x0Maps⟩, x1, x2, x3⟩ k; kernel_rfl)
noncomputable def F_mem_Bytes : FT ps_mem_Bytes qs_mem_Bytes := N_mem_Bytes F_mem_Split F_mem_Access F_mem_May 
theorem ok_mem_Bytes : SpecOk Try.prog 13 (mkS ps_mem_Bytes qs_mem_Bytes F_mem_Bytes) := S_mem_Bytes ok_mem_Split ok_mem_Access ok_mem_May
abbrev ps_word_Size : List PT := [.one (.int .i64)]
abbrev qs_word_Size : List PT := [.one (.bool)]
noncomputable def N_word_Size   : FT ps_word_Size qs_word_Size := fun R x k => match x with
  | x0 => 
      k (W.pick (W.pick (W.gt x0 0) (W.le x0 8) false) (W.eq (W.wrap IntKind.i64 (W.and IntKind.i64 x0 (W.wrap IntKind.i64 (W.sub x0 1)))) 0) false)
theorem S_word_Size   : SpecOk Try.prog 40 (mkS ps_word_Size qs_word_Size (N_word_Size )) :=
  specOk_mk (fl := 10) (d := 12) base (by intro R x0 k; kernel_rfl)
noncomputable def F_word_Size : FT ps_word_Size qs_word_Size := N_word_Size  
theorem ok_word_Size : SpecOk Try.prog 40 (mkS ps_word_Size qs_word_Size F_word_Size) := S_word_Size 
abbrev ps_word_Get : List PT := [.one (.slice (.int .u8))]
abbrev qs_word_Get : List PT := [.one (.int .u64)]
noncomputable def PL_word_Get_5_0  (fl : Nat)  (R : Type) (k : PTs.D qs_word_Get → Option R) : LoopI R :=
  locate (Cw Try.prog [] hintsF) fl (call (Cw Try.prog [] hintsF) fl 11) 0 41 5 [] (getR qs_word_Get k)
noncomputable def P_word_Get_5_0  (fl : Nat)  (n : Nat) (R : Type) (y0 : Int) (y1 : Int) (y2 : List Int) (k : PTs.D qs_word_Get → Option R) : Option R :=
  loopH (PL_word_Get_5_0  fl  R k).body (PL_word_Get_5_0  fl  R k).head n (some (
      S.mk [V.any, V.any, V.any, V.parr 0 8 1, V.int IntKind.u64 y0, V.any, V.any, V.any, V.any, V.int IntKind.i64 y1, V.any, V.any, V.any, V.any, V.any, V.any, V.any, V.any, V.any, V.any, V.any, V.any] []
        [Blk.row (Ty.int IntKind.u8) y2])) (PL_word_Get_5_0  fl  R k).kont
theorem P_word_Get_5_0_s  (fl : Nat)  (n : Nat) (R : Type) (y0 : Int) (y1 : Int) (y2 : List Int) (k : PTs.D qs_word_Get → Option R) : P_word_Get_5_0  fl  (n + 1) R y0 y1 y2 k =
      br (W.lt y1 8)
        (br (W.and2 (W.le 0 (W.wrap IntKind.i64 (W.sub 7 y1))) (W.lt (W.wrap IntKind.i64 (W.sub 7 y1)) 8))
          (P_word_Get_5_0 fl n R (W.wrap IntKind.u64 (W.or IntKind.u64 (W.wrap IntKind.u64 (W.shl IntKind.u64 y0 8)) (W.wrap IntKind.u64 (W.get y2 (W.toNat (W.wrap IntKind.i64 (W.sub 7 y1))) 0))))
            (W.wrap IntKind.i64 (W.add y1 1)) y2 k)
          none)
        (k y0) := by kernel_rfl
noncomputable def N_word_Get  (fl : Nat) : FT ps_word_Get qs_word_Get := fun R x k => match x with
  | x0 => 
      P_word_Get_5_0 fl fl R 0 0 (W.over [0, 0, 0, 0, 0, 0, 0, 0] 0 (W.slice x0 0 (W.minN (W.len x0) 8))) k
theorem Q_word_Get  (fl : Nat) (R : Type) (x : PTs.D ps_word_Get) (k : PTs.D qs_word_Get → Option R) : call (Cw Try.prog [] hintsF) fl 12 41 (encL true ps_word_Get x) [] (getR qs_word_Get k) = N_word_Get  fl R x k := by
  kernel_rfl
theorem S_word_Get   : SpecOk Try.prog 41 (mkS ps_word_Get qs_word_Get (N_word_Get  W.big)) :=
  specOk_mk (fl := W.big) (d := 12) base (fun R x k => Q_word_Get W.big R x k)
noncomputable def F_word_Get : FT ps_word_Get qs_word_Get := N_word_Get  W.big
theorem ok_word_Get : SpecOk Try.prog 41 (mkS ps_word_Get qs_word_Get F_word_Get) := S_word_Get 
abbrev ps_mem_Load : List PT := [.agg ((.prod ((.prod (.int .i64) (.bool))) (.slice ((.prod (.int .i64) (.bool)))))), .one (.slice (.slice (.int .u8))), .one (.int .u64), .one (.int .i64)]
abbrev qs_mem_Load : List PT := [.one (.int .u64), .one (.int .i64)]
noncomputable def N_mem_Load (F_mem_Bytes : FT ps_mem_Bytes qs_mem_Bytes) (F_word_Size : FT ps_word_Size qs_word_Size) (F_word_Get : FT ps_word_Get qs_word_Get)  : FT ps_mem_Load qs_mem_Load := fun R x k => match x with
  | (((x0Context_Size, x0Context_Write), x0Maps), x1, x2, x3) => 
      F_word_Size R x3 fun y => br (W.not y) (k (0, 2)) (F_mem_Bytes R (((x0Context_Size, x0Context_Write), x0Maps), x1, x2, x3) fun y => F_word_Get R y.1 fun y_1 => k (y_1, y.2))
theorem S_mem_Load {F_mem_Bytes : FT ps_mem_Bytes qs_mem_Bytes} {F_word_Size : FT ps_word_Size qs_word_Size} {F_word_Get : FT ps_word_Get qs_word_Get} (h_mem_Bytes : SpecOk Try.prog 13 (mkS ps_mem_Bytes qs_mem_Bytes F_mem_Bytes)) (h_word_Size : SpecOk Try.prog 40 (mkS ps_word_Size qs_word_Size F_word_Size)) (h_word_Get : SpecOk Try.prog 41 (mkS ps_word_Get qs_word_Get F_word_Get)) : SpecOk Try.prog 26 (mkS ps_mem_Load qs_mem_Load (N_mem_Load F_mem_Bytes F_word_Size F_word_Get)) :=
  specOk_mk (fl := 10) (d := 12) (cfgOk_cons (cfgOk_cons (cfgOk_cons base h_word_Get) h_word_Size) h_mem_Bytes) (by rintro R ⟨⟨⟨x0Context_Size, x0Context_Write⟩, x0Maps⟩, x1, x2, x3⟩ k; kernel_rfl)
noncomputable def F_mem_Load : FT ps_mem_Load qs_mem_Load := N_mem_Load F_mem_Bytes F_word_Size F_word_Get 
theorem ok_mem_Load : SpecOk Try.prog 26 (mkS ps_mem_Load qs_mem_Load F_mem_Load) := S_mem_Load ok_mem_Bytes ok_word_Size ok_word_Get
abbrev ps_mem_copied : List PT := [.one (.slice (.slice (.int .u8)))]
abbrev qs_mem_copied : List PT := [.owns (.int .u8)]
noncomputable def PL_mem_copied_3_0  (fl : Nat)  (R : Type) (k : PTs.D qs_mem_copied → Option R) : LoopI R :=
  locate (Cw Try.prog [] hintsF) fl (call (Cw Try.prog [] hintsF) fl 11) 0 45 3 [] (getR qs_mem_copied k)
noncomputable def P_mem_copied_3_0  (fl : Nat)  (n : Nat) (R : Type) (y0 : List (List Int)) (y1 : Nat) (y2 : Int) (y3 : Int) (y4 : List (List Int)) (k : PTs.D qs_mem_copied → Option R) : Option R :=
  loopH (PL_mem_copied_3_0  fl  R k).body (PL_mem_copied_3_0  fl  R k).head n (some (
      S.mk
        [V.ro true (Ty.slice (Ty.int IntKind.u8)) y0, V.any, V.any, V.sl 0 1 y1, V.any, V.any, V.any, V.any, V.any, V.int IntKind.i64 y2, V.int IntKind.i64 y3, V.any, V.any, V.any, V.any, V.any, V.any,
          V.any, V.any, V.any, V.any, V.any, V.any, V.any, V.any, V.any, V.any, V.any, V.any, V.any, V.any, V.any, V.any]
        [] [Blk.rows (Ty.int IntKind.u8) y4])) (PL_mem_copied_3_0  fl  R k).kont
theorem P_mem_copied_3_0_s  (fl : Nat)  (n : Nat) (R : Type) (y0 : List (List Int)) (y1 : Nat) (y2 : Int) (y3 : Int) (y4 : List (List Int)) (k : PTs.D qs_mem_copied → Option R) : P_mem_copied_3_0  fl  (n + 1) R y0 y1 y2 y3 y4 k =
      br (W.lt y3 y2)
        (br (W.and2 (W.le 0 y3) (W.lt y3 (W.ofNat (W.len y0))))
          (br (W.and2 (W.le 0 (W.ofNat (W.len (W.get y0 (W.toNat y3) [])))) (W.le (W.mul 1 (W.ofNat (W.len (W.get y0 (W.toNat y3) [])))) 281474976710656))
            (br (W.and2 (W.le 0 y3) (W.lt y3 (W.ofNat y1)))
              (br (W.and2 (W.le 0 y3) (W.lt y3 (W.ofNat y1)))
                (br (W.and2 (W.le 0 y3) (W.lt y3 (W.ofNat (W.len y0))))
                  (P_mem_copied_3_0 fl n R y0 y1 y2 (W.wrap IntKind.i64 (W.add y3 1))
                    (W.set (W.set y4 (W.toNat y3) (W.rep (W.toNat (W.ofNat (W.len (W.get y0 (W.toNat y3) [])))) 0)) (W.toNat y3)
                      (W.over (W.get (W.set y4 (W.toNat y3) (W.rep (W.toNat (W.ofNat (W.len (W.get y0 (W.toNat y3) [])))) 0)) (W.toNat y3) []) 0
                        (W.slice (W.get y0 (W.toNat y3) []) 0
                          (W.minN (W.len (W.get y0 (W.toNat y3) [])) (W.len (W.get (W.set y4 (W.toNat y3) (W.rep (W.toNat (W.ofNat (W.len (W.get y0 (W.toNat y3) [])))) 0)) (W.toNat y3) []))))))
                    k)
                  none)
                none)
              none)
            none)
          none)
        (k y4) := by kernel_rfl
noncomputable def N_mem_copied  (fl : Nat) : FT ps_mem_copied qs_mem_copied := fun R x k => match x with
  | x0 => 
      br (W.and2 (W.le 0 (W.ofNat (W.len x0))) (W.le (W.mul 24 (W.ofNat (W.len x0))) 281474976710656))
        (P_mem_copied_3_0 fl fl R x0 (W.toNat (W.ofNat (W.len x0))) (W.ofNat (W.len x0)) 0 (W.rep (W.toNat (W.ofNat (W.len x0))) []) k) none
theorem Q_mem_copied  (fl : Nat) (R : Type) (x : PTs.D ps_mem_copied) (k : PTs.D qs_mem_copied → Option R) : call (Cw Try.prog [] hintsF) fl 12 45 (encL true ps_mem_copied x) [] (getR qs_mem_copied k) = N_mem_copied  fl R x k := by
  kernel_rfl
theorem S_mem_copied   : SpecOk Try.prog 45 (mkS ps_mem_copied qs_mem_copied (N_mem_copied  W.big)) :=
  specOk_mk (fl := W.big) (d := 12) base (fun R x k => Q_mem_copied W.big R x k)
noncomputable def F_mem_copied : FT ps_mem_copied qs_mem_copied := N_mem_copied  W.big
theorem ok_mem_copied : SpecOk Try.prog 45 (mkS ps_mem_copied qs_mem_copied F_mem_copied) := S_mem_copied 
abbrev ps_mem_Fill : List PT := [.agg ((.prod ((.prod (.int .i64) (.bool))) (.slice ((.prod (.int .i64) (.bool)))))), .one (.slice (.slice (.int .u8))), .one (.int .u64), .one (.slice (.int .u8))]
abbrev qs_mem_Fill : List PT := [.one (.slice (.slice (.int .u8))), .one (.int .i64)]
noncomputable def N_mem_Fill (F_mem_Split : FT ps_mem_Split qs_mem_Split) (F_mem_Access : FT ps_mem_Access qs_mem_Access) (F_mem_May : FT ps_mem_May qs_mem_May) (F_mem_copied : FT ps_mem_copied qs_mem_copied)  : FT ps_mem_Fill qs_mem_Fill := fun R x k => match x with
  | (((x0Context_Size, x0Context_Write), x0Maps), x1, x2, x3) => 
      F_mem_May R (((x0Context_Size, x0Context_Write), x0Maps), x1) fun y =>
        br (W.not y) (k ([], 2))
          (F_mem_Access R (((x0Context_Size, x0Context_Write), x0Maps), x2, W.ofNat (W.len x3), true) fun y =>
            br (W.ne y 0) (k ([], y))
              (F_mem_Split R x2 fun y =>
                F_mem_copied R x1 fun y_1 =>
                  br (W.and2 (W.le 0 (W.wrap IntKind.i64 (W.sub y.1 1))) (W.lt (W.wrap IntKind.i64 (W.sub y.1 1)) (W.ofNat (W.len y_1))))
                    (br (W.and2 (W.le 0 y.2) (W.le y.2 (W.ofNat (W.len (W.get y_1 (W.toNat (W.wrap IntKind.i64 (W.sub y.1 1))) [])))))
                      (k
                        (W.set y_1 (W.toNat (W.wrap IntKind.i64 (W.sub y.1 1)))
                            (W.over (W.get y_1 (W.toNat (W.wrap IntKind.i64 (W.sub y.1 1))) []) (W.addN 0 (W.toNat y.2))
                              (W.slice x3 0 (W.minN (W.len x3) (W.subN (W.len (W.get y_1 (W.toNat (W.wrap IntKind.i64 (W.sub y.1 1))) [])) (W.toNat y.2))))),
                          0))
                      none)
                    none))
theorem S_mem_Fill {F_mem_Split : FT ps_mem_Split qs_mem_Split} {F_mem_Access : FT ps_mem_Access qs_mem_Access} {F_mem_May : FT ps_mem_May qs_mem_May} {F_mem_copied : FT ps_mem_copied qs_mem_copied} (h_mem_Split : SpecOk Try.prog 21 (mkS ps_mem_Split qs_mem_Split F_mem_Split)) (h_mem_Access : SpecOk Try.prog 15 (mkS ps_mem_Access qs_mem_Access F_mem_Access)) (h_mem_May : SpecOk Try.prog 19 (mkS ps_mem_May qs_mem_May F_mem_May)) (h_mem_copied : SpecOk Try.prog 45 (mkS ps_mem_copied qs_mem_copied F_mem_copied)) : SpecOk Try.prog 33 (mkS ps_mem_Fill qs_mem_Fill (N_mem_Fill F_mem_Split F_mem_Access F_mem_May F_mem_copied)) :=
  specOk_mk (fl := 10) (d := 12) (cfgOk_cons (cfgOk_cons (cfgOk_cons (cfgOk_cons base h_mem_copied) h_mem_May) h_mem_Access) h_mem_Split) (by rintro R ⟨⟨⟨x0Context_Size, x0Context_Write⟩, x0Maps⟩, x1, x2, x3⟩ k; kernel_rfl)
noncomputable def F_mem_Fill : FT ps_mem_Fill qs_mem_Fill := N_mem_Fill F_mem_Split F_mem_Access F_mem_May F_mem_copied 
theorem ok_mem_Fill : SpecOk Try.prog 33 (mkS ps_mem_Fill qs_mem_Fill F_mem_Fill) := S_mem_Fill ok_mem_Split ok_mem_Access ok_mem_May ok_mem_copied
abbrev ps_word_Put : List PT := [.one (.int .u64), .one (.int .i64)]
abbrev qs_word_Put : List PT := [.one (.slice (.int .u8))]
noncomputable def PL_word_Put_5_0 (F_word_Size : FT ps_word_Size qs_word_Size) (fl : Nat)  (R : Type) (k : PTs.D qs_word_Put → Option R) : LoopI R :=
  locate (Cw Try.prog [(40, mkS ps_word_Size qs_word_Size F_word_Size)] hintsF) fl (call (Cw Try.prog [(40, mkS ps_word_Size qs_word_Size F_word_Size)] hintsF) fl 11) 0 44 5 [] (getR qs_word_Put k)
noncomputable def P_word_Put_5_0 (F_word_Size : FT ps_word_Size qs_word_Size) (fl : Nat)  (n : Nat) (R : Type) (y0 : Int) (y1 : Int) (y2 : Int) (y3 : List Int) (k : PTs.D qs_word_Put → Option R) : Option R :=
  loopH (PL_word_Put_5_0 F_word_Size fl  R k).body (PL_word_Put_5_0 F_word_Size fl  R k).head n (some (
      S.mk
        [V.int IntKind.u64 y0, V.int IntKind.i64 y1, V.any, V.any, V.any, V.parr 0 8 1, V.any, V.any, V.any, V.any, V.int IntKind.i64 y2, V.any, V.any, V.any, V.any, V.any, V.any, V.any, V.any, V.any,
          V.any, V.any, V.any, V.any]
        [] [Blk.row (Ty.int IntKind.u8) y3])) (PL_word_Put_5_0 F_word_Size fl  R k).kont
theorem P_word_Put_5_0_s {F_word_Size : FT ps_word_Size qs_word_Size} (fl : Nat)  (n : Nat) (R : Type) (y0 : Int) (y1 : Int) (y2 : Int) (y3 : List Int) (k : PTs.D qs_word_Put → Option R) : P_word_Put_5_0 F_word_Size fl  (n + 1) R y0 y1 y2 y3 k =
      br (W.lt y2 8)
        (br (W.lt (W.wrap IntKind.i64 (W.mul 8 y2)) 0) none
          (br (W.and2 (W.le 0 y2) (W.lt y2 8))
            (P_word_Put_5_0 F_word_Size fl n R y0 y1 (W.wrap IntKind.i64 (W.add y2 1)) (W.set y3 (W.toNat y2) (W.wrap IntKind.u8 (W.shr IntKind.u64 y0 (W.wrap IntKind.i64 (W.mul 8 y2))))) k) none))
        (br (W.and2 (W.le 0 y1) (W.and2 (W.le y1 y1) (W.le y1 8))) (k (W.slice y3 0 (W.toNat y1))) none) := by kernel_rfl
noncomputable def N_word_Put (F_word_Size : FT ps_word_Size qs_word_Size) (fl : Nat) : FT ps_word_Put qs_word_Put := fun R x k => match x with
  | (x0, x1) => 
      F_word_Size R x1 fun y => br (W.not y) (k []) (P_word_Put_5_0 F_word_Size fl fl R x0 x1 0 [0, 0, 0, 0, 0, 0, 0, 0] k)
theorem Q_word_Put {F_word_Size : FT ps_word_Size qs_word_Size} (fl : Nat) (R : Type) (x : PTs.D ps_word_Put) (k : PTs.D qs_word_Put → Option R) : call (Cw Try.prog [(40, mkS ps_word_Size qs_word_Size F_word_Size)] hintsF) fl 12 44 (encL true ps_word_Put x) [] (getR qs_word_Put k) = N_word_Put F_word_Size fl R x k := by
  obtain ⟨x0, x1⟩ := x; kernel_rfl
theorem S_word_Put {F_word_Size : FT ps_word_Size qs_word_Size} (h_word_Size : SpecOk Try.prog 40 (mkS ps_word_Size qs_word_Size F_word_Size)) : SpecOk Try.prog 44 (mkS ps_word_Put qs_word_Put (N_word_Put F_word_Size W.big)) :=
  specOk_mk (fl := W.big) (d := 12) (cfgOk_cons base h_word_Size) (fun R x k => Q_word_Put W.big R x k)
noncomputable def F_word_Put : FT ps_word_Put qs_word_Put := N_word_Put F_word_Size W.big
theorem ok_word_Put : SpecOk Try.prog 44 (mkS ps_word_Put qs_word_Put F_word_Put) := S_word_Put ok_word_Size
abbrev ps_mem_Store : List PT := [.agg ((.prod ((.prod (.int .i64) (.bool))) (.slice ((.prod (.int .i64) (.bool)))))), .one (.slice (.slice (.int .u8))), .one (.int .u64), .one (.int .i64), .one (.int .u64)]
abbrev qs_mem_Store : List PT := [.one (.slice (.slice (.int .u8))), .one (.int .i64)]
noncomputable def N_mem_Store (F_word_Size : FT ps_word_Size qs_word_Size) (F_mem_Fill : FT ps_mem_Fill qs_mem_Fill) (F_word_Put : FT ps_word_Put qs_word_Put)  : FT ps_mem_Store qs_mem_Store := fun R x k => match x with
  | (((x0Context_Size, x0Context_Write), x0Maps), x1, x2, x3, x4) => 
      F_word_Size R x3 fun y => br (W.not y) (k ([], 2)) (F_word_Put R (x4, x3) fun y => F_mem_Fill R (((x0Context_Size, x0Context_Write), x0Maps), x1, x2, y) fun y => k (y.1, y.2))
theorem S_mem_Store {F_word_Size : FT ps_word_Size qs_word_Size} {F_mem_Fill : FT ps_mem_Fill qs_mem_Fill} {F_word_Put : FT ps_word_Put qs_word_Put} (h_word_Size : SpecOk Try.prog 40 (mkS ps_word_Size qs_word_Size F_word_Size)) (h_mem_Fill : SpecOk Try.prog 33 (mkS ps_mem_Fill qs_mem_Fill F_mem_Fill)) (h_word_Put : SpecOk Try.prog 44 (mkS ps_word_Put qs_word_Put F_word_Put)) : SpecOk Try.prog 31 (mkS ps_mem_Store qs_mem_Store (N_mem_Store F_word_Size F_mem_Fill F_word_Put)) :=
  specOk_mk (fl := 10) (d := 12) (cfgOk_cons (cfgOk_cons (cfgOk_cons base h_word_Put) h_mem_Fill) h_word_Size) (by rintro R ⟨⟨⟨x0Context_Size, x0Context_Write⟩, x0Maps⟩, x1, x2, x3, x4⟩ k; kernel_rfl)
noncomputable def F_mem_Store : FT ps_mem_Store qs_mem_Store := N_mem_Store F_word_Size F_mem_Fill F_word_Put 
theorem ok_mem_Store : SpecOk Try.prog 31 (mkS ps_mem_Store qs_mem_Store F_mem_Store) := S_mem_Store ok_word_Size ok_mem_Fill ok_word_Put
abbrev ps_clevislaw02heads : List PT := []
abbrev qs_clevislaw02heads : List PT := [.one (.bool)]
noncomputable def N_clevislaw02heads (F_mem_Fresh : FT ps_mem_Fresh qs_mem_Fresh) (F_mem_Address : FT ps_mem_Address qs_mem_Address) (F_mem_Access : FT ps_mem_Access qs_mem_Access) (F_mem_Load : FT ps_mem_Load qs_mem_Load) (F_mem_Store : FT ps_mem_Store qs_mem_Store)  : FT ps_clevislaw02heads qs_clevislaw02heads := fun R x k => match x with
  | () => 
      F_mem_Fresh R ((0, false), [(16, true)]) fun y =>
        F_mem_Address R (3, 4) fun y_1 =>
          F_mem_Store R (((0, false), [(16, true)]), y.1, y_1, 4, 16909060) fun y_2 =>
            F_mem_Address R (3, 5) fun y_3 =>
              F_mem_Load R (((0, false), [(16, true)]), y_2.1, y_3, 2) fun y_4 =>
                F_mem_Fresh R ((-1, false), []) fun y_5 =>
                  br (W.pick (W.pick (W.pick (W.pick (W.pick (W.eq y.2 0) (W.eq (W.ofNat (W.len y.1)) 3) false) (W.eq y_2.2 0) false) (W.eq y_4.1 515) false) (W.eq y_4.2 0) false) (W.eq y_5.2 22) false)
                    (F_mem_Address R (3, 12) fun y =>
                      F_mem_Access R (((0, false), [(16, true)]), y, 8, false) fun y =>
                        br (W.pick true (W.eq y 20) false) (F_mem_Address R (1, 0) fun y => F_mem_Access R (((0, false), [(16, true)]), y, 1, false) fun y => k (W.pick true (W.eq y 20) false)) (k false))
                    (k false)
theorem S_clevislaw02heads {F_mem_Fresh : FT ps_mem_Fresh qs_mem_Fresh} {F_mem_Address : FT ps_mem_Address qs_mem_Address} {F_mem_Access : FT ps_mem_Access qs_mem_Access} {F_mem_Load : FT ps_mem_Load qs_mem_Load} {F_mem_Store : FT ps_mem_Store qs_mem_Store} (h_mem_Fresh : SpecOk Try.prog 9 (mkS ps_mem_Fresh qs_mem_Fresh F_mem_Fresh)) (h_mem_Address : SpecOk Try.prog 14 (mkS ps_mem_Address qs_mem_Address F_mem_Address)) (h_mem_Access : SpecOk Try.prog 15 (mkS ps_mem_Access qs_mem_Access F_mem_Access)) (h_mem_Load : SpecOk Try.prog 26 (mkS ps_mem_Load qs_mem_Load F_mem_Load)) (h_mem_Store : SpecOk Try.prog 31 (mkS ps_mem_Store qs_mem_Store F_mem_Store)) : SpecOk Try.prog 12 (mkS ps_clevislaw02heads qs_clevislaw02heads (N_clevislaw02heads F_mem_Fresh F_mem_Address F_mem_Access F_mem_Load F_mem_Store)) :=
  specOk_mk (fl := 10) (d := 12) (cfgOk_cons (cfgOk_cons (cfgOk_cons (cfgOk_cons (cfgOk_cons base h_mem_Store) h_mem_Load) h_mem_Access) h_mem_Address) h_mem_Fresh) (by intro R x k; kernel_rfl)
noncomputable def F_clevislaw02heads : FT ps_clevislaw02heads qs_clevislaw02heads := N_clevislaw02heads F_mem_Fresh F_mem_Address F_mem_Access F_mem_Load F_mem_Store 
theorem ok_clevislaw02heads : SpecOk Try.prog 12 (mkS ps_clevislaw02heads qs_clevislaw02heads F_clevislaw02heads) := S_clevislaw02heads ok_mem_Fresh ok_mem_Address ok_mem_Access ok_mem_Load ok_mem_Store
abbrev ps_clevislaw02MemFresh : List PT := [.agg ((.prod ((.prod (.int .i64) (.bool))) (.slice ((.prod (.int .i64) (.bool)))))), .one (.int .i64), .one (.int .i64)]
noncomputable def PL_clevislaw02MemFresh_9_0 (F_mem_Check : FT ps_mem_Check qs_mem_Check) (F_mem_Fresh : FT ps_mem_Fresh qs_mem_Fresh) (F_mem_Area : FT ps_mem_Area qs_mem_Area) (F_mem_Address : FT ps_mem_Address qs_mem_Address) (F_mem_Access : FT ps_mem_Access qs_mem_Access) (F_mem_Bytes : FT ps_mem_Bytes qs_mem_Bytes) (F_clevislaw02heads : FT ps_clevislaw02heads qs_clevislaw02heads) (fl : Nat)  (R : Type)  : LoopI Unit :=
  locate (Cw Try.prog [(11, mkS ps_mem_Check qs_mem_Check F_mem_Check), (9, mkS ps_mem_Fresh qs_mem_Fresh F_mem_Fresh), (10, mkS ps_mem_Area qs_mem_Area F_mem_Area), (14, mkS ps_mem_Address qs_mem_Address F_mem_Address), (15, mkS ps_mem_Access qs_mem_Access F_mem_Access), (13, mkS ps_mem_Bytes qs_mem_Bytes F_mem_Bytes), (12, mkS ps_clevislaw02heads qs_clevislaw02heads F_clevislaw02heads)] hintsF) fl (call (Cw Try.prog [(11, mkS ps_mem_Check qs_mem_Check F_mem_Check), (9, mkS ps_mem_Fresh qs_mem_Fresh F_mem_Fresh), (10, mkS ps_mem_Area qs_mem_Area F_mem_Area), (14, mkS ps_mem_Address qs_mem_Address F_mem_Address), (15, mkS ps_mem_Access qs_mem_Access F_mem_Access), (13, mkS ps_mem_Bytes qs_mem_Bytes F_mem_Bytes), (12, mkS ps_clevislaw02heads qs_clevislaw02heads F_clevislaw02heads)] hintsF) fl 11) 0 3 9 [] getL
noncomputable def P_clevislaw02MemFresh_9_0 (F_mem_Check : FT ps_mem_Check qs_mem_Check) (F_mem_Fresh : FT ps_mem_Fresh qs_mem_Fresh) (F_mem_Area : FT ps_mem_Area qs_mem_Area) (F_mem_Address : FT ps_mem_Address qs_mem_Address) (F_mem_Access : FT ps_mem_Access qs_mem_Access) (F_mem_Bytes : FT ps_mem_Bytes qs_mem_Bytes) (F_clevislaw02heads : FT ps_clevislaw02heads qs_clevislaw02heads) (fl : Nat)  (n : Nat) (R : Type) (y0 : Int) (y1 : Int) (y2 : List Int) (y3 : Int) (y4 : Int) (y5 : Bool) (y6 : List (Int × Bool)) (y7 : Int) (y8 : Bool)  : Option Unit :=
  loopH (PL_clevislaw02MemFresh_9_0 F_mem_Check F_mem_Fresh F_mem_Area F_mem_Address F_mem_Access F_mem_Bytes F_clevislaw02heads fl  R ).body (PL_clevislaw02MemFresh_9_0 F_mem_Check F_mem_Fresh F_mem_Area F_mem_Address F_mem_Access F_mem_Bytes F_clevislaw02heads fl  R ).head n (some (
      S.mk
        [V.any, V.int IntKind.i64 y0, V.int IntKind.i64 y1, V.ptr 0 0, V.any, V.any, V.any, V.any, V.any, V.ptr 1 0, V.any, V.ro false (Ty.int IntKind.u8) y2, V.any, V.int IntKind.i64 y3, V.any, V.any,
          V.any, V.any, V.any, V.any, V.any, V.any, V.any, V.any, V.any, V.any, V.any, V.any, V.any, V.any, V.any, V.any, V.any, V.any, V.any, V.any, V.any, V.any, V.any, V.any, V.any, V.any, V.any, V.any,
          V.any, V.any, V.any, V.any, V.any, V.any, V.any, V.any, V.any, V.any, V.any, V.any, V.any, V.any, V.any, V.any, V.any, V.any, V.any, V.any, V.any, V.any, V.any, V.any, V.any, V.any, V.any, V.any,
          V.any, V.any, V.any, V.any, V.any, V.any, V.any, V.any, V.any, V.any, V.any, V.any, V.any, V.any, V.any, V.any, V.any, V.any, V.any, V.any, V.any, V.any, V.any, V.any, V.any, V.any, V.any]
        [] [Blk.cells [V.int IntKind.i64 y4, V.bool y5, V.ro false (Ty.prod (Ty.int IntKind.i64) Ty.bool) y6], Blk.cells [V.int IntKind.i64 y7, V.bool y8]])) (PL_clevislaw02MemFresh_9_0 F_mem_Check F_mem_Fresh F_mem_Area F_mem_Address F_mem_Access F_mem_Bytes F_clevislaw02heads fl  R ).kont
theorem P_clevislaw02MemFresh_9_0_s {F_mem_Check : FT ps_mem_Check qs_mem_Check} {F_mem_Fresh : FT ps_mem_Fresh qs_mem_Fresh} {F_mem_Area : FT ps_mem_Area qs_mem_Area} {F_mem_Address : FT ps_mem_Address qs_mem_Address} {F_mem_Access : FT ps_mem_Access qs_mem_Access} {F_mem_Bytes : FT ps_mem_Bytes qs_mem_Bytes} {F_clevislaw02heads : FT ps_clevislaw02heads qs_clevislaw02heads} (fl : Nat)  (n : Nat)  (y0 : Int) (y1 : Int) (y2 : List Int) (y3 : Int) (y4 : Int) (y5 : Bool) (y6 : List (Int × Bool)) (y7 : Int) (y8 : Bool)  : P_clevislaw02MemFresh_9_0 F_mem_Check F_mem_Fresh F_mem_Area F_mem_Address F_mem_Access F_mem_Bytes F_clevislaw02heads fl  (n + 1) Unit y0 y1 y2 y3 y4 y5 y6 y7 y8  =
      br (W.lt y3 (W.ofNat (W.len y2)))
        (br (W.and2 (W.le 0 y3) (W.lt y3 (W.ofNat (W.len y2))))
          (br (W.ne (W.get y2 (W.toNat y3) 0) 0) none
            (P_clevislaw02MemFresh_9_0 F_mem_Check F_mem_Fresh F_mem_Area F_mem_Address F_mem_Access F_mem_Bytes F_clevislaw02heads fl n Unit y0 y1 y2 (W.wrap IntKind.i64 (W.add y3 1)) y4 y5 y6 y7 y8))
          none)
        (F_mem_Address Unit (y0, y1) fun y =>
          F_mem_Access Unit (((y4, y5), y6), y, W.wrap IntKind.i64 (W.add (W.wrap IntKind.i64 (W.sub y7 y1)) 1), false) fun y =>
            br (W.ne y 0) (F_clevislaw02heads Unit () fun y => br (W.pick true y false) (some ()) none) none) := by kernel_rfl
noncomputable def L_clevislaw02MemFresh (F_mem_Check : FT ps_mem_Check qs_mem_Check) (F_mem_Fresh : FT ps_mem_Fresh qs_mem_Fresh) (F_mem_Area : FT ps_mem_Area qs_mem_Area) (F_mem_Address : FT ps_mem_Address qs_mem_Address) (F_mem_Access : FT ps_mem_Access qs_mem_Access) (F_mem_Bytes : FT ps_mem_Bytes qs_mem_Bytes) (F_clevislaw02heads : FT ps_clevislaw02heads qs_clevislaw02heads) (fl : Nat) (x : PTs.D ps_clevislaw02MemFresh) : Option Unit := match x with
  | (((x0Context_Size, x0Context_Write), x0Maps), x1, x2) => 
      F_mem_Fresh Unit ((x0Context_Size, x0Context_Write), x0Maps) fun y =>
        F_mem_Area Unit (((x0Context_Size, x0Context_Write), x0Maps), x1) fun y_1 =>
          br (W.pick (W.pick (W.pick (W.ne y.2 0) true (W.not y_1.2)) true (W.lt x2 0)) true (W.ge x2 y_1.1.1))
            (F_mem_Check Unit ((x0Context_Size, x0Context_Write), x0Maps) fun y_2 =>
              br (W.eqB (W.eq y.2 0) (W.eq y_2 0)) (F_clevislaw02heads Unit () fun y => br (W.pick true y false) (some ()) none) none)
            (F_mem_Address Unit (x1, x2) fun y_2 =>
              F_mem_Bytes Unit (((x0Context_Size, x0Context_Write), x0Maps), y.1, y_2, W.wrap IntKind.i64 (W.sub y_1.1.1 x2)) fun y =>
                br (W.pick (W.ne y.2 0) true (W.ne (W.ofNat (W.len y.1)) (W.wrap IntKind.i64 (W.sub y_1.1.1 x2)))) none
                  (P_clevislaw02MemFresh_9_0 F_mem_Check F_mem_Fresh F_mem_Area F_mem_Address F_mem_Access F_mem_Bytes F_clevislaw02heads fl fl Unit x1 x2 y.1 0 x0Context_Size x0Context_Write x0Maps y_1.1.1 y_1.1.2))
theorem Q_clevislaw02MemFresh {F_mem_Check : FT ps_mem_Check qs_mem_Check} {F_mem_Fresh : FT ps_mem_Fresh qs_mem_Fresh} {F_mem_Area : FT ps_mem_Area qs_mem_Area} {F_mem_Address : FT ps_mem_Address qs_mem_Address} {F_mem_Access : FT ps_mem_Access qs_mem_Access} {F_mem_Bytes : FT ps_mem_Bytes qs_mem_Bytes} {F_clevislaw02heads : FT ps_clevislaw02heads qs_clevislaw02heads} (fl : Nat) (x : PTs.D ps_clevislaw02MemFresh) : call (Cw Try.prog [(11, mkS ps_mem_Check qs_mem_Check F_mem_Check), (9, mkS ps_mem_Fresh qs_mem_Fresh F_mem_Fresh), (10, mkS ps_mem_Area qs_mem_Area F_mem_Area), (14, mkS ps_mem_Address qs_mem_Address F_mem_Address), (15, mkS ps_mem_Access qs_mem_Access F_mem_Access), (13, mkS ps_mem_Bytes qs_mem_Bytes F_mem_Bytes), (12, mkS ps_clevislaw02heads qs_clevislaw02heads F_clevislaw02heads)] hintsF) fl 12 3 (encL false ps_clevislaw02MemFresh x) [] getL = L_clevislaw02MemFresh F_mem_Check F_mem_Fresh F_mem_Area F_mem_Address F_mem_Access F_mem_Bytes F_clevislaw02heads fl x := by
  obtain ⟨⟨⟨x0Context_Size, x0Context_Write⟩, x0Maps⟩, x1, x2⟩ := x; kernel_rfl
theorem E_clevislaw02MemFresh {F_mem_Check : FT ps_mem_Check qs_mem_Check} {F_mem_Fresh : FT ps_mem_Fresh qs_mem_Fresh} {F_mem_Area : FT ps_mem_Area qs_mem_Area} {F_mem_Address : FT ps_mem_Address qs_mem_Address} {F_mem_Access : FT ps_mem_Access qs_mem_Access} {F_mem_Bytes : FT ps_mem_Bytes qs_mem_Bytes} {F_clevislaw02heads : FT ps_clevislaw02heads qs_clevislaw02heads} (h_mem_Check : SpecOk Try.prog 11 (mkS ps_mem_Check qs_mem_Check F_mem_Check)) (h_mem_Fresh : SpecOk Try.prog 9 (mkS ps_mem_Fresh qs_mem_Fresh F_mem_Fresh)) (h_mem_Area : SpecOk Try.prog 10 (mkS ps_mem_Area qs_mem_Area F_mem_Area)) (h_mem_Address : SpecOk Try.prog 14 (mkS ps_mem_Address qs_mem_Address F_mem_Address)) (h_mem_Access : SpecOk Try.prog 15 (mkS ps_mem_Access qs_mem_Access F_mem_Access)) (h_mem_Bytes : SpecOk Try.prog 13 (mkS ps_mem_Bytes qs_mem_Bytes F_mem_Bytes)) (h_clevislaw02heads : SpecOk Try.prog 12 (mkS ps_clevislaw02heads qs_clevislaw02heads F_clevislaw02heads)) (x : PTs.D ps_clevislaw02MemFresh) (fl : Nat) (hL : L_clevislaw02MemFresh F_mem_Check F_mem_Fresh F_mem_Area F_mem_Address F_mem_Access F_mem_Bytes F_clevislaw02heads fl x = some ()) :
    ∃ (C : Cfg) (fl d : Nat), CfgOk C ∧ C.P = Try.prog ∧ call C fl d 3 (encL false ps_clevislaw02MemFresh x) [] getL = some () :=
  ⟨_, fl, 12, (cfgOk_cons (cfgOk_cons (cfgOk_cons (cfgOk_cons (cfgOk_cons (cfgOk_cons (cfgOk_cons base h_clevislaw02heads) h_mem_Bytes) h_mem_Access) h_mem_Address) h_mem_Area) h_mem_Fresh) h_mem_Check), rfl, (Q_clevislaw02MemFresh fl x).trans hL⟩
abbrev ps_clevisref02Check : List PT := [.agg ((.prod ((.prod (.int .i64) (.bool))) (.slice ((.prod (.int .i64) (.bool))))))]
abbrev qs_clevisref02Check : List PT := [.one (.int .i64)]
noncomputable def PL_clevisref02Check_4_0  (fl : Nat)  (R : Type) (k : PTs.D qs_clevisref02Check → Option R) : LoopI R :=
  locate (Cw Try.prog [] hintsF) fl (call (Cw Try.prog [] hintsF) fl 11) 0 18 4 [] (getR qs_clevisref02Check k)
noncomputable def P_clevisref02Check_4_0  (fl : Nat)  (n : Nat) (R : Type) (y0 : Int) (y1 : Int) (y2 : Bool) (y3 : List (Int × Bool)) (k : PTs.D qs_clevisref02Check → Option R) : Option R :=
  loopH (PL_clevisref02Check_4_0  fl  R k).body (PL_clevisref02Check_4_0  fl  R k).head n (some (
      S.mk
        [V.any, V.ptr 0 0, V.any, V.int IntKind.i64 y0, V.any, V.any, V.any, V.any, V.any, V.any, V.any, V.any, V.any, V.any, V.any, V.any, V.any, V.any, V.any, V.any, V.any, V.any, V.any, V.any, V.any,
          V.any, V.any, V.any, V.any, V.any, V.any, V.any, V.any, V.any, V.any, V.any, V.any, V.any, V.any, V.any, V.any, V.any, V.any]
        [] [Blk.cells [V.int IntKind.i64 y1, V.bool y2, V.ro true (Ty.prod (Ty.int IntKind.i64) Ty.bool) y3]])) (PL_clevisref02Check_4_0  fl  R k).kont
theorem P_clevisref02Check_4_0_s  (fl : Nat)  (n : Nat) (R : Type) (y0 : Int) (y1 : Int) (y2 : Bool) (y3 : List (Int × Bool)) (k : PTs.D qs_clevisref02Check → Option R) : P_clevisref02Check_4_0  fl  (n + 1) R y0 y1 y2 y3 k =
      br (W.lt y0 (W.ofNat (W.len y3)))
        (br (W.and2 (W.le 0 y0) (W.lt y0 (W.ofNat (W.len y3))))
          (br (W.or2 (W.not (W.not (W.lt (W.get y3 (W.toNat y0) (0, false)).1 1))) (W.and2 (W.le 0 y0) (W.lt y0 (W.ofNat (W.len y3)))))
            (br (W.pick (W.lt (W.get y3 (W.toNat y0) (0, false)).1 1) true (W.gt (W.get y3 (W.toNat y0) (0, false)).1 4096)) (k 22) (P_clevisref02Check_4_0 fl n R (W.wrap IntKind.i64 (W.add y0 1)) y1 y2 y3 k)) none)
          none)
        (k 0) := by kernel_rfl
noncomputable def N_clevisref02Check  (fl : Nat) : FT ps_clevisref02Check qs_clevisref02Check := fun R x k => match x with
  | ((x0Context_Size, x0Context_Write), x0Maps) => 
      br (W.pick (W.pick (W.lt x0Context_Size 0) true (W.gt x0Context_Size 4096)) true (W.gt (W.ofNat (W.len x0Maps)) 8)) (k 22) (P_clevisref02Check_4_0 fl fl R 0 x0Context_Size x0Context_Write x0Maps k)
theorem Q_clevisref02Check  (fl : Nat) (R : Type) (x : PTs.D ps_clevisref02Check) (k : PTs.D qs_clevisref02Check → Option R) : call (Cw Try.prog [] hintsF) fl 12 18 (encL true ps_clevisref02Check x) [] (getR qs_clevisref02Check k) = N_clevisref02Check  fl R x k := by
  obtain ⟨⟨x0Context_Size, x0Context_Write⟩, x0Maps⟩ := x; kernel_rfl
theorem S_clevisref02Check   : SpecOk Try.prog 18 (mkS ps_clevisref02Check qs_clevisref02Check (N_clevisref02Check  W.big)) :=
  specOk_mk (fl := W.big) (d := 12) base (fun R x k => Q_clevisref02Check W.big R x k)
noncomputable def F_clevisref02Check : FT ps_clevisref02Check qs_clevisref02Check := N_clevisref02Check  W.big
theorem ok_clevisref02Check : SpecOk Try.prog 18 (mkS ps_clevisref02Check qs_clevisref02Check F_clevisref02Check) := S_clevisref02Check 
abbrev ps_clevisref02Area : List PT := [.agg ((.prod ((.prod (.int .i64) (.bool))) (.slice ((.prod (.int .i64) (.bool)))))), .one (.int .i64)]
abbrev qs_clevisref02Area : List PT := [.agg ((.prod (.int .i64) (.bool))), .one (.bool)]
noncomputable def N_clevisref02Area (F_clevisref02Check : FT ps_clevisref02Check qs_clevisref02Check)  : FT ps_clevisref02Area qs_clevisref02Area := fun R x k => match x with
  | (((x0Context_Size, x0Context_Write), x0Maps), x1) => 
      F_clevisref02Check R ((x0Context_Size, x0Context_Write), x0Maps) fun y =>
        br (W.ne y 0) (k ((0, false), false))
          (br (W.eq x1 1) (k ((x0Context_Size, x0Context_Write), true))
            (br (W.eq x1 2) (k ((512, true), true))
              (br (W.pick (W.ge x1 3) (W.lt x1 (W.wrap IntKind.i64 (W.add 3 (W.ofNat (W.len x0Maps))))) false)
                (br (W.and2 (W.le 0 (W.wrap IntKind.i64 (W.sub x1 3))) (W.lt (W.wrap IntKind.i64 (W.sub x1 3)) (W.ofNat (W.len x0Maps))))
                  (k (((W.get x0Maps (W.toNat (W.wrap IntKind.i64 (W.sub x1 3))) (0, false)).1, (W.get x0Maps (W.toNat (W.wrap IntKind.i64 (W.sub x1 3))) (0, false)).2), true)) none)
                (k ((0, false), false)))))
theorem S_clevisref02Area {F_clevisref02Check : FT ps_clevisref02Check qs_clevisref02Check} (h_clevisref02Check : SpecOk Try.prog 18 (mkS ps_clevisref02Check qs_clevisref02Check F_clevisref02Check)) : SpecOk Try.prog 23 (mkS ps_clevisref02Area qs_clevisref02Area (N_clevisref02Area F_clevisref02Check)) :=
  specOk_mk (fl := 10) (d := 12) (cfgOk_cons base h_clevisref02Check) (by rintro R ⟨⟨⟨x0Context_Size, x0Context_Write⟩, x0Maps⟩, x1⟩ k; kernel_rfl)
noncomputable def F_clevisref02Area : FT ps_clevisref02Area qs_clevisref02Area := N_clevisref02Area F_clevisref02Check 
theorem ok_clevisref02Area : SpecOk Try.prog 23 (mkS ps_clevisref02Area qs_clevisref02Area F_clevisref02Area) := S_clevisref02Area ok_clevisref02Check
abbrev ps_clevisref02Fresh : List PT := [.agg ((.prod ((.prod (.int .i64) (.bool))) (.slice ((.prod (.int .i64) (.bool))))))]
abbrev qs_clevisref02Fresh : List PT := [.one (.slice (.slice (.int .u8))), .one (.int .i64)]
noncomputable def PL_clevisref02Fresh_5_0 (F_clevisref02Check : FT ps_clevisref02Check qs_clevisref02Check) (F_clevisref02Area : FT ps_clevisref02Area qs_clevisref02Area) (fl : Nat)  (R : Type) (k : PTs.D qs_clevisref02Fresh → Option R) : LoopI R :=
  locate (Cw Try.prog [(18, mkS ps_clevisref02Check qs_clevisref02Check F_clevisref02Check), (23, mkS ps_clevisref02Area qs_clevisref02Area F_clevisref02Area)] hintsF) fl (call (Cw Try.prog [(18, mkS ps_clevisref02Check qs_clevisref02Check F_clevisref02Check), (23, mkS ps_clevisref02Area qs_clevisref02Area F_clevisref02Area)] hintsF) fl 11) 0 16 5 [] (getR qs_clevisref02Fresh k)
noncomputable def P_clevisref02Fresh_5_0 (F_clevisref02Check : FT ps_clevisref02Check qs_clevisref02Check) (F_clevisref02Area : FT ps_clevisref02Area qs_clevisref02Area) (fl : Nat)  (n : Nat) (R : Type) (y0 : Nat) (y1 : Int) (y2 : Int) (y3 : Bool) (y4 : List (Int × Bool)) (y5 : List (List Int)) (k : PTs.D qs_clevisref02Fresh → Option R) : Option R :=
  loopH (PL_clevisref02Fresh_5_0 F_clevisref02Check F_clevisref02Area fl  R k).body (PL_clevisref02Fresh_5_0 F_clevisref02Check F_clevisref02Area fl  R k).head n (some (
      S.mk
        [V.any, V.ptr 0 0, V.any, V.any, V.sl 1 1 y0, V.int IntKind.i64 y1, V.any, V.any, V.any, V.any, V.any, V.any, V.any, V.any, V.any, V.any, V.any, V.any, V.any, V.any, V.any, V.any, V.any, V.any,
          V.any, V.any, V.any, V.any, V.any, V.any, V.any, V.any, V.any]
        [] [Blk.cells [V.int IntKind.i64 y2, V.bool y3, V.ro true (Ty.prod (Ty.int IntKind.i64) Ty.bool) y4], Blk.rows (Ty.int IntKind.u8) y5])) (PL_clevisref02Fresh_5_0 F_clevisref02Check F_clevisref02Area fl  R k).kont
theorem P_clevisref02Fresh_5_0_s {F_clevisref02Check : FT ps_clevisref02Check qs_clevisref02Check} {F_clevisref02Area : FT ps_clevisref02Area qs_clevisref02Area} (fl : Nat)  (n : Nat) (R : Type) (y0 : Nat) (y1 : Int) (y2 : Int) (y3 : Bool) (y4 : List (Int × Bool)) (y5 : List (List Int)) (k : PTs.D qs_clevisref02Fresh → Option R) : P_clevisref02Fresh_5_0 F_clevisref02Check F_clevisref02Area fl  (n + 1) R y0 y1 y2 y3 y4 y5 k =
      br (W.lt y1 (W.wrap IntKind.i64 (W.add 2 (W.ofNat (W.len y4)))))
        (F_clevisref02Area R (((y2, y3), y4), W.wrap IntKind.i64 (W.add y1 1)) fun y =>
          br (W.and2 (W.le 0 y.1.1) (W.le (W.mul (W.ofNat 1) y.1.1) 281474976710656))
            (br (W.leN (W.mulN (W.addN y0 1) 24) 140737488355328)
              (P_clevisref02Fresh_5_0 F_clevisref02Check F_clevisref02Area fl n R (W.addN y0 1) (W.wrap IntKind.i64 (W.add y1 1)) y2 y3 y4 (W.app y5 [W.rep (W.toNat y.1.1) 0]) k) none)
            none)
        (k (y5, 0)) := by kernel_rfl
noncomputable def N_clevisref02Fresh (F_clevisref02Check : FT ps_clevisref02Check qs_clevisref02Check) (F_clevisref02Area : FT ps_clevisref02Area qs_clevisref02Area) (fl : Nat) : FT ps_clevisref02Fresh qs_clevisref02Fresh := fun R x k => match x with
  | ((x0Context_Size, x0Context_Write), x0Maps) => 
      F_clevisref02Check R ((x0Context_Size, x0Context_Write), x0Maps) fun y =>
        br (W.ne y 0) (k ([], 22)) (P_clevisref02Fresh_5_0 F_clevisref02Check F_clevisref02Area fl fl R 0 0 x0Context_Size x0Context_Write x0Maps [] k)
theorem Q_clevisref02Fresh {F_clevisref02Check : FT ps_clevisref02Check qs_clevisref02Check} {F_clevisref02Area : FT ps_clevisref02Area qs_clevisref02Area} (fl : Nat) (R : Type) (x : PTs.D ps_clevisref02Fresh) (k : PTs.D qs_clevisref02Fresh → Option R) : call (Cw Try.prog [(18, mkS ps_clevisref02Check qs_clevisref02Check F_clevisref02Check), (23, mkS ps_clevisref02Area qs_clevisref02Area F_clevisref02Area)] hintsF) fl 12 16 (encL true ps_clevisref02Fresh x) [] (getR qs_clevisref02Fresh k) = N_clevisref02Fresh F_clevisref02Check F_clevisref02Area fl R x k := by
  obtain ⟨⟨x0Context_Size, x0Context_Write⟩, x0Maps⟩ := x; kernel_rfl
theorem S_clevisref02Fresh {F_clevisref02Check : FT ps_clevisref02Check qs_clevisref02Check} {F_clevisref02Area : FT ps_clevisref02Area qs_clevisref02Area} (h_clevisref02Check : SpecOk Try.prog 18 (mkS ps_clevisref02Check qs_clevisref02Check F_clevisref02Check)) (h_clevisref02Area : SpecOk Try.prog 23 (mkS ps_clevisref02Area qs_clevisref02Area F_clevisref02Area)) : SpecOk Try.prog 16 (mkS ps_clevisref02Fresh qs_clevisref02Fresh (N_clevisref02Fresh F_clevisref02Check F_clevisref02Area W.big)) :=
  specOk_mk (fl := W.big) (d := 12) (cfgOk_cons (cfgOk_cons base h_clevisref02Area) h_clevisref02Check) (fun R x k => Q_clevisref02Fresh W.big R x k)
noncomputable def F_clevisref02Fresh : FT ps_clevisref02Fresh qs_clevisref02Fresh := N_clevisref02Fresh F_clevisref02Check F_clevisref02Area W.big
theorem ok_clevisref02Fresh : SpecOk Try.prog 16 (mkS ps_clevisref02Fresh qs_clevisref02Fresh F_clevisref02Fresh) := S_clevisref02Fresh ok_clevisref02Check ok_clevisref02Area
abbrev ps_clevisref01Same : List PT := [.one (.slice (.int .u8)), .one (.slice (.int .u8))]
abbrev qs_clevisref01Same : List PT := [.one (.bool)]
noncomputable def N_clevisref01Same   : FT ps_clevisref01Same qs_clevisref01Same := fun R x k => match x with
  | (x0, x1) => 
      br (W.leN (W.len x0) 140737488355328) (br (W.leN (W.len x1) 140737488355328) (k (W.eqS (W.bytes x0) (W.bytes x1))) none) none
theorem S_clevisref01Same   : SpecOk Try.prog 29 (mkS ps_clevisref01Same qs_clevisref01Same (N_clevisref01Same )) :=
  specOk_mk (fl := 10) (d := 12) base (by rintro R ⟨x0, x1⟩ k; kernel_rfl)
noncomputable def F_clevisref01Same : FT ps_clevisref01Same qs_clevisref01Same := N_clevisref01Same  
theorem ok_clevisref01Same : SpecOk Try.prog 29 (mkS ps_clevisref01Same qs_clevisref01Same F_clevisref01Same) := S_clevisref01Same 
abbrev ps_clevisref02Same : List PT := [.one (.slice (.slice (.int .u8))), .one (.slice (.slice (.int .u8)))]
abbrev qs_clevisref02Same : List PT := [.one (.bool)]
noncomputable def PL_clevisref02Same_4_0 (F_clevisref01Same : FT ps_clevisref01Same qs_clevisref01Same) (fl : Nat)  (R : Type) (k : PTs.D qs_clevisref02Same → Option R) : LoopI R :=
  locate (Cw Try.prog [(29, mkS ps_clevisref01Same qs_clevisref01Same F_clevisref01Same)] hintsF) fl (call (Cw Try.prog [(29, mkS ps_clevisref01Same qs_clevisref01Same F_clevisref01Same)] hintsF) fl 11) 0 17 4 [] (getR qs_clevisref02Same k)
noncomputable def P_clevisref02Same_4_0 (F_clevisref01Same : FT ps_clevisref01Same qs_clevisref01Same) (fl : Nat)  (n : Nat) (R : Type) (y0 : List (List Int)) (y1 : List (List Int)) (y2 : Int) (k : PTs.D qs_clevisref02Same → Option R) : Option R :=
  loopH (PL_clevisref02Same_4_0 F_clevisref01Same fl  R k).body (PL_clevisref02Same_4_0 F_clevisref01Same fl  R k).head n (some (
      S.mk
        [V.ro true (Ty.slice (Ty.int IntKind.u8)) y0, V.ro true (Ty.slice (Ty.int IntKind.u8)) y1, V.any, V.any, V.any, V.int IntKind.i64 y2, V.any, V.any, V.any, V.any, V.any, V.any, V.any, V.any, V.any,
          V.any, V.any, V.any, V.any, V.any, V.any, V.any, V.any, V.any, V.any, V.any, V.any]
        [] [])) (PL_clevisref02Same_4_0 F_clevisref01Same fl  R k).kont
theorem P_clevisref02Same_4_0_s {F_clevisref01Same : FT ps_clevisref01Same qs_clevisref01Same} (fl : Nat)  (n : Nat) (R : Type) (y0 : List (List Int)) (y1 : List (List Int)) (y2 : Int) (k : PTs.D qs_clevisref02Same → Option R) : P_clevisref02Same_4_0 F_clevisref01Same fl  (n + 1) R y0 y1 y2 k =
      br (W.lt y2 (W.ofNat (W.len y0)))
        (br (W.and2 (W.le 0 y2) (W.lt y2 (W.ofNat (W.len y0))))
          (br (W.and2 (W.le 0 y2) (W.lt y2 (W.ofNat (W.len y1))))
            (F_clevisref01Same R (W.get y0 (W.toNat y2) [], W.get y1 (W.toNat y2) []) fun y => br (W.not y) (k false) (P_clevisref02Same_4_0 F_clevisref01Same fl n R y0 y1 (W.wrap IntKind.i64 (W.add y2 1)) k)) none)
          none)
        (k true) := by kernel_rfl
noncomputable def N_clevisref02Same (F_clevisref01Same : FT ps_clevisref01Same qs_clevisref01Same) (fl : Nat) : FT ps_clevisref02Same qs_clevisref02Same := fun R x k => match x with
  | (x0, x1) => 
      br (W.ne (W.ofNat (W.len x0)) (W.ofNat (W.len x1))) (k false) (P_clevisref02Same_4_0 F_clevisref01Same fl fl R x0 x1 0 k)
theorem Q_clevisref02Same {F_clevisref01Same : FT ps_clevisref01Same qs_clevisref01Same} (fl : Nat) (R : Type) (x : PTs.D ps_clevisref02Same) (k : PTs.D qs_clevisref02Same → Option R) : call (Cw Try.prog [(29, mkS ps_clevisref01Same qs_clevisref01Same F_clevisref01Same)] hintsF) fl 12 17 (encL true ps_clevisref02Same x) [] (getR qs_clevisref02Same k) = N_clevisref02Same F_clevisref01Same fl R x k := by
  obtain ⟨x0, x1⟩ := x; kernel_rfl
theorem S_clevisref02Same {F_clevisref01Same : FT ps_clevisref01Same qs_clevisref01Same} (h_clevisref01Same : SpecOk Try.prog 29 (mkS ps_clevisref01Same qs_clevisref01Same F_clevisref01Same)) : SpecOk Try.prog 17 (mkS ps_clevisref02Same qs_clevisref02Same (N_clevisref02Same F_clevisref01Same W.big)) :=
  specOk_mk (fl := W.big) (d := 12) (cfgOk_cons base h_clevisref01Same) (fun R x k => Q_clevisref02Same W.big R x k)
noncomputable def F_clevisref02Same : FT ps_clevisref02Same qs_clevisref02Same := N_clevisref02Same F_clevisref01Same W.big
theorem ok_clevisref02Same : SpecOk Try.prog 17 (mkS ps_clevisref02Same qs_clevisref02Same F_clevisref02Same) := S_clevisref02Same ok_clevisref01Same
abbrev ps_clevisref02May : List PT := [.agg ((.prod ((.prod (.int .i64) (.bool))) (.slice ((.prod (.int .i64) (.bool)))))), .one (.slice (.slice (.int .u8)))]
abbrev qs_clevisref02May : List PT := [.one (.bool)]
noncomputable def PL_clevisref02May_4_0 (F_clevisref02Check : FT ps_clevisref02Check qs_clevisref02Check) (F_clevisref02Area : FT ps_clevisref02Area qs_clevisref02Area) (fl : Nat)  (R : Type) (k : PTs.D qs_clevisref02May → Option R) : LoopI R :=
  locate (Cw Try.prog [(18, mkS ps_clevisref02Check qs_clevisref02Check F_clevisref02Check), (23, mkS ps_clevisref02Area qs_clevisref02Area F_clevisref02Area)] hintsF) fl (call (Cw Try.prog [(18, mkS ps_clevisref02Check qs_clevisref02Check F_clevisref02Check), (23, mkS ps_clevisref02Area qs_clevisref02Area F_clevisref02Area)] hintsF) fl 11) 0 20 4 [] (getR qs_clevisref02May k)
noncomputable def P_clevisref02May_4_0 (F_clevisref02Check : FT ps_clevisref02Check qs_clevisref02Check) (F_clevisref02Area : FT ps_clevisref02Area qs_clevisref02Area) (fl : Nat)  (n : Nat) (R : Type) (y0 : List (List Int)) (y1 : Int) (y2 : Int) (y3 : Bool) (y4 : List (Int × Bool)) (k : PTs.D qs_clevisref02May → Option R) : Option R :=
  loopH (PL_clevisref02May_4_0 F_clevisref02Check F_clevisref02Area fl  R k).body (PL_clevisref02May_4_0 F_clevisref02Check F_clevisref02Area fl  R k).head n (some (
      S.mk
        [V.any, V.ro true (Ty.slice (Ty.int IntKind.u8)) y0, V.ptr 0 0, V.any, V.any, V.int IntKind.i64 y1, V.any, V.any, V.any, V.any, V.any, V.any, V.any, V.any, V.any, V.any, V.any, V.any, V.any, V.any,
          V.any, V.any, V.any, V.any, V.any, V.any, V.any, V.any, V.any, V.any, V.any, V.any, V.any, V.any, V.any, V.any, V.any, V.any, V.any, V.any, V.any]
        [] [Blk.cells [V.int IntKind.i64 y2, V.bool y3, V.ro true (Ty.prod (Ty.int IntKind.i64) Ty.bool) y4]])) (PL_clevisref02May_4_0 F_clevisref02Check F_clevisref02Area fl  R k).kont
theorem P_clevisref02May_4_0_s {F_clevisref02Check : FT ps_clevisref02Check qs_clevisref02Check} {F_clevisref02Area : FT ps_clevisref02Area qs_clevisref02Area} (fl : Nat)  (n : Nat) (R : Type) (y0 : List (List Int)) (y1 : Int) (y2 : Int) (y3 : Bool) (y4 : List (Int × Bool)) (k : PTs.D qs_clevisref02May → Option R) : P_clevisref02May_4_0 F_clevisref02Check F_clevisref02Area fl  (n + 1) R y0 y1 y2 y3 y4 k =
      br (W.lt y1 (W.ofNat (W.len y0)))
        (F_clevisref02Area R (((y2, y3), y4), W.wrap IntKind.i64 (W.add y1 1)) fun y =>
          br (W.and2 (W.le 0 y1) (W.lt y1 (W.ofNat (W.len y0))))
            (br (W.ne (W.ofNat (W.len (W.get y0 (W.toNat y1) []))) y.1.1) (k false) (P_clevisref02May_4_0 F_clevisref02Check F_clevisref02Area fl n R y0 (W.wrap IntKind.i64 (W.add y1 1)) y2 y3 y4 k)) none)
        (k true) := by kernel_rfl
noncomputable def N_clevisref02May (F_clevisref02Check : FT ps_clevisref02Check qs_clevisref02Check) (F_clevisref02Area : FT ps_clevisref02Area qs_clevisref02Area) (fl : Nat) : FT ps_clevisref02May qs_clevisref02May := fun R x k => match x with
  | (((x0Context_Size, x0Context_Write), x0Maps), x1) => 
      F_clevisref02Check R ((x0Context_Size, x0Context_Write), x0Maps) fun y =>
        br (W.pick (W.ne y 0) true (W.ne (W.ofNat (W.len x1)) (W.wrap IntKind.i64 (W.add 2 (W.ofNat (W.len x0Maps)))))) (k false)
          (P_clevisref02May_4_0 F_clevisref02Check F_clevisref02Area fl fl R x1 0 x0Context_Size x0Context_Write x0Maps k)
theorem Q_clevisref02May {F_clevisref02Check : FT ps_clevisref02Check qs_clevisref02Check} {F_clevisref02Area : FT ps_clevisref02Area qs_clevisref02Area} (fl : Nat) (R : Type) (x : PTs.D ps_clevisref02May) (k : PTs.D qs_clevisref02May → Option R) : call (Cw Try.prog [(18, mkS ps_clevisref02Check qs_clevisref02Check F_clevisref02Check), (23, mkS ps_clevisref02Area qs_clevisref02Area F_clevisref02Area)] hintsF) fl 12 20 (encL true ps_clevisref02May x) [] (getR qs_clevisref02May k) = N_clevisref02May F_clevisref02Check F_clevisref02Area fl R x k := by
  obtain ⟨⟨⟨x0Context_Size, x0Context_Write⟩, x0Maps⟩, x1⟩ := x; kernel_rfl
theorem S_clevisref02May {F_clevisref02Check : FT ps_clevisref02Check qs_clevisref02Check} {F_clevisref02Area : FT ps_clevisref02Area qs_clevisref02Area} (h_clevisref02Check : SpecOk Try.prog 18 (mkS ps_clevisref02Check qs_clevisref02Check F_clevisref02Check)) (h_clevisref02Area : SpecOk Try.prog 23 (mkS ps_clevisref02Area qs_clevisref02Area F_clevisref02Area)) : SpecOk Try.prog 20 (mkS ps_clevisref02May qs_clevisref02May (N_clevisref02May F_clevisref02Check F_clevisref02Area W.big)) :=
  specOk_mk (fl := W.big) (d := 12) (cfgOk_cons (cfgOk_cons base h_clevisref02Area) h_clevisref02Check) (fun R x k => Q_clevisref02May W.big R x k)
noncomputable def F_clevisref02May : FT ps_clevisref02May qs_clevisref02May := N_clevisref02May F_clevisref02Check F_clevisref02Area W.big
theorem ok_clevisref02May : SpecOk Try.prog 20 (mkS ps_clevisref02May qs_clevisref02May F_clevisref02May) := S_clevisref02May ok_clevisref02Check ok_clevisref02Area
abbrev ps_clevisref02Split : List PT := [.one (.int .u64)]
abbrev qs_clevisref02Split : List PT := [.one (.int .i64), .one (.int .i64)]
noncomputable def N_clevisref02Split   : FT ps_clevisref02Split qs_clevisref02Split := fun R x k => match x with
  | x0 => 
      k (W.wrap IntKind.i64 (W.wrap IntKind.u64 (W.quo x0 4294967296)), W.wrap IntKind.i64 (W.rem x0 4294967296))
theorem S_clevisref02Split   : SpecOk Try.prog 22 (mkS ps_clevisref02Split qs_clevisref02Split (N_clevisref02Split )) :=
  specOk_mk (fl := 10) (d := 12) base (by intro R x0 k; kernel_rfl)
noncomputable def F_clevisref02Split : FT ps_clevisref02Split qs_clevisref02Split := N_clevisref02Split  
theorem ok_clevisref02Split : SpecOk Try.prog 22 (mkS ps_clevisref02Split qs_clevisref02Split F_clevisref02Split) := S_clevisref02Split 
abbrev ps_clevisref02Address : List PT := [.one (.int .i64), .one (.int .i64)]
abbrev qs_clevisref02Address : List PT := [.one (.int .u64)]
noncomputable def N_clevisref02Address   : FT ps_clevisref02Address qs_clevisref02Address := fun R x k => match x with
  | (x0, x1) => 
      k (W.wrap IntKind.u64 (W.add (W.wrap IntKind.u64 (W.mul (W.wrap IntKind.u64 x0) 4294967296)) (W.wrap IntKind.u64 x1)))
theorem S_clevisref02Address   : SpecOk Try.prog 24 (mkS ps_clevisref02Address qs_clevisref02Address (N_clevisref02Address )) :=
  specOk_mk (fl := 10) (d := 12) base (by rintro R ⟨x0, x1⟩ k; kernel_rfl)
noncomputable def F_clevisref02Address : FT ps_clevisref02Address qs_clevisref02Address := N_clevisref02Address  
theorem ok_clevisref02Address : SpecOk Try.prog 24 (mkS ps_clevisref02Address qs_clevisref02Address F_clevisref02Address) := S_clevisref02Address 
abbrev ps_clevisref02Access : List PT := [.agg ((.prod ((.prod (.int .i64) (.bool))) (.slice ((.prod (.int .i64) (.bool)))))), .one (.int .u64), .one (.int .i64), .one (.bool)]
abbrev qs_clevisref02Access : List PT := [.one (.int .i64)]
noncomputable def N_clevisref02Access (F_clevisref02Area : FT ps_clevisref02Area qs_clevisref02Area) (F_clevisref02Split : FT ps_clevisref02Split qs_clevisref02Split)  : FT ps_clevisref02Access qs_clevisref02Access := fun R x k => match x with
  | (((x0Context_Size, x0Context_Write), x0Maps), x1, x2, x3) => 
      br (W.pick (W.lt x2 1) true (W.gt x2 4096)) (k 2)
        (F_clevisref02Split R x1 fun y =>
          F_clevisref02Area R (((x0Context_Size, x0Context_Write), x0Maps), y.1) fun y_1 =>
            br (W.pick (W.not y_1.2) true (W.gt y.2 (W.wrap IntKind.i64 (W.sub y_1.1.1 x2)))) (k 20) (br (W.pick x3 (W.not y_1.1.2) false) (k 21) (k 0)))
theorem S_clevisref02Access {F_clevisref02Area : FT ps_clevisref02Area qs_clevisref02Area} {F_clevisref02Split : FT ps_clevisref02Split qs_clevisref02Split} (h_clevisref02Area : SpecOk Try.prog 23 (mkS ps_clevisref02Area qs_clevisref02Area F_clevisref02Area)) (h_clevisref02Split : SpecOk Try.prog 22 (mkS ps_clevisref02Split qs_clevisref02Split F_clevisref02Split)) : SpecOk Try.prog 25 (mkS ps_clevisref02Access qs_clevisref02Access (N_clevisref02Access F_clevisref02Area F_clevisref02Split)) :=
  specOk_mk (fl := 10) (d := 12) (cfgOk_cons (cfgOk_cons base h_clevisref02Split) h_clevisref02Area) (by rintro R ⟨⟨⟨x0Context_Size, x0Context_Write⟩, x0Maps⟩, x1, x2, x3⟩ k; kernel_rfl)
noncomputable def F_clevisref02Access : FT ps_clevisref02Access qs_clevisref02Access := N_clevisref02Access F_clevisref02Area F_clevisref02Split 
theorem ok_clevisref02Access : SpecOk Try.prog 25 (mkS ps_clevisref02Access qs_clevisref02Access F_clevisref02Access) := S_clevisref02Access ok_clevisref02Area ok_clevisref02Split
abbrev ps_clevislaw02MemLays : List PT := [.agg ((.prod ((.prod (.int .i64) (.bool))) (.slice ((.prod (.int .i64) (.bool)))))), .one (.slice (.slice (.int .u8))), .one (.int .u64), .one (.int .i64)]
noncomputable def L_clevislaw02MemLays (F_mem_Check : FT ps_mem_Check qs_mem_Check) (F_mem_Fresh : FT ps_mem_Fresh qs_mem_Fresh) (F_mem_Area : FT ps_mem_Area qs_mem_Area) (F_mem_Address : FT ps_mem_Address qs_mem_Address) (F_mem_Split : FT ps_mem_Split qs_mem_Split) (F_mem_Access : FT ps_mem_Access qs_mem_Access) (F_mem_May : FT ps_mem_May qs_mem_May) (F_clevislaw02heads : FT ps_clevislaw02heads qs_clevislaw02heads) (F_clevisref02Check : FT ps_clevisref02Check qs_clevisref02Check) (F_clevisref02Area : FT ps_clevisref02Area qs_clevisref02Area) (F_clevisref02Fresh : FT ps_clevisref02Fresh qs_clevisref02Fresh) (F_clevisref02Same : FT ps_clevisref02Same qs_clevisref02Same) (F_clevisref02May : FT ps_clevisref02May qs_clevisref02May) (F_clevisref02Split : FT ps_clevisref02Split qs_clevisref02Split) (F_clevisref02Address : FT ps_clevisref02Address qs_clevisref02Address) (F_clevisref02Access : FT ps_clevisref02Access qs_clevisref02Access)  (x : PTs.D ps_clevislaw02MemLays) : Option Unit := match x with
  | (((x0Context_Size, x0Context_Write), x0Maps), x1, x2, x3) => 
      F_mem_Fresh Unit ((x0Context_Size, x0Context_Write), x0Maps) fun y =>
        F_clevisref02Fresh Unit ((x0Context_Size, x0Context_Write), x0Maps) fun y_1 =>
          F_clevisref02Same Unit (y.1, y_1.1) fun y_2 =>
            br (W.not (W.pick (W.not y_2) true (W.ne y.2 y_1.2)))
              (F_mem_Check Unit ((x0Context_Size, x0Context_Write), x0Maps) fun y =>
                F_clevisref02Check Unit ((x0Context_Size, x0Context_Write), x0Maps) fun y_3 =>
                  br (W.not (W.pick false true (W.ne y y_3)))
                    (F_mem_May Unit (((x0Context_Size, x0Context_Write), x0Maps), x1) fun y =>
                      F_clevisref02May Unit (((x0Context_Size, x0Context_Write), x0Maps), x1) fun y_4 =>
                        br (W.pick false true (W.not (W.eqB y y_4))) none
                          (F_mem_Split Unit x2 fun y =>
                            F_clevisref02Split Unit x2 fun y_5 =>
                              F_mem_Area Unit (((x0Context_Size, x0Context_Write), x0Maps), y.1) fun y_6 =>
                                F_clevisref02Area Unit (((x0Context_Size, x0Context_Write), x0Maps), y.1) fun y_7 =>
                                  br (W.pick (W.pick (W.pick (W.eq y.1 y_5.1) (W.eq y.2 y_5.2) false) (W.and2 (W.eq y_6.1.1 y_7.1.1) (W.and2 (W.eqB y_6.1.2 y_7.1.2) true)) false) (W.eqB y_6.2 y_7.2) false)
                                    (F_mem_Address Unit (x3, y.2) fun y_8 =>
                                      F_clevisref02Address Unit (x3, y.2) fun y =>
                                        br (W.pick true (W.eq y_8 y) false)
                                          (F_mem_Access Unit (((x0Context_Size, x0Context_Write), x0Maps), x2, x3, true) fun y =>
                                            F_clevisref02Access Unit (((x0Context_Size, x0Context_Write), x0Maps), x2, x3, true) fun y_9 =>
                                              br (W.pick true (W.eq y y_9) false)
                                                (F_mem_Access Unit (((x0Context_Size, x0Context_Write), x0Maps), x2, x3, false) fun y =>
                                                  F_clevisref02Access Unit (((x0Context_Size, x0Context_Write), x0Maps), x2, x3, false) fun y_10 =>
                                                    br (W.pick true (W.eq y y_10) false) (F_clevislaw02heads Unit () fun y => br (W.pick true y false) (some ()) none) none)
                                                none)
                                          none)
                                    none))
                    none)
              none
theorem E_clevislaw02MemLays {F_mem_Check : FT ps_mem_Check qs_mem_Check} {F_mem_Fresh : FT ps_mem_Fresh qs_mem_Fresh} {F_mem_Area : FT ps_mem_Area qs_mem_Area} {F_mem_Address : FT ps_mem_Address qs_mem_Address} {F_mem_Split : FT ps_mem_Split qs_mem_Split} {F_mem_Access : FT ps_mem_Access qs_mem_Access} {F_mem_May : FT ps_mem_May qs_mem_May} {F_clevislaw02heads : FT ps_clevislaw02heads qs_clevislaw02heads} {F_clevisref02Check : FT ps_clevisref02Check qs_clevisref02Check} {F_clevisref02Area : FT ps_clevisref02Area qs_clevisref02Area} {F_clevisref02Fresh : FT ps_clevisref02Fresh qs_clevisref02Fresh} {F_clevisref02Same : FT ps_clevisref02Same qs_clevisref02Same} {F_clevisref02May : FT ps_clevisref02May qs_clevisref02May} {F_clevisref02Split : FT ps_clevisref02Split qs_clevisref02Split} {F_clevisref02Address : FT ps_clevisref02Address qs_clevisref02Address} {F_clevisref02Access : FT ps_clevisref02Access qs_clevisref02Access} (h_mem_Check : SpecOk Try.prog 11 (mkS ps_mem_Check qs_mem_Check F_mem_Check)) (h_mem_Fresh : SpecOk Try.prog 9 (mkS ps_mem_Fresh qs_mem_Fresh F_mem_Fresh)) (h_mem_Area : SpecOk Try.prog 10 (mkS ps_mem_Area qs_mem_Area F_mem_Area)) (h_mem_Address : SpecOk Try.prog 14 (mkS ps_mem_Address qs_mem_Address F_mem_Address)) (h_mem_Split : SpecOk Try.prog 21 (mkS ps_mem_Split qs_mem_Split F_mem_Split)) (h_mem_Access : SpecOk Try.prog 15 (mkS ps_mem_Access qs_mem_Access F_mem_Access)) (h_mem_May : SpecOk Try.prog 19 (mkS ps_mem_May qs_mem_May F_mem_May)) (h_clevislaw02heads : SpecOk Try.prog 12 (mkS ps_clevislaw02heads qs_clevislaw02heads F_clevislaw02heads)) (h_clevisref02Check : SpecOk Try.prog 18 (mkS ps_clevisref02Check qs_clevisref02Check F_clevisref02Check)) (h_clevisref02Area : SpecOk Try.prog 23 (mkS ps_clevisref02Area qs_clevisref02Area F_clevisref02Area)) (h_clevisref02Fresh : SpecOk Try.prog 16 (mkS ps_clevisref02Fresh qs_clevisref02Fresh F_clevisref02Fresh)) (h_clevisref02Same : SpecOk Try.prog 17 (mkS ps_clevisref02Same qs_clevisref02Same F_clevisref02Same)) (h_clevisref02May : SpecOk Try.prog 20 (mkS ps_clevisref02May qs_clevisref02May F_clevisref02May)) (h_clevisref02Split : SpecOk Try.prog 22 (mkS ps_clevisref02Split qs_clevisref02Split F_clevisref02Split)) (h_clevisref02Address : SpecOk Try.prog 24 (mkS ps_clevisref02Address qs_clevisref02Address F_clevisref02Address)) (h_clevisref02Access : SpecOk Try.prog 25 (mkS ps_clevisref02Access qs_clevisref02Access F_clevisref02Access)) (x : PTs.D ps_clevislaw02MemLays) (hL : L_clevislaw02MemLays F_mem_Check F_mem_Fresh F_mem_Area F_mem_Address F_mem_Split F_mem_Access F_mem_May F_clevislaw02heads F_clevisref02Check F_clevisref02Area F_clevisref02Fresh F_clevisref02Same F_clevisref02May F_clevisref02Split F_clevisref02Address F_clevisref02Access x = some ()) :
    ∃ (C : Cfg) (fl d : Nat), CfgOk C ∧ C.P = Try.prog ∧ call C fl d 4 (encL false ps_clevislaw02MemLays x) [] getL = some () :=
  ⟨_, 10, 12, (cfgOk_cons (cfgOk_cons (cfgOk_cons (cfgOk_cons (cfgOk_cons (cfgOk_cons (cfgOk_cons (cfgOk_cons (cfgOk_cons (cfgOk_cons (cfgOk_cons (cfgOk_cons (cfgOk_cons (cfgOk_cons (cfgOk_cons (cfgOk_cons base h_clevisref02Access) h_clevisref02Address) h_clevisref02Split) h_clevisref02May) h_clevisref02Same) h_clevisref02Fresh) h_clevisref02Area) h_clevisref02Check) h_clevislaw02heads) h_mem_May) h_mem_Access) h_mem_Split) h_mem_Address) h_mem_Area) h_mem_Fresh) h_mem_Check), rfl, (show _ = L_clevislaw02MemLays F_mem_Check F_mem_Fresh F_mem_Area F_mem_Address F_mem_Split F_mem_Access F_mem_May F_clevislaw02heads F_clevisref02Check F_clevisref02Area F_clevisref02Fresh F_clevisref02Same F_clevisref02May F_clevisref02Split F_clevisref02Address F_clevisref02Access x by obtain ⟨⟨⟨x0Context_Size, x0Context_Write⟩, x0Maps⟩, x1, x2, x3⟩ := x; kernel_rfl).trans hL⟩
abbrev ps_clevisref02asked : List PT := [.agg ((.prod ((.prod (.int .i64) (.bool))) (.slice ((.prod (.int .i64) (.bool)))))), .one (.slice (.slice (.int .u8))), .one (.int .u64), .one (.int .i64), .one (.bool)]
abbrev qs_clevisref02asked : List PT := [.one (.int .i64)]
noncomputable def N_clevisref02asked (F_clevisref02May : FT ps_clevisref02May qs_clevisref02May) (F_clevisref02Access : FT ps_clevisref02Access qs_clevisref02Access)  : FT ps_clevisref02asked qs_clevisref02asked := fun R x k => match x with
  | (((x0Context_Size, x0Context_Write), x0Maps), x1, x2, x3, x4) => 
      F_clevisref02May R (((x0Context_Size, x0Context_Write), x0Maps), x1) fun y => br (W.not y) (k 2) (F_clevisref02Access R (((x0Context_Size, x0Context_Write), x0Maps), x2, x3, x4) fun y => k y)
theorem S_clevisref02asked {F_clevisref02May : FT ps_clevisref02May qs_clevisref02May} {F_clevisref02Access : FT ps_clevisref02Access qs_clevisref02Access} (h_clevisref02May : SpecOk Try.prog 20 (mkS ps_clevisref02May qs_clevisref02May F_clevisref02May)) (h_clevisref02Access : SpecOk Try.prog 25 (mkS ps_clevisref02Access qs_clevisref02Access F_clevisref02Access)) : SpecOk Try.prog 43 (mkS ps_clevisref02asked qs_clevisref02asked (N_clevisref02asked F_clevisref02May F_clevisref02Access)) :=
  specOk_mk (fl := 10) (d := 12) (cfgOk_cons (cfgOk_cons base h_clevisref02Access) h_clevisref02May) (by rintro R ⟨⟨⟨x0Context_Size, x0Context_Write⟩, x0Maps⟩, x1, x2, x3, x4⟩ k; kernel_rfl)
noncomputable def F_clevisref02asked : FT ps_clevisref02asked qs_clevisref02asked := N_clevisref02asked F_clevisref02May F_clevisref02Access 
theorem ok_clevisref02asked : SpecOk Try.prog 43 (mkS ps_clevisref02asked qs_clevisref02asked F_clevisref02asked) := S_clevisref02asked ok_clevisref02May ok_clevisref02Access
abbrev ps_clevisref02Bytes : List PT := [.agg ((.prod ((.prod (.int .i64) (.bool))) (.slice ((.prod (.int .i64) (.bool)))))), .one (.slice (.slice (.int .u8))), .one (.int .u64), .one (.int .i64)]
abbrev qs_clevisref02Bytes : List PT := [.one (.slice (.int .u8)), .one (.int .i64)]
noncomputable def N_clevisref02Bytes (F_clevisref02Split : FT ps_clevisref02Split qs_clevisref02Split) (F_clevisref02asked : FT ps_clevisref02asked qs_clevisref02asked)  : FT ps_clevisref02Bytes qs_clevisref02Bytes := fun R x k => match x with
  | (((x0Context_Size, x0Context_Write), x0Maps), x1, x2, x3) => 
      F_clevisref02asked R (((x0Context_Size, x0Context_Write), x0Maps), x1, x2, x3, false) fun y =>
        br (W.ne y 0) (k ([], y))
          (F_clevisref02Split R x2 fun y =>
            br (W.and2 (W.le 0 (W.wrap IntKind.i64 (W.sub y.1 1))) (W.lt (W.wrap IntKind.i64 (W.sub y.1 1)) (W.ofNat (W.len x1))))
              (br
                (W.and2 (W.le 0 y.2)
                  (W.and2 (W.le y.2 (W.wrap IntKind.i64 (W.add y.2 x3))) (W.le (W.wrap IntKind.i64 (W.add y.2 x3)) (W.ofNat (W.len (W.get x1 (W.toNat (W.wrap IntKind.i64 (W.sub y.1 1))) []))))))
                (br
                  (W.leN (W.mulN (W.len (W.slice (W.get x1 (W.toNat (W.wrap IntKind.i64 (W.sub y.1 1))) []) (W.toNat y.2) (W.subN (W.toNat (W.wrap IntKind.i64 (W.add y.2 x3))) (W.toNat y.2)))) 1)
                    140737488355328)
                  (k (W.slice (W.get x1 (W.toNat (W.wrap IntKind.i64 (W.sub y.1 1))) []) (W.toNat y.2) (W.subN (W.toNat (W.wrap IntKind.i64 (W.add y.2 x3))) (W.toNat y.2)), 0)) none)
                none)
              none)
theorem S_clevisref02Bytes {F_clevisref02Split : FT ps_clevisref02Split qs_clevisref02Split} {F_clevisref02asked : FT ps_clevisref02asked qs_clevisref02asked} (h_clevisref02Split : SpecOk Try.prog 22 (mkS ps_clevisref02Split qs_clevisref02Split F_clevisref02Split)) (h_clevisref02asked : SpecOk Try.prog 43 (mkS ps_clevisref02asked qs_clevisref02asked F_clevisref02asked)) : SpecOk Try.prog 28 (mkS ps_clevisref02Bytes qs_clevisref02Bytes (N_clevisref02Bytes F_clevisref02Split F_clevisref02asked)) :=
  specOk_mk (fl := 10) (d := 12) (cfgOk_cons (cfgOk_cons base h_clevisref02asked) h_clevisref02Split) (by rintro R ⟨⟨⟨x0Context_Size, x0Context_Write⟩, x0Maps⟩, x1, x2, x3⟩ k; kernel_rfl)
noncomputable def F_clevisref02Bytes : FT ps_clevisref02Bytes qs_clevisref02Bytes := N_clevisref02Bytes F_clevisref02Split F_clevisref02asked 
theorem ok_clevisref02Bytes : SpecOk Try.prog 28 (mkS ps_clevisref02Bytes qs_clevisref02Bytes F_clevisref02Bytes) := S_clevisref02Bytes ok_clevisref02Split ok_clevisref02asked
abbrev ps_clevisref01Get : List PT := [.one (.slice (.int .u8))]
abbrev qs_clevisref01Get : List PT := [.one (.int .u64)]
noncomputable def PL_clevisref01Get_3_0  (fl : Nat)  (R : Type) (k : PTs.D qs_clevisref01Get → Option R) : LoopI R :=
  locate (Cw Try.prog [] hintsF) fl (call (Cw Try.prog [] hintsF) fl 11) 0 35 3 [] (getR qs_clevisref01Get k)
noncomputable def P_clevisref01Get_3_0  (fl : Nat)  (n : Nat) (R : Type) (y0 : List Int) (y1 : Int) (y2 : Int) (k : PTs.D qs_clevisref01Get → Option R) : Option R :=
  loopH (PL_clevisref01Get_3_0  fl  R k).body (PL_clevisref01Get_3_0  fl  R k).head n (some (
      S.mk
        [V.ro true (Ty.int IntKind.u8) y0, V.any, V.any, V.int IntKind.u64 y1, V.int IntKind.i64 y2, V.any, V.any, V.any, V.any, V.any, V.any, V.any, V.any, V.any, V.any, V.any, V.any, V.any, V.any, V.any,
          V.any, V.any, V.any, V.any, V.any, V.any, V.any]
        [] [])) (PL_clevisref01Get_3_0  fl  R k).kont
theorem P_clevisref01Get_3_0_s  (fl : Nat)  (n : Nat) (R : Type) (y0 : List Int) (y1 : Int) (y2 : Int) (k : PTs.D qs_clevisref01Get → Option R) : P_clevisref01Get_3_0  fl  (n + 1) R y0 y1 y2 k =
      br (W.pick (W.lt y2 (W.ofNat (W.len y0))) (W.lt y2 8) false)
        (br (W.and2 (W.le 0 y2) (W.lt y2 (W.ofNat (W.len y0))))
          (P_clevisref01Get_3_0 fl n R y0
            (W.wrap IntKind.u64 (W.or IntKind.u64 y1 (W.wrap IntKind.u64 (W.shl IntKind.u64 (W.wrap IntKind.u64 (W.get y0 (W.toNat y2) 0)) (W.wrap IntKind.u64 (W.wrap IntKind.i64 (W.mul 8 y2)))))))
            (W.wrap IntKind.i64 (W.add y2 1)) k)
          none)
        (k y1) := by kernel_rfl
noncomputable def N_clevisref01Get  (fl : Nat) : FT ps_clevisref01Get qs_clevisref01Get := fun R x k => match x with
  | x0 => 
      P_clevisref01Get_3_0 fl fl R x0 0 0 k
theorem Q_clevisref01Get  (fl : Nat) (R : Type) (x : PTs.D ps_clevisref01Get) (k : PTs.D qs_clevisref01Get → Option R) : call (Cw Try.prog [] hintsF) fl 12 35 (encL true ps_clevisref01Get x) [] (getR qs_clevisref01Get k) = N_clevisref01Get  fl R x k := by
  kernel_rfl
theorem S_clevisref01Get   : SpecOk Try.prog 35 (mkS ps_clevisref01Get qs_clevisref01Get (N_clevisref01Get  W.big)) :=
  specOk_mk (fl := W.big) (d := 12) base (fun R x k => Q_clevisref01Get W.big R x k)
noncomputable def F_clevisref01Get : FT ps_clevisref01Get qs_clevisref01Get := N_clevisref01Get  W.big
theorem ok_clevisref01Get : SpecOk Try.prog 35 (mkS ps_clevisref01Get qs_clevisref01Get F_clevisref01Get) := S_clevisref01Get 
abbrev ps_clevisref01Size : List PT := [.one (.int .i64)]
abbrev qs_clevisref01Size : List PT := [.one (.bool)]
noncomputable def N_clevisref01Size   : FT ps_clevisref01Size qs_clevisref01Size := fun R x k => match x with
  | x0 => 
      k (W.pick (W.pick (W.pick (W.eq x0 1) true (W.eq x0 2)) true (W.eq x0 4)) true (W.eq x0 8))
theorem S_clevisref01Size   : SpecOk Try.prog 42 (mkS ps_clevisref01Size qs_clevisref01Size (N_clevisref01Size )) :=
  specOk_mk (fl := 10) (d := 12) base (by intro R x0 k; kernel_rfl)
noncomputable def F_clevisref01Size : FT ps_clevisref01Size qs_clevisref01Size := N_clevisref01Size  
theorem ok_clevisref01Size : SpecOk Try.prog 42 (mkS ps_clevisref01Size qs_clevisref01Size F_clevisref01Size) := S_clevisref01Size 
abbrev ps_clevisref02Load : List PT := [.agg ((.prod ((.prod (.int .i64) (.bool))) (.slice ((.prod (.int .i64) (.bool)))))), .one (.slice (.slice (.int .u8))), .one (.int .u64), .one (.int .i64)]
abbrev qs_clevisref02Load : List PT := [.one (.int .u64), .one (.int .i64)]
noncomputable def N_clevisref02Load (F_clevisref02Bytes : FT ps_clevisref02Bytes qs_clevisref02Bytes) (F_clevisref01Get : FT ps_clevisref01Get qs_clevisref01Get) (F_clevisref01Size : FT ps_clevisref01Size qs_clevisref01Size)  : FT ps_clevisref02Load qs_clevisref02Load := fun R x k => match x with
  | (((x0Context_Size, x0Context_Write), x0Maps), x1, x2, x3) => 
      F_clevisref01Size R x3 fun y => br (W.not y) (k (0, 2)) (F_clevisref02Bytes R (((x0Context_Size, x0Context_Write), x0Maps), x1, x2, x3) fun y => F_clevisref01Get R y.1 fun y_1 => k (y_1, y.2))
theorem S_clevisref02Load {F_clevisref02Bytes : FT ps_clevisref02Bytes qs_clevisref02Bytes} {F_clevisref01Get : FT ps_clevisref01Get qs_clevisref01Get} {F_clevisref01Size : FT ps_clevisref01Size qs_clevisref01Size} (h_clevisref02Bytes : SpecOk Try.prog 28 (mkS ps_clevisref02Bytes qs_clevisref02Bytes F_clevisref02Bytes)) (h_clevisref01Get : SpecOk Try.prog 35 (mkS ps_clevisref01Get qs_clevisref01Get F_clevisref01Get)) (h_clevisref01Size : SpecOk Try.prog 42 (mkS ps_clevisref01Size qs_clevisref01Size F_clevisref01Size)) : SpecOk Try.prog 27 (mkS ps_clevisref02Load qs_clevisref02Load (N_clevisref02Load F_clevisref02Bytes F_clevisref01Get F_clevisref01Size)) :=
  specOk_mk (fl := 10) (d := 12) (cfgOk_cons (cfgOk_cons (cfgOk_cons base h_clevisref01Size) h_clevisref01Get) h_clevisref02Bytes) (by rintro R ⟨⟨⟨x0Context_Size, x0Context_Write⟩, x0Maps⟩, x1, x2, x3⟩ k; kernel_rfl)
noncomputable def F_clevisref02Load : FT ps_clevisref02Load qs_clevisref02Load := N_clevisref02Load F_clevisref02Bytes F_clevisref01Get F_clevisref01Size 
theorem ok_clevisref02Load : SpecOk Try.prog 27 (mkS ps_clevisref02Load qs_clevisref02Load F_clevisref02Load) := S_clevisref02Load ok_clevisref02Bytes ok_clevisref01Get ok_clevisref01Size
abbrev ps_clevislaw02MemLoads : List PT := [.agg ((.prod ((.prod (.int .i64) (.bool))) (.slice ((.prod (.int .i64) (.bool)))))), .one (.slice (.slice (.int .u8))), .one (.int .u64), .one (.int .i64)]
noncomputable def L_clevislaw02MemLoads (F_mem_Bytes : FT ps_mem_Bytes qs_mem_Bytes) (F_mem_Load : FT ps_mem_Load qs_mem_Load) (F_clevislaw02heads : FT ps_clevislaw02heads qs_clevislaw02heads) (F_clevisref01Same : FT ps_clevisref01Same qs_clevisref01Same) (F_clevisref02Bytes : FT ps_clevisref02Bytes qs_clevisref02Bytes) (F_clevisref02Load : FT ps_clevisref02Load qs_clevisref02Load)  (x : PTs.D ps_clevislaw02MemLoads) : Option Unit := match x with
  | (((x0Context_Size, x0Context_Write), x0Maps), x1, x2, x3) => 
      F_mem_Load Unit (((x0Context_Size, x0Context_Write), x0Maps), x1, x2, x3) fun y =>
        F_clevisref02Load Unit (((x0Context_Size, x0Context_Write), x0Maps), x1, x2, x3) fun y_1 =>
          F_mem_Bytes Unit (((x0Context_Size, x0Context_Write), x0Maps), x1, x2, x3) fun y_2 =>
            F_clevisref02Bytes Unit (((x0Context_Size, x0Context_Write), x0Maps), x1, x2, x3) fun y_3 =>
              br (W.pick (W.eq y.1 y_1.1) (W.eq y.2 y_1.2) false)
                (F_clevisref01Same Unit (y_2.1, y_3.1) fun y =>
                  br (W.pick (W.pick true y false) (W.eq y_2.2 y_3.2) false) (F_clevislaw02heads Unit () fun y => br (W.pick true y false) (some ()) none) none)
                none
theorem E_clevislaw02MemLoads {F_mem_Bytes : FT ps_mem_Bytes qs_mem_Bytes} {F_mem_Load : FT ps_mem_Load qs_mem_Load} {F_clevislaw02heads : FT ps_clevislaw02heads qs_clevislaw02heads} {F_clevisref01Same : FT ps_clevisref01Same qs_clevisref01Same} {F_clevisref02Bytes : FT ps_clevisref02Bytes qs_clevisref02Bytes} {F_clevisref02Load : FT ps_clevisref02Load qs_clevisref02Load} (h_mem_Bytes : SpecOk Try.prog 13 (mkS ps_mem_Bytes qs_mem_Bytes F_mem_Bytes)) (h_mem_Load : SpecOk Try.prog 26 (mkS ps_mem_Load qs_mem_Load F_mem_Load)) (h_clevislaw02heads : SpecOk Try.prog 12 (mkS ps_clevislaw02heads qs_clevislaw02heads F_clevislaw02heads)) (h_clevisref01Same : SpecOk Try.prog 29 (mkS ps_clevisref01Same qs_clevisref01Same F_clevisref01Same)) (h_clevisref02Bytes : SpecOk Try.prog 28 (mkS ps_clevisref02Bytes qs_clevisref02Bytes F_clevisref02Bytes)) (h_clevisref02Load : SpecOk Try.prog 27 (mkS ps_clevisref02Load qs_clevisref02Load F_clevisref02Load)) (x : PTs.D ps_clevislaw02MemLoads) (hL : L_clevislaw02MemLoads F_mem_Bytes F_mem_Load F_clevislaw02heads F_clevisref01Same F_clevisref02Bytes F_clevisref02Load x = some ()) :
    ∃ (C : Cfg) (fl d : Nat), CfgOk C ∧ C.P = Try.prog ∧ call C fl d 5 (encL false ps_clevislaw02MemLoads x) [] getL = some () :=
  ⟨_, 10, 12, (cfgOk_cons (cfgOk_cons (cfgOk_cons (cfgOk_cons (cfgOk_cons (cfgOk_cons base h_clevisref02Load) h_clevisref02Bytes) h_clevisref01Same) h_clevislaw02heads) h_mem_Load) h_mem_Bytes), rfl, (show _ = L_clevislaw02MemLoads F_mem_Bytes F_mem_Load F_clevislaw02heads F_clevisref01Same F_clevisref02Bytes F_clevisref02Load x by obtain ⟨⟨⟨x0Context_Size, x0Context_Write⟩, x0Maps⟩, x1, x2, x3⟩ := x; kernel_rfl).trans hL⟩
abbrev ps_clevisref02Copy : List PT := [.one (.slice (.slice (.int .u8)))]
abbrev qs_clevisref02Copy : List PT := [.owns (.int .u8)]
noncomputable def PL_clevisref02Copy_3_0  (fl : Nat)  (R : Type) (k : PTs.D qs_clevisref02Copy → Option R) : LoopI R :=
  locate (Cw Try.prog [] hintsF) fl (call (Cw Try.prog [] hintsF) fl 11) 0 30 3 [] (getR qs_clevisref02Copy k)
noncomputable def P_clevisref02Copy_3_0  (fl : Nat)  (n : Nat) (R : Type) (y0 : List (List Int)) (y1 : Nat) (y2 : Int) (y3 : List (List Int)) (k : PTs.D qs_clevisref02Copy → Option R) : Option R :=
  loopH (PL_clevisref02Copy_3_0  fl  R k).body (PL_clevisref02Copy_3_0  fl  R k).head n (some (
      S.mk
        [V.ro true (Ty.slice (Ty.int IntKind.u8)) y0, V.any, V.any, V.sl 0 1 y1, V.int IntKind.i64 y2, V.any, V.any, V.any, V.any, V.any, V.any, V.any, V.any, V.any, V.any, V.any, V.any, V.any, V.any,
          V.any, V.any]
        [] [Blk.rows (Ty.int IntKind.u8) y3])) (PL_clevisref02Copy_3_0  fl  R k).kont
theorem P_clevisref02Copy_3_0_s  (fl : Nat)  (n : Nat) (R : Type) (y0 : List (List Int)) (y1 : Nat) (y2 : Int) (y3 : List (List Int)) (k : PTs.D qs_clevisref02Copy → Option R) : P_clevisref02Copy_3_0  fl  (n + 1) R y0 y1 y2 y3 k =
      br (W.lt y2 (W.ofNat (W.len y0)))
        (br (W.and2 (W.le 0 y2) (W.lt y2 (W.ofNat (W.len y0))))
          (br (W.leN (W.mulN (W.len (W.get y0 (W.toNat y2) [])) 1) 140737488355328)
            (br (W.leN (W.mulN (W.addN y1 1) 24) 140737488355328) (P_clevisref02Copy_3_0 fl n R y0 (W.addN y1 1) (W.wrap IntKind.i64 (W.add y2 1)) (W.app y3 [W.get y0 (W.toNat y2) []]) k) none) none)
          none)
        (k y3) := by kernel_rfl
noncomputable def N_clevisref02Copy  (fl : Nat) : FT ps_clevisref02Copy qs_clevisref02Copy := fun R x k => match x with
  | x0 => 
      P_clevisref02Copy_3_0 fl fl R x0 0 0 [] k
theorem Q_clevisref02Copy  (fl : Nat) (R : Type) (x : PTs.D ps_clevisref02Copy) (k : PTs.D qs_clevisref02Copy → Option R) : call (Cw Try.prog [] hintsF) fl 12 30 (encL true ps_clevisref02Copy x) [] (getR qs_clevisref02Copy k) = N_clevisref02Copy  fl R x k := by
  kernel_rfl
theorem S_clevisref02Copy   : SpecOk Try.prog 30 (mkS ps_clevisref02Copy qs_clevisref02Copy (N_clevisref02Copy  W.big)) :=
  specOk_mk (fl := W.big) (d := 12) base (fun R x k => Q_clevisref02Copy W.big R x k)
noncomputable def F_clevisref02Copy : FT ps_clevisref02Copy qs_clevisref02Copy := N_clevisref02Copy  W.big
theorem ok_clevisref02Copy : SpecOk Try.prog 30 (mkS ps_clevisref02Copy qs_clevisref02Copy F_clevisref02Copy) := S_clevisref02Copy 
abbrev ps_clevisref02Fill : List PT := [.agg ((.prod ((.prod (.int .i64) (.bool))) (.slice ((.prod (.int .i64) (.bool)))))), .one (.slice (.slice (.int .u8))), .one (.int .u64), .one (.slice (.int .u8))]
abbrev qs_clevisref02Fill : List PT := [.one (.slice (.slice (.int .u8))), .one (.int .i64)]
noncomputable def PL_clevisref02Fill_7_0 (F_clevisref02Split : FT ps_clevisref02Split qs_clevisref02Split) (F_clevisref02asked : FT ps_clevisref02asked qs_clevisref02asked) (F_clevisref02Copy : FT ps_clevisref02Copy qs_clevisref02Copy) (fl : Nat)  (R : Type) (k : PTs.D qs_clevisref02Fill → Option R) : LoopI R :=
  locate (Cw Try.prog [(22, mkS ps_clevisref02Split qs_clevisref02Split F_clevisref02Split), (43, mkS ps_clevisref02asked qs_clevisref02asked F_clevisref02asked), (30, mkS ps_clevisref02Copy qs_clevisref02Copy F_clevisref02Copy)] hintsF) fl (call (Cw Try.prog [(22, mkS ps_clevisref02Split qs_clevisref02Split F_clevisref02Split), (43, mkS ps_clevisref02asked qs_clevisref02asked F_clevisref02asked), (30, mkS ps_clevisref02Copy qs_clevisref02Copy F_clevisref02Copy)] hintsF) fl 11) 0 34 7 [] (getR qs_clevisref02Fill k)
noncomputable def P_clevisref02Fill_7_0 (F_clevisref02Split : FT ps_clevisref02Split qs_clevisref02Split) (F_clevisref02asked : FT ps_clevisref02asked qs_clevisref02asked) (F_clevisref02Copy : FT ps_clevisref02Copy qs_clevisref02Copy) (fl : Nat)  (n : Nat) (R : Type) (y0 : List Int) (y1 : Int) (y2 : Int) (y3 : Nat) (y4 : Int) (y5 : List (List Int)) (k : PTs.D qs_clevisref02Fill → Option R) : Option R :=
  loopH (PL_clevisref02Fill_7_0 F_clevisref02Split F_clevisref02asked F_clevisref02Copy fl  R k).body (PL_clevisref02Fill_7_0 F_clevisref02Split F_clevisref02asked F_clevisref02Copy fl  R k).head n (some (
      S.mk
        [V.any, V.any, V.any, V.ro true (Ty.int IntKind.u8) y0, V.any, V.any, V.any, V.any, V.any, V.any, V.any, V.int IntKind.i64 y1, V.int IntKind.i64 y2, V.sl 0 1 y3, V.int IntKind.i64 y4, V.any, V.any,
          V.any, V.any, V.any, V.any, V.any, V.any, V.any, V.any, V.any, V.any, V.any, V.any, V.any, V.any, V.any, V.any, V.any, V.any, V.any, V.any, V.any, V.any, V.any, V.any, V.any, V.any, V.any, V.any,
          V.any, V.any, V.any, V.any, V.any, V.any]
        [] [Blk.rows (Ty.int IntKind.u8) y5])) (PL_clevisref02Fill_7_0 F_clevisref02Split F_clevisref02asked F_clevisref02Copy fl  R k).kont
theorem P_clevisref02Fill_7_0_s {F_clevisref02Split : FT ps_clevisref02Split qs_clevisref02Split} {F_clevisref02asked : FT ps_clevisref02asked qs_clevisref02asked} {F_clevisref02Copy : FT ps_clevisref02Copy qs_clevisref02Copy} (fl : Nat)  (n : Nat) (R : Type) (y0 : List Int) (y1 : Int) (y2 : Int) (y3 : Nat) (y4 : Int) (y5 : List (List Int)) (k : PTs.D qs_clevisref02Fill → Option R) : P_clevisref02Fill_7_0 F_clevisref02Split F_clevisref02asked F_clevisref02Copy fl  (n + 1) R y0 y1 y2 y3 y4 y5 k =
      br (W.lt y4 (W.ofNat (W.len y0)))
        (br (W.and2 (W.le 0 (W.wrap IntKind.i64 (W.sub y1 1))) (W.lt (W.wrap IntKind.i64 (W.sub y1 1)) (W.ofNat y3)))
          (br (W.and2 (W.le 0 y4) (W.lt y4 (W.ofNat (W.len y0))))
            (br (W.and2 (W.le 0 (W.wrap IntKind.i64 (W.add y2 y4))) (W.lt (W.wrap IntKind.i64 (W.add y2 y4)) (W.ofNat (W.len (W.get y5 (W.toNat (W.wrap IntKind.i64 (W.sub y1 1))) [])))))
              (P_clevisref02Fill_7_0 F_clevisref02Split F_clevisref02asked F_clevisref02Copy fl n R y0 y1 y2 y3 (W.wrap IntKind.i64 (W.add y4 1))
                (W.set y5 (W.toNat (W.wrap IntKind.i64 (W.sub y1 1)))
                  (W.set (W.get y5 (W.toNat (W.wrap IntKind.i64 (W.sub y1 1))) []) (W.addN 0 (W.toNat (W.wrap IntKind.i64 (W.add y2 y4)))) (W.get y0 (W.toNat y4) 0)))
                k)
              none)
            none)
          none)
        (k (y5, 0)) := by kernel_rfl
noncomputable def N_clevisref02Fill (F_clevisref02Split : FT ps_clevisref02Split qs_clevisref02Split) (F_clevisref02asked : FT ps_clevisref02asked qs_clevisref02asked) (F_clevisref02Copy : FT ps_clevisref02Copy qs_clevisref02Copy) (fl : Nat) : FT ps_clevisref02Fill qs_clevisref02Fill := fun R x k => match x with
  | (((x0Context_Size, x0Context_Write), x0Maps), x1, x2, x3) => 
      F_clevisref02asked R (((x0Context_Size, x0Context_Write), x0Maps), x1, x2, W.ofNat (W.len x3), true) fun y =>
        br (W.ne y 0) (k ([], y))
          (F_clevisref02Split R x2 fun y => F_clevisref02Copy R x1 fun y_1 => P_clevisref02Fill_7_0 F_clevisref02Split F_clevisref02asked F_clevisref02Copy fl fl R x3 y.1 y.2 (W.len y_1) 0 y_1 k)
theorem Q_clevisref02Fill {F_clevisref02Split : FT ps_clevisref02Split qs_clevisref02Split} {F_clevisref02asked : FT ps_clevisref02asked qs_clevisref02asked} {F_clevisref02Copy : FT ps_clevisref02Copy qs_clevisref02Copy} (fl : Nat) (R : Type) (x : PTs.D ps_clevisref02Fill) (k : PTs.D qs_clevisref02Fill → Option R) : call (Cw Try.prog [(22, mkS ps_clevisref02Split qs_clevisref02Split F_clevisref02Split), (43, mkS ps_clevisref02asked qs_clevisref02asked F_clevisref02asked), (30, mkS ps_clevisref02Copy qs_clevisref02Copy F_clevisref02Copy)] hintsF) fl 12 34 (encL true ps_clevisref02Fill x) [] (getR qs_clevisref02Fill k) = N_clevisref02Fill F_clevisref02Split F_clevisref02asked F_clevisref02Copy fl R x k := by
  obtain ⟨⟨⟨x0Context_Size, x0Context_Write⟩, x0Maps⟩, x1, x2, x3⟩ := x; kernel_rfl
theorem S_clevisref02Fill {F_clevisref02Split : FT ps_clevisref02Split qs_clevisref02Split} {F_clevisref02asked : FT ps_clevisref02asked qs_clevisref02asked} {F_clevisref02Copy : FT ps_clevisref02Copy qs_clevisref02Copy} (h_clevisref02Split : SpecOk Try.prog 22 (mkS ps_clevisref02Split qs_clevisref02Split F_clevisref02Split)) (h_clevisref02asked : SpecOk Try.prog 43 (mkS ps_clevisref02asked qs_clevisref02asked F_clevisref02asked)) (h_clevisref02Copy : SpecOk Try.prog 30 (mkS ps_clevisref02Copy qs_clevisref02Copy F_clevisref02Copy)) : SpecOk Try.prog 34 (mkS ps_clevisref02Fill qs_clevisref02Fill (N_clevisref02Fill F_clevisref02Split F_clevisref02asked F_clevisref02Copy W.big)) :=
  specOk_mk (fl := W.big) (d := 12) (cfgOk_cons (cfgOk_cons (cfgOk_cons base h_clevisref02Copy) h_clevisref02asked) h_clevisref02Split) (fun R x k => Q_clevisref02Fill W.big R x k)
noncomputable def F_clevisref02Fill : FT ps_clevisref02Fill qs_clevisref02Fill := N_clevisref02Fill F_clevisref02Split F_clevisref02asked F_clevisref02Copy W.big
theorem ok_clevisref02Fill : SpecOk Try.prog 34 (mkS ps_clevisref02Fill qs_clevisref02Fill F_clevisref02Fill) := S_clevisref02Fill ok_clevisref02Split ok_clevisref02asked ok_clevisref02Copy
abbrev ps_clevisref01Put : List PT := [.one (.int .u64), .one (.int .i64)]
abbrev qs_clevisref01Put : List PT := [.one (.slice (.int .u8))]
noncomputable def PL_clevisref01Put_3_0 (F_clevisref01Size : FT ps_clevisref01Size qs_clevisref01Size) (fl : Nat)  (R : Type) (k : PTs.D qs_clevisref01Put → Option R) : LoopI R :=
  locate (Cw Try.prog [(42, mkS ps_clevisref01Size qs_clevisref01Size F_clevisref01Size)] hintsF) fl (call (Cw Try.prog [(42, mkS ps_clevisref01Size qs_clevisref01Size F_clevisref01Size)] hintsF) fl 11) 0 36 3 [] (getR qs_clevisref01Put k)
noncomputable def P_clevisref01Put_3_0 (F_clevisref01Size : FT ps_clevisref01Size qs_clevisref01Size) (fl : Nat)  (n : Nat) (R : Type) (y0 : Int) (y1 : Int) (y2 : Nat) (y3 : Int) (y4 : List Int) (k : PTs.D qs_clevisref01Put → Option R) : Option R :=
  loopH (PL_clevisref01Put_3_0 F_clevisref01Size fl  R k).body (PL_clevisref01Put_3_0 F_clevisref01Size fl  R k).head n (some (
      S.mk
        [V.int IntKind.u64 y0, V.int IntKind.i64 y1, V.any, V.any, V.any, V.sl 0 1 y2, V.int IntKind.i64 y3, V.any, V.any, V.any, V.any, V.any, V.any, V.any, V.any, V.any, V.any, V.any, V.any, V.any, V.any,
          V.any, V.any, V.any, V.any, V.any]
        [] [Blk.row (Ty.int IntKind.u8) y4])) (PL_clevisref01Put_3_0 F_clevisref01Size fl  R k).kont
theorem P_clevisref01Put_3_0_s {F_clevisref01Size : FT ps_clevisref01Size qs_clevisref01Size} (fl : Nat)  (n : Nat) (R : Type) (y0 : Int) (y1 : Int) (y2 : Nat) (y3 : Int) (y4 : List Int) (k : PTs.D qs_clevisref01Put → Option R) : P_clevisref01Put_3_0 F_clevisref01Size fl  (n + 1) R y0 y1 y2 y3 y4 k =
      br (W.lt y3 y1)
        (F_clevisref01Size R y1 fun y =>
          br (W.pick true y false)
            (br (W.leN (W.mulN (W.addN y2 1) 1) 140737488355328)
              (P_clevisref01Put_3_0 F_clevisref01Size fl n R y0 y1 (W.addN y2 1) (W.wrap IntKind.i64 (W.add y3 1))
                (W.app y4 [W.wrap IntKind.u8 (W.shr IntKind.u64 y0 (W.wrap IntKind.u64 (W.wrap IntKind.i64 (W.mul 8 y3))))]) k)
              none)
            (k y4))
        (k y4) := by kernel_rfl
noncomputable def N_clevisref01Put (F_clevisref01Size : FT ps_clevisref01Size qs_clevisref01Size) (fl : Nat) : FT ps_clevisref01Put qs_clevisref01Put := fun R x k => match x with
  | (x0, x1) => 
      P_clevisref01Put_3_0 F_clevisref01Size fl fl R x0 x1 0 0 [] k
theorem Q_clevisref01Put {F_clevisref01Size : FT ps_clevisref01Size qs_clevisref01Size} (fl : Nat) (R : Type) (x : PTs.D ps_clevisref01Put) (k : PTs.D qs_clevisref01Put → Option R) : call (Cw Try.prog [(42, mkS ps_clevisref01Size qs_clevisref01Size F_clevisref01Size)] hintsF) fl 12 36 (encL true ps_clevisref01Put x) [] (getR qs_clevisref01Put k) = N_clevisref01Put F_clevisref01Size fl R x k := by
  obtain ⟨x0, x1⟩ := x; kernel_rfl
theorem S_clevisref01Put {F_clevisref01Size : FT ps_clevisref01Size qs_clevisref01Size} (h_clevisref01Size : SpecOk Try.prog 42 (mkS ps_clevisref01Size qs_clevisref01Size F_clevisref01Size)) : SpecOk Try.prog 36 (mkS ps_clevisref01Put qs_clevisref01Put (N_clevisref01Put F_clevisref01Size W.big)) :=
  specOk_mk (fl := W.big) (d := 12) (cfgOk_cons base h_clevisref01Size) (fun R x k => Q_clevisref01Put W.big R x k)
noncomputable def F_clevisref01Put : FT ps_clevisref01Put qs_clevisref01Put := N_clevisref01Put F_clevisref01Size W.big
theorem ok_clevisref01Put : SpecOk Try.prog 36 (mkS ps_clevisref01Put qs_clevisref01Put F_clevisref01Put) := S_clevisref01Put ok_clevisref01Size
abbrev ps_clevisref02Store : List PT := [.agg ((.prod ((.prod (.int .i64) (.bool))) (.slice ((.prod (.int .i64) (.bool)))))), .one (.slice (.slice (.int .u8))), .one (.int .u64), .one (.int .i64), .one (.int .u64)]
abbrev qs_clevisref02Store : List PT := [.one (.slice (.slice (.int .u8))), .one (.int .i64)]
noncomputable def N_clevisref02Store (F_clevisref01Size : FT ps_clevisref01Size qs_clevisref01Size) (F_clevisref02Fill : FT ps_clevisref02Fill qs_clevisref02Fill) (F_clevisref01Put : FT ps_clevisref01Put qs_clevisref01Put)  : FT ps_clevisref02Store qs_clevisref02Store := fun R x k => match x with
  | (((x0Context_Size, x0Context_Write), x0Maps), x1, x2, x3, x4) => 
      F_clevisref01Size R x3 fun y => br (W.not y) (k ([], 2)) (F_clevisref01Put R (x4, x3) fun y => F_clevisref02Fill R (((x0Context_Size, x0Context_Write), x0Maps), x1, x2, y) fun y => k (y.1, y.2))
theorem S_clevisref02Store {F_clevisref01Size : FT ps_clevisref01Size qs_clevisref01Size} {F_clevisref02Fill : FT ps_clevisref02Fill qs_clevisref02Fill} {F_clevisref01Put : FT ps_clevisref01Put qs_clevisref01Put} (h_clevisref01Size : SpecOk Try.prog 42 (mkS ps_clevisref01Size qs_clevisref01Size F_clevisref01Size)) (h_clevisref02Fill : SpecOk Try.prog 34 (mkS ps_clevisref02Fill qs_clevisref02Fill F_clevisref02Fill)) (h_clevisref01Put : SpecOk Try.prog 36 (mkS ps_clevisref01Put qs_clevisref01Put F_clevisref01Put)) : SpecOk Try.prog 32 (mkS ps_clevisref02Store qs_clevisref02Store (N_clevisref02Store F_clevisref01Size F_clevisref02Fill F_clevisref01Put)) :=
  specOk_mk (fl := 10) (d := 12) (cfgOk_cons (cfgOk_cons (cfgOk_cons base h_clevisref01Put) h_clevisref02Fill) h_clevisref01Size) (by rintro R ⟨⟨⟨x0Context_Size, x0Context_Write⟩, x0Maps⟩, x1, x2, x3, x4⟩ k; kernel_rfl)
noncomputable def F_clevisref02Store : FT ps_clevisref02Store qs_clevisref02Store := N_clevisref02Store F_clevisref01Size F_clevisref02Fill F_clevisref01Put 
theorem ok_clevisref02Store : SpecOk Try.prog 32 (mkS ps_clevisref02Store qs_clevisref02Store F_clevisref02Store) := S_clevisref02Store ok_clevisref01Size ok_clevisref02Fill ok_clevisref01Put
abbrev ps_clevislaw02MemStores : List PT := [.agg ((.prod ((.prod (.int .i64) (.bool))) (.slice ((.prod (.int .i64) (.bool)))))), .one (.slice (.slice (.int .u8))), .one (.int .u64), .one (.int .i64), .one (.int .u64), .one (.slice (.int .u8))]
noncomputable def L_clevislaw02MemStores (F_mem_Fill : FT ps_mem_Fill qs_mem_Fill) (F_mem_Store : FT ps_mem_Store qs_mem_Store) (F_clevislaw02heads : FT ps_clevislaw02heads qs_clevislaw02heads) (F_clevisref02Same : FT ps_clevisref02Same qs_clevisref02Same) (F_clevisref02Copy : FT ps_clevisref02Copy qs_clevisref02Copy) (F_clevisref02Fill : FT ps_clevisref02Fill qs_clevisref02Fill) (F_clevisref02Store : FT ps_clevisref02Store qs_clevisref02Store)  (x : PTs.D ps_clevislaw02MemStores) : Option Unit := match x with
  | (((x0Context_Size, x0Context_Write), x0Maps), x1, x2, x3, x4, x5) => 
      F_clevisref02Copy Unit x1 fun y =>
        F_mem_Store Unit (((x0Context_Size, x0Context_Write), x0Maps), y, x2, x3, x4) fun y_1 =>
          F_clevisref02Store Unit (((x0Context_Size, x0Context_Write), x0Maps), x1, x2, x3, x4) fun y_2 =>
            F_mem_Fill Unit (((x0Context_Size, x0Context_Write), x0Maps), y, x2, x5) fun y_3 =>
              F_clevisref02Fill Unit (((x0Context_Size, x0Context_Write), x0Maps), x1, x2, x5) fun y_4 =>
                F_clevisref02Same Unit (y_1.1, y_2.1) fun y_5 =>
                  br (W.pick y_5 (W.eq y_1.2 y_2.2) false)
                    (F_clevisref02Same Unit (y_3.1, y_4.1) fun y_6 =>
                      br (W.pick (W.pick true y_6 false) (W.eq y_3.2 y_4.2) false)
                        (F_clevisref02Same Unit (y, x1) fun y => br (W.pick true y false) (F_clevislaw02heads Unit () fun y => br (W.pick true y false) (some ()) none) none) none)
                    none
theorem E_clevislaw02MemStores {F_mem_Fill : FT ps_mem_Fill qs_mem_Fill} {F_mem_Store : FT ps_mem_Store qs_mem_Store} {F_clevislaw02heads : FT ps_clevislaw02heads qs_clevislaw02heads} {F_clevisref02Same : FT ps_clevisref02Same qs_clevisref02Same} {F_clevisref02Copy : FT ps_clevisref02Copy qs_clevisref02Copy} {F_clevisref02Fill : FT ps_clevisref02Fill qs_clevisref02Fill} {F_clevisref02Store : FT ps_clevisref02Store qs_clevisref02Store} (h_mem_Fill : SpecOk Try.prog 33 (mkS ps_mem_Fill qs_mem_Fill F_mem_Fill)) (h_mem_Store : SpecOk Try.prog 31 (mkS ps_mem_Store qs_mem_Store F_mem_Store)) (h_clevislaw02heads : SpecOk Try.prog 12 (mkS ps_clevislaw02heads qs_clevislaw02heads F_clevislaw02heads)) (h_clevisref02Same : SpecOk Try.prog 17 (mkS ps_clevisref02Same qs_clevisref02Same F_clevisref02Same)) (h_clevisref02Copy : SpecOk Try.prog 30 (mkS ps_clevisref02Copy qs_clevisref02Copy F_clevisref02Copy)) (h_clevisref02Fill : SpecOk Try.prog 34 (mkS ps_clevisref02Fill qs_clevisref02Fill F_clevisref02Fill)) (h_clevisref02Store : SpecOk Try.prog 32 (mkS ps_clevisref02Store qs_clevisref02Store F_clevisref02Store)) (x : PTs.D ps_clevislaw02MemStores) (hL : L_clevislaw02MemStores F_mem_Fill F_mem_Store F_clevislaw02heads F_clevisref02Same F_clevisref02Copy F_clevisref02Fill F_clevisref02Store x = some ()) :
    ∃ (C : Cfg) (fl d : Nat), CfgOk C ∧ C.P = Try.prog ∧ call C fl d 6 (encL false ps_clevislaw02MemStores x) [] getL = some () :=
  ⟨_, 10, 12, (cfgOk_cons (cfgOk_cons (cfgOk_cons (cfgOk_cons (cfgOk_cons (cfgOk_cons (cfgOk_cons base h_clevisref02Store) h_clevisref02Fill) h_clevisref02Copy) h_clevisref02Same) h_clevislaw02heads) h_mem_Store) h_mem_Fill), rfl, (show _ = L_clevislaw02MemStores F_mem_Fill F_mem_Store F_clevislaw02heads F_clevisref02Same F_clevisref02Copy F_clevisref02Fill F_clevisref02Store x by obtain ⟨⟨⟨x0Context_Size, x0Context_Write⟩, x0Maps⟩, x1, x2, x3, x4, x5⟩ := x; kernel_rfl).trans hL⟩
abbrev ps_clevislaw02MemBack : List PT := [.agg ((.prod ((.prod (.int .i64) (.bool))) (.slice ((.prod (.int .i64) (.bool)))))), .one (.slice (.slice (.int .u8))), .one (.int .u64), .one (.int .i64), .one (.int .u64), .one (.int .u64)]
noncomputable def L_clevislaw02MemBack (F_mem_May : FT ps_mem_May qs_mem_May) (F_mem_Load : FT ps_mem_Load qs_mem_Load) (F_mem_Store : FT ps_mem_Store qs_mem_Store) (F_clevislaw02heads : FT ps_clevislaw02heads qs_clevislaw02heads) (F_clevisref01Get : FT ps_clevisref01Get qs_clevisref01Get) (F_clevisref01Put : FT ps_clevisref01Put qs_clevisref01Put)  (x : PTs.D ps_clevislaw02MemBack) : Option Unit := match x with
  | (((x0Context_Size, x0Context_Write), x0Maps), x1, x2, x3, x4, x5) => 
      F_mem_Store Unit (((x0Context_Size, x0Context_Write), x0Maps), x1, x2, x3, x4) fun y =>
        br (W.ne y.2 0) (br (W.eq (W.ofNat (W.len y.1)) 0) (F_clevislaw02heads Unit () fun y => br (W.pick true y false) (some ()) none) none)
          (F_mem_Load Unit (((x0Context_Size, x0Context_Write), x0Maps), y.1, x2, x3) fun y_1 =>
            br (W.not (W.ne y_1.2 0))
              (F_mem_May Unit (((x0Context_Size, x0Context_Write), x0Maps), y.1) fun y_2 =>
                br (W.not (W.pick false true (W.not y_2)))
                  (F_clevisref01Put Unit (x4, x3) fun y_3 =>
                    F_clevisref01Get Unit y_3 fun y_4 =>
                      br (W.pick false true (W.ne y_1.1 y_4)) none
                        (F_mem_Load Unit (((x0Context_Size, x0Context_Write), x0Maps), x1, x5, 1) fun y_5 =>
                          F_mem_Load Unit (((x0Context_Size, x0Context_Write), x0Maps), y.1, x5, 1) fun y =>
                            br (W.ne y_5.2 y.2) none
                              (br (W.pick (W.pick (W.ge x5 x2) (W.lt (W.wrap IntKind.u64 (W.sub x5 x2)) (W.wrap IntKind.u64 x3)) false) true (W.eq y_5.1 y.1))
                                (F_clevislaw02heads Unit () fun y => br (W.pick true y false) (some ()) none) none)))
                  none)
              none)
theorem E_clevislaw02MemBack {F_mem_May : FT ps_mem_May qs_mem_May} {F_mem_Load : FT ps_mem_Load qs_mem_Load} {F_mem_Store : FT ps_mem_Store qs_mem_Store} {F_clevislaw02heads : FT ps_clevislaw02heads qs_clevislaw02heads} {F_clevisref01Get : FT ps_clevisref01Get qs_clevisref01Get} {F_clevisref01Put : FT ps_clevisref01Put qs_clevisref01Put} (h_mem_May : SpecOk Try.prog 19 (mkS ps_mem_May qs_mem_May F_mem_May)) (h_mem_Load : SpecOk Try.prog 26 (mkS ps_mem_Load qs_mem_Load F_mem_Load)) (h_mem_Store : SpecOk Try.prog 31 (mkS ps_mem_Store qs_mem_Store F_mem_Store)) (h_clevislaw02heads : SpecOk Try.prog 12 (mkS ps_clevislaw02heads qs_clevislaw02heads F_clevislaw02heads)) (h_clevisref01Get : SpecOk Try.prog 35 (mkS ps_clevisref01Get qs_clevisref01Get F_clevisref01Get)) (h_clevisref01Put : SpecOk Try.prog 36 (mkS ps_clevisref01Put qs_clevisref01Put F_clevisref01Put)) (x : PTs.D ps_clevislaw02MemBack) (hL : L_clevislaw02MemBack F_mem_May F_mem_Load F_mem_Store F_clevislaw02heads F_clevisref01Get F_clevisref01Put x = some ()) :
    ∃ (C : Cfg) (fl d : Nat), CfgOk C ∧ C.P = Try.prog ∧ call C fl d 7 (encL false ps_clevislaw02MemBack x) [] getL = some () :=
  ⟨_, 10, 12, (cfgOk_cons (cfgOk_cons (cfgOk_cons (cfgOk_cons (cfgOk_cons (cfgOk_cons base h_clevisref01Put) h_clevisref01Get) h_clevislaw02heads) h_mem_Store) h_mem_Load) h_mem_May), rfl, (show _ = L_clevislaw02MemBack F_mem_May F_mem_Load F_mem_Store F_clevislaw02heads F_clevisref01Get F_clevisref01Put x by obtain ⟨⟨⟨x0Context_Size, x0Context_Write⟩, x0Maps⟩, x1, x2, x3, x4, x5⟩ := x; kernel_rfl).trans hL⟩
abbrev ps_clevislaw02MemParts : List PT := [.one (.int .i64), .one (.int .i64)]
noncomputable def L_clevislaw02MemParts (F_mem_Address : FT ps_mem_Address qs_mem_Address) (F_mem_Split : FT ps_mem_Split qs_mem_Split) (F_clevislaw02heads : FT ps_clevislaw02heads qs_clevislaw02heads)  (x : PTs.D ps_clevislaw02MemParts) : Option Unit := match x with
  | (x0, x1) => 
      br (W.pick (W.pick (W.pick (W.lt x0 0) true (W.ge x0 2147483648)) true (W.lt x1 0)) true (W.ge x1 4294967296)) (F_clevislaw02heads Unit () fun y => br y (some ()) none)
        (F_mem_Address Unit (x0, x1) fun y =>
          F_mem_Split Unit y fun y => br (W.pick (W.eq y.1 x0) (W.eq y.2 x1) false) (F_clevislaw02heads Unit () fun y => br (W.pick true y false) (some ()) none) none)
theorem E_clevislaw02MemParts {F_mem_Address : FT ps_mem_Address qs_mem_Address} {F_mem_Split : FT ps_mem_Split qs_mem_Split} {F_clevislaw02heads : FT ps_clevislaw02heads qs_clevislaw02heads} (h_mem_Address : SpecOk Try.prog 14 (mkS ps_mem_Address qs_mem_Address F_mem_Address)) (h_mem_Split : SpecOk Try.prog 21 (mkS ps_mem_Split qs_mem_Split F_mem_Split)) (h_clevislaw02heads : SpecOk Try.prog 12 (mkS ps_clevislaw02heads qs_clevislaw02heads F_clevislaw02heads)) (x : PTs.D ps_clevislaw02MemParts) (hL : L_clevislaw02MemParts F_mem_Address F_mem_Split F_clevislaw02heads x = some ()) :
    ∃ (C : Cfg) (fl d : Nat), CfgOk C ∧ C.P = Try.prog ∧ call C fl d 8 (encL false ps_clevislaw02MemParts x) [] getL = some () :=
  ⟨_, 10, 12, (cfgOk_cons (cfgOk_cons (cfgOk_cons base h_clevislaw02heads) h_mem_Split) h_mem_Address), rfl, (show _ = L_clevislaw02MemParts F_mem_Address F_mem_Split F_clevislaw02heads x by obtain ⟨x0, x1⟩ := x; kernel_rfl).trans hL⟩
end Go.Proofs.Ythelcblaomahdaa
