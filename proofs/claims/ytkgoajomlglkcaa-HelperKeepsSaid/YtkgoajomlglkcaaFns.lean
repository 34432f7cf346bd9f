import Derived.Test.YtkgoajomlglkcaaProg
import Derived.Test.YtkgoajomlglkcaaEnwZ4
import Derived.Test.YtkgoajomlglkcaaEnwZ5
import Derived.WalkKit
import Derived.Lib.Walk
import Derived.Lib.SliceRun
import Derived.KernelRfl
set_option maxHeartbeats 0
set_option maxRecDepth 1000000
set_option linter.unusedVariables false
namespace Go.Proofs.Ytkgoajomlglkcaa
open Go Go.Eng
def hintsF : FuncId → Nat → List Hint := fun g id => if g == 17 && id == 23 then [.tmp 22 (.int .u8) false] else if g == 9 && id == 16 then [.tmp 24 (.int .u8) true] else if g == 8 && id == 5 then [.tmp 4 (.int .u8) true] else if g == 16 && id == 3 then [.tmp 3 (.int .u8) true] else []
theorem base : CfgOk (Cw Try.prog [] hintsF) := cfgOk_nil (noGo_of (by kernel_rfl)) (by kernel_rfl) (by kernel_rfl)
abbrev ps_clevisref02Check : List PT := [.agg ((.prod ((.prod (.int .i64) (.bool))) (.slice ((.prod (.int .i64) (.bool))))))]
abbrev qs_clevisref02Check : List PT := [.one (.int .i64)]
noncomputable def PL_clevisref02Check_4_0  (fl : Nat)  (R : Type) (k : PTs.D qs_clevisref02Check → Option R) : LoopI R :=
  locate (Cw Try.prog [] hintsF) fl (call (Cw Try.prog [] hintsF) fl 11) 0 23 4 [] (getR qs_clevisref02Check k)
noncomputable def P_clevisref02Check_4_0  (fl : Nat)  (n : Nat) (R : Type) (y0 : Int) (y1 : Int) (y2 : Bool) (y3 : List (Int × Bool)) (k : PTs.D qs_clevisref02Check → Option R) : Option R :=
  loopH (PL_clevisref02Check_4_0  fl  R k).body (PL_clevisref02Check_4_0  fl  R k).head n (some (
      S.mk
        [V.any, V.ptr 0 0, V.any, V.int IntKind.i64 y0, V.any, V.any, V.any, V.any, V.any, V.any, V.any, V.any, V.any, V.any, V.any, V.any, V.any, V.any, V.any, V.any, V.any, V.any, V.any, V.any, V.any,
          V.any, V.any, V.any, V.any, V.any, V.any, V.any, V.any, V.any, V.any, V.any, V.any, V.any, V.any, V.any, V.any, V.any, V.any]
        [] [Blk.cells [V.int IntKind.i64 y1, V.bool y2, V.ro true (Ty.prod (Ty.int IntKind.i64) Ty.bool) y3]])) (PL_clevisref02Check_4_0  fl  R k).kont
theorem P_clevisref02Check_4_0_s  (fl : Nat)  (n : Nat) (R : Type) (y0 : Int) (y1 : Int) (y2 : Bool) (y3 : List (Int × Bool)) (k : PTs.D qs_clevisref02Check → Option R) : P_clevisref02Check_4_0  fl  (n + 1) R y0 y1 y2 y3 k =
      br (W.lt y0 (W.ofNat (W.len y3)))
        (br (W.and2 (W.le 0 y0) (W.lt y0 (W.ofNat (W.len y3))))
          (br (W.or2 (W.not (W.not (W.lt (W.get y3 (W.toNat y0) (0, false)).1 1))) (W.and2 (W.le 0 y0) (W.lt y0 (W.ofNat (W.len y3)))))
            (br (W.pick (W.lt (W.get y3 (W.toNat y0) (0, false)).1 1) true (W.gt (W.get y3 (W.toNat y0) (0, false)).1 4096)) (k 22) (P_clevisref02Check_4_0 fl n R (W.wrap IntKind.i64 (W.add y0 1)) y1 y2 y3 k)) none)
          none)
        (k 0) := by kernel_rfl
noncomputable def N_clevisref02Check  (fl : Nat) : FT ps_clevisref02Check qs_clevisref02Check := fun R x k => match x with
  | ((x0Context_Size, x0Context_Write), x0Maps) => 
      br (W.pick (W.pick (W.lt x0Context_Size 0) true (W.gt x0Context_Size 4096)) true (W.gt (W.ofNat (W.len x0Maps)) 8)) (k 22) (P_clevisref02Check_4_0 fl fl R 0 x0Context_Size x0Context_Write x0Maps k)
theorem Q_clevisref02Check  (fl : Nat) (R : Type) (x : PTs.D ps_clevisref02Check) (k : PTs.D qs_clevisref02Check → Option R) : call (Cw Try.prog [] hintsF) fl 12 23 (encL true ps_clevisref02Check x) [] (getR qs_clevisref02Check k) = N_clevisref02Check  fl R x k := by
  obtain ⟨⟨x0Context_Size, x0Context_Write⟩, x0Maps⟩ := x; kernel_rfl
theorem S_clevisref02Check   : SpecOk Try.prog 23 (mkS ps_clevisref02Check qs_clevisref02Check (N_clevisref02Check  W.big)) :=
  specOk_mk (fl := W.big) (d := 12) base (fun R x k => Q_clevisref02Check W.big R x k)
noncomputable def F_clevisref02Check : FT ps_clevisref02Check qs_clevisref02Check := N_clevisref02Check  W.big
theorem ok_clevisref02Check : SpecOk Try.prog 23 (mkS ps_clevisref02Check qs_clevisref02Check F_clevisref02Check) := S_clevisref02Check 
abbrev ps_clevisref02Area : List PT := [.agg ((.prod ((.prod (.int .i64) (.bool))) (.slice ((.prod (.int .i64) (.bool)))))), .one (.int .i64)]
abbrev qs_clevisref02Area : List PT := [.agg ((.prod (.int .i64) (.bool))), .one (.bool)]
noncomputable def N_clevisref02Area (F_clevisref02Check : FT ps_clevisref02Check qs_clevisref02Check)  : FT ps_clevisref02Area qs_clevisref02Area := fun R x k => match x with
  | (((x0Context_Size, x0Context_Write), x0Maps), x1) => 
      F_clevisref02Check R ((x0Context_Size, x0Context_Write), x0Maps) fun y =>
        br (W.ne y 0) (k ((0, false), false))
          (br (W.eq x1 1) (k ((x0Context_Size, x0Context_Write), true))
            (br (W.eq x1 2) (k ((512, true), true))
              (br (W.pick (W.ge x1 3) (W.lt x1 (W.wrap IntKind.i64 (W.add 3 (W.ofNat (W.len x0Maps))))) false)
                (br (W.and2 (W.le 0 (W.wrap IntKind.i64 (W.sub x1 3))) (W.lt (W.wrap IntKind.i64 (W.sub x1 3)) (W.ofNat (W.len x0Maps))))
                  (k (((W.get x0Maps (W.toNat (W.wrap IntKind.i64 (W.sub x1 3))) (0, false)).1, (W.get x0Maps (W.toNat (W.wrap IntKind.i64 (W.sub x1 3))) (0, false)).2), true)) none)
                (k ((0, false), false)))))
theorem S_clevisref02Area {F_clevisref02Check : FT ps_clevisref02Check qs_clevisref02Check} (h_clevisref02Check : SpecOk Try.prog 23 (mkS ps_clevisref02Check qs_clevisref02Check F_clevisref02Check)) : SpecOk Try.prog 24 (mkS ps_clevisref02Area qs_clevisref02Area (N_clevisref02Area F_clevisref02Check)) :=
  specOk_mk (fl := 10) (d := 12) (cfgOk_cons base h_clevisref02Check) (by rintro R ⟨⟨⟨x0Context_Size, x0Context_Write⟩, x0Maps⟩, x1⟩ k; kernel_rfl)
noncomputable def F_clevisref02Area : FT ps_clevisref02Area qs_clevisref02Area := N_clevisref02Area F_clevisref02Check 
theorem ok_clevisref02Area : SpecOk Try.prog 24 (mkS ps_clevisref02Area qs_clevisref02Area F_clevisref02Area) := S_clevisref02Area ok_clevisref02Check
abbrev ps_clevisref02Fresh : List PT := [.agg ((.prod ((.prod (.int .i64) (.bool))) (.slice ((.prod (.int .i64) (.bool))))))]
abbrev qs_clevisref02Fresh : List PT := [.one (.slice (.slice (.int .u8))), .one (.int .i64)]
noncomputable def PL_clevisref02Fresh_5_0 (F_clevisref02Check : FT ps_clevisref02Check qs_clevisref02Check) (F_clevisref02Area : FT ps_clevisref02Area qs_clevisref02Area) (fl : Nat)  (R : Type) (k : PTs.D qs_clevisref02Fresh → Option R) : LoopI R :=
  locate (Cw Try.prog [(23, mkS ps_clevisref02Check qs_clevisref02Check F_clevisref02Check), (24, mkS ps_clevisref02Area qs_clevisref02Area F_clevisref02Area)] hintsF) fl (call (Cw Try.prog [(23, mkS ps_clevisref02Check qs_clevisref02Check F_clevisref02Check), (24, mkS ps_clevisref02Area qs_clevisref02Area F_clevisref02Area)] hintsF) fl 11) 0 8 5 [] (getR qs_clevisref02Fresh k)
noncomputable def P_clevisref02Fresh_5_0 (F_clevisref02Check : FT ps_clevisref02Check qs_clevisref02Check) (F_clevisref02Area : FT ps_clevisref02Area qs_clevisref02Area) (fl : Nat)  (n : Nat) (R : Type) (y0 : Nat) (y1 : Int) (y2 : Int) (y3 : Bool) (y4 : List (Int × Bool)) (y5 : List (List Int)) (k : PTs.D qs_clevisref02Fresh → Option R) : Option R :=
  loopH (PL_clevisref02Fresh_5_0 F_clevisref02Check F_clevisref02Area fl  R k).body (PL_clevisref02Fresh_5_0 F_clevisref02Check F_clevisref02Area fl  R k).head n (some (
      S.mk
        [V.any, V.ptr 0 0, V.any, V.any, V.sl 1 1 y0, V.int IntKind.i64 y1, V.any, V.any, V.any, V.any, V.any, V.any, V.any, V.any, V.any, V.any, V.any, V.any, V.any, V.any, V.any, V.any, V.any, V.any,
          V.any, V.any, V.any, V.any, V.any, V.any, V.any, V.any, V.any]
        [] [Blk.cells [V.int IntKind.i64 y2, V.bool y3, V.ro true (Ty.prod (Ty.int IntKind.i64) Ty.bool) y4], Blk.rows (Ty.int IntKind.u8) y5])) (PL_clevisref02Fresh_5_0 F_clevisref02Check F_clevisref02Area fl  R k).kont
theorem P_clevisref02Fresh_5_0_s {F_clevisref02Check : FT ps_clevisref02Check qs_clevisref02Check} {F_clevisref02Area : FT ps_clevisref02Area qs_clevisref02Area} (fl : Nat)  (n : Nat) (R : Type) (y0 : Nat) (y1 : Int) (y2 : Int) (y3 : Bool) (y4 : List (Int × Bool)) (y5 : List (List Int)) (k : PTs.D qs_clevisref02Fresh → Option R) : P_clevisref02Fresh_5_0 F_clevisref02Check F_clevisref02Area fl  (n + 1) R y0 y1 y2 y3 y4 y5 k =
      br (W.lt y1 (W.wrap IntKind.i64 (W.add 2 (W.ofNat (W.len y4)))))
        (F_clevisref02Area R (((y2, y3), y4), W.wrap IntKind.i64 (W.add y1 1)) fun y =>
          br (W.and2 (W.le 0 y.1.1) (W.le (W.mul (W.ofNat 1) y.1.1) 281474976710656))
            (br (W.leN (W.mulN (W.addN y0 1) 24) 140737488355328)
              (P_clevisref02Fresh_5_0 F_clevisref02Check F_clevisref02Area fl n R (W.addN y0 1) (W.wrap IntKind.i64 (W.add y1 1)) y2 y3 y4 (W.app y5 [W.rep (W.toNat y.1.1) 0]) k) none)
            none)
        (k (y5, 0)) := by kernel_rfl
noncomputable def N_clevisref02Fresh (F_clevisref02Check : FT ps_clevisref02Check qs_clevisref02Check) (F_clevisref02Area : FT ps_clevisref02Area qs_clevisref02Area) (fl : Nat) : FT ps_clevisref02Fresh qs_clevisref02Fresh := fun R x k => match x with
  | ((x0Context_Size, x0Context_Write), x0Maps) => 
      F_clevisref02Check R ((x0Context_Size, x0Context_Write), x0Maps) fun y =>
        br (W.ne y 0) (k ([], 22)) (P_clevisref02Fresh_5_0 F_clevisref02Check F_clevisref02Area fl fl R 0 0 x0Context_Size x0Context_Write x0Maps [] k)
theorem Q_clevisref02Fresh {F_clevisref02Check : FT ps_clevisref02Check qs_clevisref02Check} {F_clevisref02Area : FT ps_clevisref02Area qs_clevisref02Area} (fl : Nat) (R : Type) (x : PTs.D ps_clevisref02Fresh) (k : PTs.D qs_clevisref02Fresh → Option R) : call (Cw Try.prog [(23, mkS ps_clevisref02Check qs_clevisref02Check F_clevisref02Check), (24, mkS ps_clevisref02Area qs_clevisref02Area F_clevisref02Area)] hintsF) fl 12 8 (encL true ps_clevisref02Fresh x) [] (getR qs_clevisref02Fresh k) = N_clevisref02Fresh F_clevisref02Check F_clevisref02Area fl R x k := by
  obtain ⟨⟨x0Context_Size, x0Context_Write⟩, x0Maps⟩ := x; kernel_rfl
theorem S_clevisref02Fresh {F_clevisref02Check : FT ps_clevisref02Check qs_clevisref02Check} {F_clevisref02Area : FT ps_clevisref02Area qs_clevisref02Area} (h_clevisref02Check : SpecOk Try.prog 23 (mkS ps_clevisref02Check qs_clevisref02Check F_clevisref02Check)) (h_clevisref02Area : SpecOk Try.prog 24 (mkS ps_clevisref02Area qs_clevisref02Area F_clevisref02Area)) : SpecOk Try.prog 8 (mkS ps_clevisref02Fresh qs_clevisref02Fresh (N_clevisref02Fresh F_clevisref02Check F_clevisref02Area W.big)) :=
  specOk_mk (fl := W.big) (d := 12) (cfgOk_cons (cfgOk_cons base h_clevisref02Area) h_clevisref02Check) (fun R x k => Q_clevisref02Fresh W.big R x k)
noncomputable def F_clevisref02Fresh : FT ps_clevisref02Fresh qs_clevisref02Fresh := N_clevisref02Fresh F_clevisref02Check F_clevisref02Area W.big
theorem ok_clevisref02Fresh : SpecOk Try.prog 8 (mkS ps_clevisref02Fresh qs_clevisref02Fresh F_clevisref02Fresh) := S_clevisref02Fresh ok_clevisref02Check ok_clevisref02Area
abbrev ps_helper_Table : List PT := [.one (.int .i64)]
abbrev qs_helper_Table : List PT := [.agg ((.prod (.str) (.prod (.slice (.int .i64)) (.int .i64)))), .one (.bool)]
noncomputable def N_helper_Table   : FT ps_helper_Table qs_helper_Table := fun R x k => match x with
  | x0 => 
      br (W.eq x0 1)
        (k
          ((ByteArray.mk
                (Array.mk
                  [UInt8.ofBitVec (BitVec.ofFin (Fin.mk 110 (Nat.mod_lt 110 (BitVec.ofNat._proof_1 8)))), UInt8.ofBitVec (BitVec.ofFin (Fin.mk 111 (Nat.mod_lt 111 (BitVec.ofNat._proof_1 8)))),
                    UInt8.ofBitVec (BitVec.ofFin (Fin.mk 119 (Nat.mod_lt 119 (BitVec.ofNat._proof_1 8))))]),
              [], 0),
            true))
        (br (W.eq x0 2)
          (k
            ((ByteArray.mk
                  (Array.mk
                    [UInt8.ofBitVec (BitVec.ofFin (Fin.mk 112 (Nat.mod_lt 112 (BitVec.ofNat._proof_1 8)))), UInt8.ofBitVec (BitVec.ofFin (Fin.mk 117 (Nat.mod_lt 117 (BitVec.ofNat._proof_1 8)))),
                      UInt8.ofBitVec (BitVec.ofFin (Fin.mk 116 (Nat.mod_lt 116 (BitVec.ofNat._proof_1 8))))]),
                [1], 0),
              true))
          (br (W.eq x0 3)
            (k
              ((ByteArray.mk
                    (Array.mk
                      [UInt8.ofBitVec (BitVec.ofFin (Fin.mk 115 (Nat.mod_lt 115 (BitVec.ofNat._proof_1 8)))), UInt8.ofBitVec (BitVec.ofFin (Fin.mk 101 (Nat.mod_lt 101 (BitVec.ofNat._proof_1 8)))),
                        UInt8.ofBitVec (BitVec.ofFin (Fin.mk 110 (Nat.mod_lt 110 (BitVec.ofNat._proof_1 8)))), UInt8.ofBitVec (BitVec.ofFin (Fin.mk 100 (Nat.mod_lt 100 (BitVec.ofNat._proof_1 8))))]),
                  [2, 4], 64),
                true))
            (br (W.eq x0 4)
              (k
                ((ByteArray.mk
                      (Array.mk
                        [UInt8.ofBitVec (BitVec.ofFin (Fin.mk 114 (Nat.mod_lt 114 (BitVec.ofNat._proof_1 8)))), UInt8.ofBitVec (BitVec.ofFin (Fin.mk 101 (Nat.mod_lt 101 (BitVec.ofNat._proof_1 8)))),
                          UInt8.ofBitVec (BitVec.ofFin (Fin.mk 99 (Nat.mod_lt 99 (BitVec.ofNat._proof_1 8)))), UInt8.ofBitVec (BitVec.ofFin (Fin.mk 118 (Nat.mod_lt 118 (BitVec.ofNat._proof_1 8))))]),
                    [3, 4], 64),
                  true))
              (br (W.eq x0 5)
                (k
                  ((ByteArray.mk
                        (Array.mk
                          [UInt8.ofBitVec (BitVec.ofFin (Fin.mk 109 (Nat.mod_lt 109 (BitVec.ofNat._proof_1 8)))), UInt8.ofBitVec (BitVec.ofFin (Fin.mk 105 (Nat.mod_lt 105 (BitVec.ofNat._proof_1 8)))),
                            UInt8.ofBitVec (BitVec.ofFin (Fin.mk 120 (Nat.mod_lt 120 (BitVec.ofNat._proof_1 8))))]),
                      [1, 1, 1], 0),
                    true))
                (k ((ByteArray.mk (Array.mk []), [], 0), false))))))
theorem S_helper_Table   : SpecOk Try.prog 11 (mkS ps_helper_Table qs_helper_Table (N_helper_Table )) :=
  specOk_mk (fl := 10) (d := 12) base (by intro R x0 k; kernel_rfl)
noncomputable def F_helper_Table : FT ps_helper_Table qs_helper_Table := N_helper_Table  
theorem ok_helper_Table : SpecOk Try.prog 11 (mkS ps_helper_Table qs_helper_Table F_helper_Table) := S_helper_Table 
abbrev ps_helper_Spans : List PT := [.one (.int .i64), .one (.slice (.int .u64))]
abbrev qs_helper_Spans : List PT := [.agg ((.prod (.int .u64) (.int .i64))), .agg ((.prod (.int .u64) (.int .i64))), .one (.bool)]
noncomputable def PL_helper_Spans_5_0 (F_helper_Table : FT ps_helper_Table qs_helper_Table) (fl : Nat)  (R : Type) (k : PTs.D qs_helper_Spans → Option R) : LoopI R :=
  locate (Cw Try.prog [(11, mkS ps_helper_Table qs_helper_Table F_helper_Table)] hintsF) fl (call (Cw Try.prog [(11, mkS ps_helper_Table qs_helper_Table F_helper_Table)] hintsF) fl 11) 0 13 5 [] (getR qs_helper_Spans k)
noncomputable def P_helper_Spans_5_0 (F_helper_Table : FT ps_helper_Table qs_helper_Table) (fl : Nat)  (n : Nat) (R : Type) (y0 : List Int) (y1 : List Int) (y2 : Int) (y3 : Int) (y4 : Int) (y5 : Int) (y6 : Int) (y7 : Int) (k : PTs.D qs_helper_Spans → Option R) : Option R :=
  loopH (PL_helper_Spans_5_0 F_helper_Table fl  R k).body (PL_helper_Spans_5_0 F_helper_Table fl  R k).head n (some (
      S.mk
        [V.any, V.ro true (Ty.int IntKind.u64) y0, V.any, V.any, V.ptr 0 0, V.ptr 1 0, V.any, V.any, V.any, V.any, V.any, V.any, V.any, V.any, V.any, V.any, V.any, V.any, V.any, V.any, V.any, V.any, V.any,
          V.any, V.any, V.any, V.any, V.any, V.ro false (Ty.int IntKind.i64) y1, V.int IntKind.i64 y2, V.int IntKind.i64 y3, V.any, V.any, V.any, V.any, V.any, V.any, V.any, V.any, V.any, V.any, V.any,
          V.any, V.any, V.any, V.any, V.any, V.any, V.any, V.any, V.any, V.any, V.any, V.any, V.any, V.any, V.any, V.any, V.any, V.any, V.any, V.any, V.any, V.any, V.any, V.any, V.any]
        [] [Blk.cells [V.int IntKind.u64 y4, V.int IntKind.i64 y5], Blk.cells [V.int IntKind.u64 y6, V.int IntKind.i64 y7]])) (PL_helper_Spans_5_0 F_helper_Table fl  R k).kont
theorem P_helper_Spans_5_0_s {F_helper_Table : FT ps_helper_Table qs_helper_Table} (fl : Nat)  (n : Nat) (R : Type) (y0 : List Int) (y1 : List Int) (y2 : Int) (y3 : Int) (y4 : Int) (y5 : Int) (y6 : Int) (y7 : Int) (k : PTs.D qs_helper_Spans → Option R) : P_helper_Spans_5_0 F_helper_Table fl  (n + 1) R y0 y1 y2 y3 y4 y5 y6 y7 k =
      br (W.lt y3 y2)
        (br (W.and2 (W.le 0 y3) (W.lt y3 (W.ofNat (W.len y1))))
          (br (W.eq (W.get y1 (W.toNat y3) 0) 2)
            (br (W.and2 (W.le 0 y3) (W.lt y3 (W.ofNat (W.len y0))))
              (br (W.and2 (W.le 0 (W.wrap IntKind.i64 (W.add y3 1))) (W.lt (W.wrap IntKind.i64 (W.add y3 1)) (W.ofNat (W.len y0))))
                (P_helper_Spans_5_0 F_helper_Table fl n R y0 y1 y2 (W.wrap IntKind.i64 (W.add y3 1)) (W.get y0 (W.toNat y3) 0) (W.wrap IntKind.i64 (W.min (W.get y0 (W.toNat (W.wrap IntKind.i64 (W.add y3 1))) 0) 65))
                  y6 y7 k)
                none)
              none)
            (br (W.eq (W.get y1 (W.toNat y3) 0) 3)
              (br (W.and2 (W.le 0 y3) (W.lt y3 (W.ofNat (W.len y0))))
                (br (W.and2 (W.le 0 (W.wrap IntKind.i64 (W.add y3 1))) (W.lt (W.wrap IntKind.i64 (W.add y3 1)) (W.ofNat (W.len y0))))
                  (P_helper_Spans_5_0 F_helper_Table fl n R y0 y1 y2 (W.wrap IntKind.i64 (W.add y3 1)) y4 y5 (W.get y0 (W.toNat y3) 0)
                    (W.wrap IntKind.i64 (W.min (W.get y0 (W.toNat (W.wrap IntKind.i64 (W.add y3 1))) 0) 65)) k)
                  none)
                none)
              (P_helper_Spans_5_0 F_helper_Table fl n R y0 y1 y2 (W.wrap IntKind.i64 (W.add y3 1)) y4 y5 y6 y7 k)))
          none)
        (k ((y4, y5), (y6, y7), true)) := by kernel_rfl
noncomputable def N_helper_Spans (F_helper_Table : FT ps_helper_Table qs_helper_Table) (fl : Nat) : FT ps_helper_Spans qs_helper_Spans := fun R x k => match x with
  | (x0, x1) => 
      F_helper_Table R x0 fun y =>
        br (W.pick (W.not y.2) true (W.lt (W.ofNat (W.len x1)) (W.ofNat (W.len y.1.2.1)))) (k ((0, 0), (0, 0), false)) (P_helper_Spans_5_0 F_helper_Table fl fl R x1 y.1.2.1 (W.ofNat (W.len y.1.2.1)) 0 0 0 0 0 k)
theorem Q_helper_Spans {F_helper_Table : FT ps_helper_Table qs_helper_Table} (fl : Nat) (R : Type) (x : PTs.D ps_helper_Spans) (k : PTs.D qs_helper_Spans → Option R) : call (Cw Try.prog [(11, mkS ps_helper_Table qs_helper_Table F_helper_Table)] hintsF) fl 12 13 (encL true ps_helper_Spans x) [] (getR qs_helper_Spans k) = N_helper_Spans F_helper_Table fl R x k := by
  obtain ⟨x0, x1⟩ := x; kernel_rfl
theorem S_helper_Spans {F_helper_Table : FT ps_helper_Table qs_helper_Table} (h_helper_Table : SpecOk Try.prog 11 (mkS ps_helper_Table qs_helper_Table F_helper_Table)) : SpecOk Try.prog 13 (mkS ps_helper_Spans qs_helper_Spans (N_helper_Spans F_helper_Table W.big)) :=
  specOk_mk (fl := W.big) (d := 12) (cfgOk_cons base h_helper_Table) (fun R x k => Q_helper_Spans W.big R x k)
noncomputable def F_helper_Spans : FT ps_helper_Spans qs_helper_Spans := N_helper_Spans F_helper_Table W.big
theorem ok_helper_Spans : SpecOk Try.prog 13 (mkS ps_helper_Spans qs_helper_Spans F_helper_Spans) := S_helper_Spans ok_helper_Table
abbrev ps_api_ArgKind_49 : List PT := [.one (.slice (.int .i64)), .one (.int .i64)]
abbrev qs_api_ArgKind_49 : List PT := [.one (.int .i64)]
noncomputable def PL_api_ArgKind_49_2_0  (fl : Nat)  (R : Type) (k : PTs.D qs_api_ArgKind_49 → Option R) : LoopI R :=
  locate (Cw Try.prog [] hintsF) fl (call (Cw Try.prog [] hintsF) fl 11) 0 49 2 [] (getR qs_api_ArgKind_49 k)
noncomputable def P_api_ArgKind_49_2_0  (fl : Nat)  (n : Nat) (R : Type) (y0 : List Int) (y1 : Int) (y2 : Int) (y3 : Int) (k : PTs.D qs_api_ArgKind_49 → Option R) : Option R :=
  loopH (PL_api_ArgKind_49_2_0  fl  R k).body (PL_api_ArgKind_49_2_0  fl  R k).head n (some (
      S.mk
        [V.ro true (Ty.int IntKind.i64) y0, V.int IntKind.i64 y1, V.any, V.any, V.any, V.any, V.any, V.int IntKind.i64 y2, V.int IntKind.i64 y3, V.any, V.any, V.any, V.any, V.any, V.any, V.any, V.any,
          V.any, V.any]
        [] [])) (PL_api_ArgKind_49_2_0  fl  R k).kont
theorem P_api_ArgKind_49_2_0_s  (fl : Nat)  (n : Nat) (R : Type) (y0 : List Int) (y1 : Int) (y2 : Int) (y3 : Int) (k : PTs.D qs_api_ArgKind_49 → Option R) : P_api_ArgKind_49_2_0  fl  (n + 1) R y0 y1 y2 y3 k =
      br (W.lt y3 y2) (br (W.and2 (W.le 0 y3) (W.lt y3 (W.ofNat (W.len y0)))) (br (W.eq y1 (W.get y0 (W.toNat y3) 0)) (k y3) (P_api_ArgKind_49_2_0 fl n R y0 y1 y2 (W.wrap IntKind.i64 (W.add y3 1)) k)) none) (k (-1)) := by kernel_rfl
noncomputable def N_api_ArgKind_49  (fl : Nat) : FT ps_api_ArgKind_49 qs_api_ArgKind_49 := fun R x k => match x with
  | (x0, x1) => 
      P_api_ArgKind_49_2_0 fl fl R x0 x1 (W.ofNat (W.len x0)) 0 k
theorem Q_api_ArgKind_49  (fl : Nat) (R : Type) (x : PTs.D ps_api_ArgKind_49) (k : PTs.D qs_api_ArgKind_49 → Option R) : call (Cw Try.prog [] hintsF) fl 12 49 (encL true ps_api_ArgKind_49 x) [] (getR qs_api_ArgKind_49 k) = N_api_ArgKind_49  fl R x k := by
  obtain ⟨x0, x1⟩ := x; kernel_rfl
theorem S_api_ArgKind_49   : SpecOk Try.prog 49 (mkS ps_api_ArgKind_49 qs_api_ArgKind_49 (N_api_ArgKind_49  W.big)) :=
  specOk_mk (fl := W.big) (d := 12) base (fun R x k => Q_api_ArgKind_49 W.big R x k)
noncomputable def F_api_ArgKind_49 : FT ps_api_ArgKind_49 qs_api_ArgKind_49 := N_api_ArgKind_49  W.big
theorem ok_api_ArgKind_49 : SpecOk Try.prog 49 (mkS ps_api_ArgKind_49 qs_api_ArgKind_49 F_api_ArgKind_49) := S_api_ArgKind_49 
abbrev ps_api_ArgKind_42 : List PT := [.one (.slice (.int .i64)), .one (.int .i64)]
abbrev qs_api_ArgKind_42 : List PT := [.one (.bool)]
noncomputable def N_api_ArgKind_42 (F_api_ArgKind_49 : FT ps_api_ArgKind_49 qs_api_ArgKind_49)  : FT ps_api_ArgKind_42 qs_api_ArgKind_42 := fun R x k => match x with
  | (x0, x1) => 
      F_api_ArgKind_49 R (x0, x1) fun y => k (W.ge y 0)
theorem S_api_ArgKind_42 {F_api_ArgKind_49 : FT ps_api_ArgKind_49 qs_api_ArgKind_49} (h_api_ArgKind_49 : SpecOk Try.prog 49 (mkS ps_api_ArgKind_49 qs_api_ArgKind_49 F_api_ArgKind_49)) : SpecOk Try.prog 42 (mkS ps_api_ArgKind_42 qs_api_ArgKind_42 (N_api_ArgKind_42 F_api_ArgKind_49)) :=
  specOk_mk (fl := 10) (d := 12) (cfgOk_cons base h_api_ArgKind_49) (by rintro R ⟨x0, x1⟩ k; kernel_rfl)
noncomputable def F_api_ArgKind_42 : FT ps_api_ArgKind_42 qs_api_ArgKind_42 := N_api_ArgKind_42 F_api_ArgKind_49 
theorem ok_api_ArgKind_42 : SpecOk Try.prog 42 (mkS ps_api_ArgKind_42 qs_api_ArgKind_42 F_api_ArgKind_42) := S_api_ArgKind_42 ok_api_ArgKind_49
abbrev ps_mem_Split : List PT := [.one (.int .u64)]
abbrev qs_mem_Split : List PT := [.one (.int .i64), .one (.int .i64)]
noncomputable def N_mem_Split   : FT ps_mem_Split qs_mem_Split := fun R x k => match x with
  | x0 => 
      k (W.wrap IntKind.i64 (W.shr IntKind.u64 x0 32), W.wrap IntKind.i64 (W.wrap IntKind.u32 x0))
theorem S_mem_Split   : SpecOk Try.prog 47 (mkS ps_mem_Split qs_mem_Split (N_mem_Split )) :=
  specOk_mk (fl := 10) (d := 12) base (by intro R x0 k; kernel_rfl)
noncomputable def F_mem_Split : FT ps_mem_Split qs_mem_Split := N_mem_Split  
theorem ok_mem_Split : SpecOk Try.prog 47 (mkS ps_mem_Split qs_mem_Split F_mem_Split) := S_mem_Split 
abbrev ps_mem_Check : List PT := [.agg ((.prod ((.prod (.int .i64) (.bool))) (.slice ((.prod (.int .i64) (.bool))))))]
abbrev qs_mem_Check : List PT := [.one (.int .i64)]
noncomputable def PL_mem_Check_4_0  (fl : Nat)  (R : Type) (k : PTs.D qs_mem_Check → Option R) : LoopI R :=
  locate (Cw Try.prog [] hintsF) fl (call (Cw Try.prog [] hintsF) fl 11) 0 54 4 [] (getR qs_mem_Check k)
noncomputable def P_mem_Check_4_0  (fl : Nat)  (n : Nat) (R : Type) (y0 : List (Int × Bool)) (y1 : Int) (y2 : Int) (k : PTs.D qs_mem_Check → Option R) : Option R :=
  loopH (PL_mem_Check_4_0  fl  R k).body (PL_mem_Check_4_0  fl  R k).head n (some (
      S.mk
        [V.any, V.any, V.any, V.any, V.any, V.any, V.any, V.any, V.any, V.any, V.any, V.any, V.any, V.any, V.any, V.any, V.any, V.any, V.any, V.any, V.any, V.any,
          V.ro true (Ty.prod (Ty.int IntKind.i64) Ty.bool) y0, V.int IntKind.i64 y1, V.int IntKind.i64 y2, V.any, V.any, V.any, V.any, V.any, V.any, V.any, V.any, V.any, V.any, V.any, V.any]
        [] [])) (PL_mem_Check_4_0  fl  R k).kont
theorem P_mem_Check_4_0_s  (fl : Nat)  (n : Nat) (R : Type) (y0 : List (Int × Bool)) (y1 : Int) (y2 : Int) (k : PTs.D qs_mem_Check → Option R) : P_mem_Check_4_0  fl  (n + 1) R y0 y1 y2 k =
      br (W.lt y2 y1)
        (br (W.and2 (W.le 0 y2) (W.lt y2 (W.ofNat (W.len y0))))
          (br (W.pick (W.lt (W.get y0 (W.toNat y2) (0, false)).1 1) true (W.gt (W.get y0 (W.toNat y2) (0, false)).1 4096)) (k 22) (P_mem_Check_4_0 fl n R y0 y1 (W.wrap IntKind.i64 (W.add y2 1)) k)) none)
        (k 0) := by kernel_rfl
noncomputable def N_mem_Check  (fl : Nat) : FT ps_mem_Check qs_mem_Check := fun R x k => match x with
  | ((x0Context_Size, x0Context_Write), x0Maps) => 
      br (W.pick (W.pick (W.lt x0Context_Size 0) true (W.gt x0Context_Size 4096)) true (W.gt (W.ofNat (W.len x0Maps)) 8)) (k 22) (P_mem_Check_4_0 fl fl R x0Maps (W.ofNat (W.len x0Maps)) 0 k)
theorem Q_mem_Check  (fl : Nat) (R : Type) (x : PTs.D ps_mem_Check) (k : PTs.D qs_mem_Check → Option R) : call (Cw Try.prog [] hintsF) fl 12 54 (encL true ps_mem_Check x) [] (getR qs_mem_Check k) = N_mem_Check  fl R x k := by
  obtain ⟨⟨x0Context_Size, x0Context_Write⟩, x0Maps⟩ := x; kernel_rfl
theorem S_mem_Check   : SpecOk Try.prog 54 (mkS ps_mem_Check qs_mem_Check (N_mem_Check  W.big)) :=
  specOk_mk (fl := W.big) (d := 12) base (fun R x k => Q_mem_Check W.big R x k)
noncomputable def F_mem_Check : FT ps_mem_Check qs_mem_Check := N_mem_Check  W.big
theorem ok_mem_Check : SpecOk Try.prog 54 (mkS ps_mem_Check qs_mem_Check F_mem_Check) := S_mem_Check 
abbrev ps_mem_areas : List PT := [.agg ((.prod ((.prod (.int .i64) (.bool))) (.slice ((.prod (.int .i64) (.bool))))))]
abbrev qs_mem_areas : List PT := [.one (.slice ((.prod (.int .i64) (.bool))))]
noncomputable def N_mem_areas (F_mem_Check : FT ps_mem_Check qs_mem_Check)  : FT ps_mem_areas qs_mem_areas := fun R x k => match x with
  | ((x0Context_Size, x0Context_Write), x0Maps) => 
      F_mem_Check R ((x0Context_Size, x0Context_Write), x0Maps) fun y =>
        br (W.ne y 0) (k []) (br (W.leN (W.mulN (W.addN 2 (W.len x0Maps)) 16) 140737488355328) (k (W.app [(x0Context_Size, x0Context_Write), (512, true)] x0Maps)) none)
theorem S_mem_areas {F_mem_Check : FT ps_mem_Check qs_mem_Check} (h_mem_Check : SpecOk Try.prog 54 (mkS ps_mem_Check qs_mem_Check F_mem_Check)) : SpecOk Try.prog 52 (mkS ps_mem_areas qs_mem_areas (N_mem_areas F_mem_Check)) :=
  specOk_mk (fl := 10) (d := 12) (cfgOk_cons base h_mem_Check) (by rintro R ⟨⟨x0Context_Size, x0Context_Write⟩, x0Maps⟩ k; kernel_rfl)
noncomputable def F_mem_areas : FT ps_mem_areas qs_mem_areas := N_mem_areas F_mem_Check 
theorem ok_mem_areas : SpecOk Try.prog 52 (mkS ps_mem_areas qs_mem_areas F_mem_areas) := S_mem_areas ok_mem_Check
abbrev ps_mem_Area : List PT := [.agg ((.prod ((.prod (.int .i64) (.bool))) (.slice ((.prod (.int .i64) (.bool)))))), .one (.int .i64)]
abbrev qs_mem_Area : List PT := [.agg ((.prod (.int .i64) (.bool))), .one (.bool)]
noncomputable def N_mem_Area (F_mem_areas : FT ps_mem_areas qs_mem_areas)  : FT ps_mem_Area qs_mem_Area := fun R x k => match x with
  | (((x0Context_Size, x0Context_Write), x0Maps), x1) => 
      F_mem_areas R ((x0Context_Size, x0Context_Write), x0Maps) fun y =>
        br (W.pick (W.ge x1 1) (W.le x1 (W.ofNat (W.len y))) false)
          (br (W.and2 (W.le 0 (W.wrap IntKind.i64 (W.sub x1 1))) (W.lt (W.wrap IntKind.i64 (W.sub x1 1)) (W.ofNat (W.len y))))
            (k (((W.get y (W.toNat (W.wrap IntKind.i64 (W.sub x1 1))) (0, false)).1, (W.get y (W.toNat (W.wrap IntKind.i64 (W.sub x1 1))) (0, false)).2), true)) none)
          (k ((0, false), false))
theorem S_mem_Area {F_mem_areas : FT ps_mem_areas qs_mem_areas} (h_mem_areas : SpecOk Try.prog 52 (mkS ps_mem_areas qs_mem_areas F_mem_areas)) : SpecOk Try.prog 53 (mkS ps_mem_Area qs_mem_Area (N_mem_Area F_mem_areas)) :=
  specOk_mk (fl := 10) (d := 12) (cfgOk_cons base h_mem_areas) (by rintro R ⟨⟨⟨x0Context_Size, x0Context_Write⟩, x0Maps⟩, x1⟩ k; kernel_rfl)
noncomputable def F_mem_Area : FT ps_mem_Area qs_mem_Area := N_mem_Area F_mem_areas 
theorem ok_mem_Area : SpecOk Try.prog 53 (mkS ps_mem_Area qs_mem_Area F_mem_Area) := S_mem_Area ok_mem_areas
abbrev pa_errors_Is_1 : List PV := [(.iface 124 (.ptr 2 0)), (.iface 123 (.int .i64))]
abbrev ph_errors_Is_1 : List PB := [(.cells [(.int .i64), .bool, (.ro true (.prod (.int .i64) .bool))]), (.cells [(.int .i64), .bool, (.ro true (.prod (.int .i64) .bool))]), (.cells [(.int .u64), (.int .i64)]), (.row (.int .i64))]
abbrev pr_errors_Is_1 : PV := .bool
abbrev pz_errors_Is_1 : List PB := [(.cells [(.int .i64), .bool, (.ro true (.prod (.int .i64) .bool))]), (.cells [(.int .i64), .bool, (.ro true (.prod (.int .i64) .bool))]), (.cells [(.int .u64), (.int .i64)]), (.row (.int .i64))]
abbrev IT_errors_Is_1 : Type := (Int) × (Int) × (Bool) × (List (Int × Bool)) × (Int) × (Bool) × (List (Int × Bool)) × (Int) × (Int) × (List Int) × Unit
abbrev OT_errors_Is_1 : Type := (Bool) × (Int) × (Bool) × (List (Int × Bool)) × (Int) × (Bool) × (List (Int × Bool)) × (Int) × (Int) × (List Int) × Unit
abbrev TE_errors_Is_1 : Type 1 := (R : Type) → IT_errors_Is_1 → (OT_errors_Is_1 → Option R) → Option R
noncomputable def N_errors_Is_1   : TE_errors_Is_1 := fun R x k => match x with
  | (y0, y1, y2, y3, y4, y5, y6, y7, y8, y9, ()) => 
      br (W.pick true (W.eq y8 y0) false) (k (true, y1, y2, y3, y4, y5, y6, y7, y8, y9, ())) (k (false, y1, y2, y3, y4, y5, y6, y7, y8, y9, ()))
theorem S_errors_Is_1   : ESpOk Try.prog 26 (mkE pa_errors_Is_1 ph_errors_Is_1 pr_errors_Is_1 pz_errors_Is_1 (N_errors_Is_1 )) :=
  espOk_mk (fl := 22) (d := 11) base esOk_nil (by rintro R ⟨y0, y1, y2, y3, y4, y5, y6, y7, y8, y9, ⟨⟩⟩ k; kernel_rfl)
noncomputable def E_errors_Is_1 : TE_errors_Is_1 := N_errors_Is_1  
theorem okE_errors_Is_1 : ESpOk Try.prog 26 (mkE pa_errors_Is_1 ph_errors_Is_1 pr_errors_Is_1 pz_errors_Is_1 E_errors_Is_1) := S_errors_Is_1 
abbrev pa_errors_Is_2 : List PV := [(.iface 124 (.ptr 3 0)), (.iface 123 (.int .i64))]
abbrev ph_errors_Is_2 : List PB := [(.cells [(.int .i64), .bool, (.ro true (.prod (.int .i64) .bool))]), (.cells [(.int .i64), .bool, (.ro true (.prod (.int .i64) .bool))]), (.cells [(.int .i64), .bool]), (.cells [(.int .u64), (.int .i64)]), (.row (.int .i64))]
abbrev pr_errors_Is_2 : PV := .bool
abbrev pz_errors_Is_2 : List PB := [(.cells [(.int .i64), .bool, (.ro true (.prod (.int .i64) .bool))]), (.cells [(.int .i64), .bool, (.ro true (.prod (.int .i64) .bool))]), (.cells [(.int .i64), .bool]), (.cells [(.int .u64), (.int .i64)]), (.row (.int .i64))]
abbrev IT_errors_Is_2 : Type := (Int) × (Int) × (Bool) × (List (Int × Bool)) × (Int) × (Bool) × (List (Int × Bool)) × (Int) × (Bool) × (Int) × (Int) × (List Int) × Unit
abbrev OT_errors_Is_2 : Type := (Bool) × (Int) × (Bool) × (List (Int × Bool)) × (Int) × (Bool) × (List (Int × Bool)) × (Int) × (Bool) × (Int) × (Int) × (List Int) × Unit
abbrev TE_errors_Is_2 : Type 1 := (R : Type) → IT_errors_Is_2 → (OT_errors_Is_2 → Option R) → Option R
noncomputable def N_errors_Is_2   : TE_errors_Is_2 := fun R x k => match x with
  | (y0, y1, y2, y3, y4, y5, y6, y7, y8, y9, y10, y11, ()) => 
      br (W.pick true (W.eq y10 y0) false) (k (true, y1, y2, y3, y4, y5, y6, y7, y8, y9, y10, y11, ())) (k (false, y1, y2, y3, y4, y5, y6, y7, y8, y9, y10, y11, ()))
theorem S_errors_Is_2   : ESpOk Try.prog 26 (mkE pa_errors_Is_2 ph_errors_Is_2 pr_errors_Is_2 pz_errors_Is_2 (N_errors_Is_2 )) :=
  espOk_mk (fl := 22) (d := 11) base esOk_nil (by rintro R ⟨y0, y1, y2, y3, y4, y5, y6, y7, y8, y9, y10, y11, ⟨⟩⟩ k; kernel_rfl)
noncomputable def E_errors_Is_2 : TE_errors_Is_2 := N_errors_Is_2  
theorem okE_errors_Is_2 : ESpOk Try.prog 26 (mkE pa_errors_Is_2 ph_errors_Is_2 pr_errors_Is_2 pz_errors_Is_2 E_errors_Is_2) := S_errors_Is_2 
abbrev pa_errors_Is_3 : List PV := [.nili, (.iface 123 (.int .i64))]
abbrev ph_errors_Is_3 : List PB := [(.cells [(.int .i64), .bool, (.ro true (.prod (.int .i64) .bool))]), (.cells [(.int .i64), .bool, (.ro true (.prod (.int .i64) .bool))]), (.cells [(.int .i64), .bool]), (.row (.int .i64))]
abbrev pr_errors_Is_3 : PV := .bool
abbrev pz_errors_Is_3 : List PB := [(.cells [(.int .i64), .bool, (.ro true (.prod (.int .i64) .bool))]), (.cells [(.int .i64), .bool, (.ro true (.prod (.int .i64) .bool))]), (.cells [(.int .i64), .bool]), (.row (.int .i64))]
abbrev IT_errors_Is_3 : Type := (Int) × (Int) × (Bool) × (List (Int × Bool)) × (Int) × (Bool) × (List (Int × Bool)) × (Int) × (Bool) × (List Int) × Unit
abbrev OT_errors_Is_3 : Type := (Bool) × (Int) × (Bool) × (List (Int × Bool)) × (Int) × (Bool) × (List (Int × Bool)) × (Int) × (Bool) × (List Int) × Unit
abbrev TE_errors_Is_3 : Type 1 := (R : Type) → IT_errors_Is_3 → (OT_errors_Is_3 → Option R) → Option R
noncomputable def N_errors_Is_3   : TE_errors_Is_3 := fun R x k => match x with
  | (y0, y1, y2, y3, y4, y5, y6, y7, y8, y9, ()) => 
      k (false, y1, y2, y3, y4, y5, y6, y7, y8, y9, ())
theorem S_errors_Is_3   : ESpOk Try.prog 26 (mkE pa_errors_Is_3 ph_errors_Is_3 pr_errors_Is_3 pz_errors_Is_3 (N_errors_Is_3 )) :=
  espOk_mk (fl := 22) (d := 11) base esOk_nil (by rintro R ⟨y0, y1, y2, y3, y4, y5, y6, y7, y8, y9, ⟨⟩⟩ k; kernel_rfl)
noncomputable def E_errors_Is_3 : TE_errors_Is_3 := N_errors_Is_3  
theorem okE_errors_Is_3 : ESpOk Try.prog 26 (mkE pa_errors_Is_3 ph_errors_Is_3 pr_errors_Is_3 pz_errors_Is_3 E_errors_Is_3) := S_errors_Is_3 
abbrev ps_mem_Access : List PT := [.agg ((.prod ((.prod (.int .i64) (.bool))) (.slice ((.prod (.int .i64) (.bool)))))), .one (.int .u64), .one (.int .i64), .one (.bool)]
abbrev qs_mem_Access : List PT := [.one (.int .i64)]
noncomputable def N_mem_Access (F_mem_Split : FT ps_mem_Split qs_mem_Split) (F_mem_Area : FT ps_mem_Area qs_mem_Area) (E_errors_Is_1 : TE_errors_Is_1) (E_errors_Is_2 : TE_errors_Is_2) (E_errors_Is_3 : TE_errors_Is_3)  : FT ps_mem_Access qs_mem_Access := fun R x k => match x with
  | (((x0Context_Size, x0Context_Write), x0Maps), x1, x2, x3) => 
      br (W.pick (W.lt x2 1) true (W.gt x2 4096))
        (E_errors_Is_1 R (2, x0Context_Size, x0Context_Write, x0Maps, x0Context_Size, x0Context_Write, x0Maps, x1, 2, [2, 20, 21], ()) fun z =>
          br z.1 (k 2)
            (E_errors_Is_1 R
              (W.get z.2.2.2.2.2.2.2.2.2.1 1 0, z.2.1, z.2.2.1, z.2.2.2.1, z.2.2.2.2.1, z.2.2.2.2.2.1, z.2.2.2.2.2.2.1, z.2.2.2.2.2.2.2.1, z.2.2.2.2.2.2.2.2.1, z.2.2.2.2.2.2.2.2.2.1, ()) fun z_1 =>
              br z_1.1 (k (W.get z.2.2.2.2.2.2.2.2.2.1 1 0))
                (E_errors_Is_1 R
                  (W.get z_1.2.2.2.2.2.2.2.2.2.1 2 0, z_1.2.1, z_1.2.2.1, z_1.2.2.2.1, z_1.2.2.2.2.1, z_1.2.2.2.2.2.1, z_1.2.2.2.2.2.2.1, z_1.2.2.2.2.2.2.2.1, z_1.2.2.2.2.2.2.2.2.1, z_1.2.2.2.2.2.2.2.2.2.1,
                    ())
                  fun z => br z.1 (k (W.get z_1.2.2.2.2.2.2.2.2.2.1 2 0)) (k 0))))
        (F_mem_Split R x1 fun y =>
          F_mem_Area R (((x0Context_Size, x0Context_Write), x0Maps), y.1) fun y_1 =>
            br (W.pick (W.not y_1.2) true (W.gt y.2 (W.wrap IntKind.i64 (W.sub y_1.1.1 x2))))
              (E_errors_Is_2 R (2, x0Context_Size, x0Context_Write, x0Maps, x0Context_Size, x0Context_Write, x0Maps, y_1.1.1, y_1.1.2, x1, 20, [2, 20, 21], ()) fun z =>
                br z.1 (k 2)
                  (E_errors_Is_2 R
                    (W.get z.2.2.2.2.2.2.2.2.2.2.2.1 1 0, z.2.1, z.2.2.1, z.2.2.2.1, z.2.2.2.2.1, z.2.2.2.2.2.1, z.2.2.2.2.2.2.1, z.2.2.2.2.2.2.2.1, z.2.2.2.2.2.2.2.2.1, z.2.2.2.2.2.2.2.2.2.1,
                      z.2.2.2.2.2.2.2.2.2.2.1, z.2.2.2.2.2.2.2.2.2.2.2.1, ())
                    fun z_1 =>
                    br z_1.1 (k (W.get z.2.2.2.2.2.2.2.2.2.2.2.1 1 0))
                      (E_errors_Is_2 R
                        (W.get z_1.2.2.2.2.2.2.2.2.2.2.2.1 2 0, z_1.2.1, z_1.2.2.1, z_1.2.2.2.1, z_1.2.2.2.2.1, z_1.2.2.2.2.2.1, z_1.2.2.2.2.2.2.1, z_1.2.2.2.2.2.2.2.1, z_1.2.2.2.2.2.2.2.2.1,
                          z_1.2.2.2.2.2.2.2.2.2.1, z_1.2.2.2.2.2.2.2.2.2.2.1, z_1.2.2.2.2.2.2.2.2.2.2.2.1, ())
                        fun z => br z.1 (k (W.get z_1.2.2.2.2.2.2.2.2.2.2.2.1 2 0)) (k 0))))
              (br (W.pick x3 (W.not y_1.1.2) false)
                (E_errors_Is_2 R (2, x0Context_Size, x0Context_Write, x0Maps, x0Context_Size, x0Context_Write, x0Maps, y_1.1.1, y_1.1.2, x1, 21, [2, 20, 21], ()) fun z =>
                  br z.1 (k 2)
                    (E_errors_Is_2 R
                      (W.get z.2.2.2.2.2.2.2.2.2.2.2.1 1 0, z.2.1, z.2.2.1, z.2.2.2.1, z.2.2.2.2.1, z.2.2.2.2.2.1, z.2.2.2.2.2.2.1, z.2.2.2.2.2.2.2.1, z.2.2.2.2.2.2.2.2.1, z.2.2.2.2.2.2.2.2.2.1,
                        z.2.2.2.2.2.2.2.2.2.2.1, z.2.2.2.2.2.2.2.2.2.2.2.1, ())
                      fun z_1 =>
                      br z_1.1 (k (W.get z.2.2.2.2.2.2.2.2.2.2.2.1 1 0))
                        (E_errors_Is_2 R
                          (W.get z_1.2.2.2.2.2.2.2.2.2.2.2.1 2 0, z_1.2.1, z_1.2.2.1, z_1.2.2.2.1, z_1.2.2.2.2.1, z_1.2.2.2.2.2.1, z_1.2.2.2.2.2.2.1, z_1.2.2.2.2.2.2.2.1, z_1.2.2.2.2.2.2.2.2.1,
                            z_1.2.2.2.2.2.2.2.2.2.1, z_1.2.2.2.2.2.2.2.2.2.2.1, z_1.2.2.2.2.2.2.2.2.2.2.2.1, ())
                          fun z => br z.1 (k (W.get z_1.2.2.2.2.2.2.2.2.2.2.2.1 2 0)) (k 0))))
                (E_errors_Is_3 R (2, x0Context_Size, x0Context_Write, x0Maps, x0Context_Size, x0Context_Write, x0Maps, y_1.1.1, y_1.1.2, [2, 20, 21], ()) fun z =>
                  br z.1 (k 2)
                    (E_errors_Is_3 R
                      (W.get z.2.2.2.2.2.2.2.2.2.1 1 0, z.2.1, z.2.2.1, z.2.2.2.1, z.2.2.2.2.1, z.2.2.2.2.2.1, z.2.2.2.2.2.2.1, z.2.2.2.2.2.2.2.1, z.2.2.2.2.2.2.2.2.1, z.2.2.2.2.2.2.2.2.2.1, ())
                      fun z_1 =>
                      br z_1.1 (k (W.get z.2.2.2.2.2.2.2.2.2.1 1 0))
                        (E_errors_Is_3 R
                          (W.get z_1.2.2.2.2.2.2.2.2.2.1 2 0, z_1.2.1, z_1.2.2.1, z_1.2.2.2.1, z_1.2.2.2.2.1, z_1.2.2.2.2.2.1, z_1.2.2.2.2.2.2.1, z_1.2.2.2.2.2.2.2.1, z_1.2.2.2.2.2.2.2.2.1,
                            z_1.2.2.2.2.2.2.2.2.2.1, ())
                          fun z => br z.1 (k (W.get z_1.2.2.2.2.2.2.2.2.2.1 2 0)) (k 0))))))
theorem S_mem_Access {F_mem_Split : FT ps_mem_Split qs_mem_Split} {F_mem_Area : FT ps_mem_Area qs_mem_Area} {E_errors_Is_1 : TE_errors_Is_1} {E_errors_Is_2 : TE_errors_Is_2} {E_errors_Is_3 : TE_errors_Is_3} (h_mem_Split : SpecOk Try.prog 47 (mkS ps_mem_Split qs_mem_Split F_mem_Split)) (h_mem_Area : SpecOk Try.prog 53 (mkS ps_mem_Area qs_mem_Area F_mem_Area)) (h_errors_Is_1 : ESpOk Try.prog 26 (mkE pa_errors_Is_1 ph_errors_Is_1 pr_errors_Is_1 pz_errors_Is_1 E_errors_Is_1)) (h_errors_Is_2 : ESpOk Try.prog 26 (mkE pa_errors_Is_2 ph_errors_Is_2 pr_errors_Is_2 pz_errors_Is_2 E_errors_Is_2)) (h_errors_Is_3 : ESpOk Try.prog 26 (mkE pa_errors_Is_3 ph_errors_Is_3 pr_errors_Is_3 pz_errors_Is_3 E_errors_Is_3)) : SpecOk Try.prog 43 (mkS ps_mem_Access qs_mem_Access (N_mem_Access F_mem_Split F_mem_Area E_errors_Is_1 E_errors_Is_2 E_errors_Is_3)) :=
  specOkE_mk (fl := 22) (d := 12) (cfgOk_cons (cfgOk_cons base h_mem_Area) h_mem_Split) (esOk_cons (esOk_cons (esOk_cons esOk_nil h_errors_Is_3) h_errors_Is_2) h_errors_Is_1) (by rintro R ⟨⟨⟨x0Context_Size, x0Context_Write⟩, x0Maps⟩, x1, x2, x3⟩ k; kernel_rfl)
noncomputable def F_mem_Access : FT ps_mem_Access qs_mem_Access := N_mem_Access F_mem_Split F_mem_Area E_errors_Is_1 E_errors_Is_2 E_errors_Is_3 
theorem ok_mem_Access : SpecOk Try.prog 43 (mkS ps_mem_Access qs_mem_Access F_mem_Access) := S_mem_Access ok_mem_Split ok_mem_Area okE_errors_Is_1 okE_errors_Is_2 okE_errors_Is_3
abbrev ps_mem_May : List PT := [.agg ((.prod ((.prod (.int .i64) (.bool))) (.slice ((.prod (.int .i64) (.bool)))))), .one (.slice (.slice (.int .u8)))]
abbrev qs_mem_May : List PT := [.one (.bool)]
noncomputable def PL_mem_May_5_0 (F_mem_areas : FT ps_mem_areas qs_mem_areas) (fl : Nat)  (R : Type) (k : PTs.D qs_mem_May → Option R) : LoopI R :=
  locate (Cw Try.prog [(52, mkS ps_mem_areas qs_mem_areas F_mem_areas)] hintsF) fl (call (Cw Try.prog [(52, mkS ps_mem_areas qs_mem_areas F_mem_areas)] hintsF) fl 11) 0 44 5 [] (getR qs_mem_May k)
noncomputable def P_mem_May_5_0 (F_mem_areas : FT ps_mem_areas qs_mem_areas) (fl : Nat)  (n : Nat) (R : Type) (y0 : List (List Int)) (y1 : List (Int × Bool)) (y2 : Int) (y3 : Int) (k : PTs.D qs_mem_May → Option R) : Option R :=
  loopH (PL_mem_May_5_0 F_mem_areas fl  R k).body (PL_mem_May_5_0 F_mem_areas fl  R k).head n (some (
      S.mk
        [V.any, V.ro true (Ty.slice (Ty.int IntKind.u8)) y0, V.any, V.any, V.any, V.ro false (Ty.prod (Ty.int IntKind.i64) Ty.bool) y1, V.any, V.any, V.any, V.any, V.any, V.any, V.any, V.any, V.any, V.any,
          V.any, V.any, V.any, V.any, V.int IntKind.i64 y2, V.int IntKind.i64 y3, V.any, V.any, V.any, V.any, V.any, V.any, V.any, V.any, V.any, V.any, V.any, V.any, V.any, V.any]
        [] [])) (PL_mem_May_5_0 F_mem_areas fl  R k).kont
theorem P_mem_May_5_0_s {F_mem_areas : FT ps_mem_areas qs_mem_areas} (fl : Nat)  (n : Nat) (R : Type) (y0 : List (List Int)) (y1 : List (Int × Bool)) (y2 : Int) (y3 : Int) (k : PTs.D qs_mem_May → Option R) : P_mem_May_5_0 F_mem_areas fl  (n + 1) R y0 y1 y2 y3 k =
      br (W.lt y3 y2)
        (br (W.and2 (W.le 0 y3) (W.lt y3 (W.ofNat (W.len y0))))
          (br (W.and2 (W.le 0 y3) (W.lt y3 (W.ofNat (W.len y1))))
            (br (W.ne (W.ofNat (W.len (W.get y0 (W.toNat y3) []))) (W.get y1 (W.toNat y3) (0, false)).1) (k false) (P_mem_May_5_0 F_mem_areas fl n R y0 y1 y2 (W.wrap IntKind.i64 (W.add y3 1)) k)) none)
          none)
        (k true) := by kernel_rfl
noncomputable def N_mem_May (F_mem_areas : FT ps_mem_areas qs_mem_areas) (fl : Nat) : FT ps_mem_May qs_mem_May := fun R x k => match x with
  | (((x0Context_Size, x0Context_Write), x0Maps), x1) => 
      F_mem_areas R ((x0Context_Size, x0Context_Write), x0Maps) fun y =>
        br (W.pick (W.eq (W.ofNat (W.len y)) 0) true (W.ne (W.ofNat (W.len y)) (W.ofNat (W.len x1)))) (k false) (P_mem_May_5_0 F_mem_areas fl fl R x1 y (W.ofNat (W.len y)) 0 k)
theorem Q_mem_May {F_mem_areas : FT ps_mem_areas qs_mem_areas} (fl : Nat) (R : Type) (x : PTs.D ps_mem_May) (k : PTs.D qs_mem_May → Option R) : call (Cw Try.prog [(52, mkS ps_mem_areas qs_mem_areas F_mem_areas)] hintsF) fl 12 44 (encL true ps_mem_May x) [] (getR qs_mem_May k) = N_mem_May F_mem_areas fl R x k := by
  obtain ⟨⟨⟨x0Context_Size, x0Context_Write⟩, x0Maps⟩, x1⟩ := x; kernel_rfl
theorem S_mem_May {F_mem_areas : FT ps_mem_areas qs_mem_areas} (h_mem_areas : SpecOk Try.prog 52 (mkS ps_mem_areas qs_mem_areas F_mem_areas)) : SpecOk Try.prog 44 (mkS ps_mem_May qs_mem_May (N_mem_May F_mem_areas W.big)) :=
  specOk_mk (fl := W.big) (d := 12) (cfgOk_cons base h_mem_areas) (fun R x k => Q_mem_May W.big R x k)
noncomputable def F_mem_May : FT ps_mem_May qs_mem_May := N_mem_May F_mem_areas W.big
theorem ok_mem_May : SpecOk Try.prog 44 (mkS ps_mem_May qs_mem_May F_mem_May) := S_mem_May ok_mem_areas
abbrev ps_slices_Clone_uint64_uint64 : List PT := [.one (.slice (.int .u64))]
abbrev qs_slices_Clone_uint64_uint64 : List PT := [.own (.int .u64)]
noncomputable def N_slices_Clone_uint64_uint64 : FT ps_slices_Clone_uint64_uint64 qs_slices_Clone_uint64_uint64 := fun R x k => br (W.leN (W.mulN (W.len x) 8) 140737488355328) (k x) none
open Go.RowKit in
set_option maxHeartbeats 4000000 in
theorem cn_slices_Clone_uint64_uint64 (n : Nat) (w : World) : Calls Try.prog 27 #[.slice none 0 n] w fun e w' => e = .returned (.slice none 0 0) ∧ w' = w := by
  have q : ∀ (w : World) (a : Option Addr) (n c n' c' : Nat), (binOp .eql 32 (.slice a n c) (.slice none n' c')).run Try.prog w = .ok (.bool a.isNone) w := fun w a n c n' c' => Lib.run_eql_slice_nil w _ _ a n c n' c' Try.underlying32
  go_enter Try.func27, Try.ntmps27
  go_wp2
  go_ret
  exact ⟨rfl, rfl⟩
open Go.RowKit in
set_option maxHeartbeats 4000000 in
theorem ce_slices_Clone_uint64_uint64 (A : Addr) (n : Nat) (w : World) : Calls Try.prog 27 #[.slice (some A) 0 n] w fun e w' => ∃ a', e = .returned (.slice a' 0 0) ∧ Below w.heap.size w w' := by
  have q : ∀ (w : World) (a : Option Addr) (n c n' c' : Nat), (binOp .eql 32 (.slice a n c) (.slice none n' c')).run Try.prog w = .ok (.bool a.isNone) w := fun w a n c n' c' => Lib.run_eql_slice_nil w _ _ a n c n' c' Try.underlying32
  go_enter Try.func27, Try.ntmps27
  go_wp2
  go_ret
  exact ⟨_, rfl, (Below.refl _ w).alloc (Nat.le_refl _) _⟩
theorem S_slices_Clone_uint64_uint64 : SpecOk Try.prog 27 (mkS ps_slices_Clone_uint64_uint64 qs_slices_Clone_uint64_uint64 N_slices_Clone_uint64_uint64) :=
  specOk_clone (fl := 10) (d := 12) base (by decide) cn_slices_Clone_uint64_uint64 ce_slices_Clone_uint64_uint64 (by intro R l k; kernel_rfl)
noncomputable def F_slices_Clone_uint64_uint64 : FT ps_slices_Clone_uint64_uint64 qs_slices_Clone_uint64_uint64 := N_slices_Clone_uint64_uint64
theorem ok_slices_Clone_uint64_uint64 : SpecOk Try.prog 27 (mkS ps_slices_Clone_uint64_uint64 qs_slices_Clone_uint64_uint64 F_slices_Clone_uint64_uint64) := S_slices_Clone_uint64_uint64
abbrev ps_slices_Clone_byte_byte : List PT := [.one (.slice (.int .u8))]
abbrev qs_slices_Clone_byte_byte : List PT := [.own (.int .u8)]
noncomputable def N_slices_Clone_byte_byte : FT ps_slices_Clone_byte_byte qs_slices_Clone_byte_byte := fun R x k => br (W.leN (W.mulN (W.len x) 1) 140737488355328) (k x) none
open Go.RowKit in
set_option maxHeartbeats 4000000 in
theorem cn_slices_Clone_byte_byte (n : Nat) (w : World) : Calls Try.prog 28 #[.slice none 0 n] w fun e w' => e = .returned (.slice none 0 0) ∧ w' = w := by
  have q : ∀ (w : World) (a : Option Addr) (n c n' c' : Nat), (binOp .eql 33 (.slice a n c) (.slice none n' c')).run Try.prog w = .ok (.bool a.isNone) w := fun w a n c n' c' => Lib.run_eql_slice_nil w _ _ a n c n' c' Try.underlying33
  go_enter Try.func28, Try.ntmps28
  go_wp2
  go_ret
  exact ⟨rfl, rfl⟩
open Go.RowKit in
set_option maxHeartbeats 4000000 in
theorem ce_slices_Clone_byte_byte (A : Addr) (n : Nat) (w : World) : Calls Try.prog 28 #[.slice (some A) 0 n] w fun e w' => ∃ a', e = .returned (.slice a' 0 0) ∧ Below w.heap.size w w' := by
  have q : ∀ (w : World) (a : Option Addr) (n c n' c' : Nat), (binOp .eql 33 (.slice a n c) (.slice none n' c')).run Try.prog w = .ok (.bool a.isNone) w := fun w a n c n' c' => Lib.run_eql_slice_nil w _ _ a n c n' c' Try.underlying33
  go_enter Try.func28, Try.ntmps28
  go_wp2
  go_ret
  exact ⟨_, rfl, (Below.refl _ w).alloc (Nat.le_refl _) _⟩
theorem S_slices_Clone_byte_byte : SpecOk Try.prog 28 (mkS ps_slices_Clone_byte_byte qs_slices_Clone_byte_byte N_slices_Clone_byte_byte) :=
  specOk_clone (fl := 10) (d := 12) base (by decide) cn_slices_Clone_byte_byte ce_slices_Clone_byte_byte (by intro R l k; kernel_rfl)
noncomputable def F_slices_Clone_byte_byte : FT ps_slices_Clone_byte_byte qs_slices_Clone_byte_byte := N_slices_Clone_byte_byte
theorem ok_slices_Clone_byte_byte : SpecOk Try.prog 28 (mkS ps_slices_Clone_byte_byte qs_slices_Clone_byte_byte F_slices_Clone_byte_byte) := S_slices_Clone_byte_byte
abbrev ps_mem_Bytes : List PT := [.agg ((.prod ((.prod (.int .i64) (.bool))) (.slice ((.prod (.int .i64) (.bool)))))), .one (.slice (.slice (.int .u8))), .one (.int .u64), .one (.int .i64)]
abbrev qs_mem_Bytes : List PT := [.one (.slice (.int .u8)), .one (.int .i64)]
noncomputable def N_mem_Bytes (F_mem_Split : FT ps_mem_Split qs_mem_Split) (F_mem_Access : FT ps_mem_Access qs_mem_Access) (F_mem_May : FT ps_mem_May qs_mem_May)  : FT ps_mem_Bytes qs_mem_Bytes := fun R x k => match x with
  | (((x0Context_Size, x0Context_Write), x0Maps), x1, x2, x3) => 
      F_mem_May R (((x0Context_Size, x0Context_Write), x0Maps), x1) fun y =>
        br (W.not y) (k ([], 2))
          (F_mem_Access R (((x0Context_Size, x0Context_Write), x0Maps), x2, x3, false) fun y =>
            br (W.ne y 0) (k ([], y))
              (F_mem_Split R x2 fun y =>
                br (W.and2 (W.le 0 x3) (W.le (W.mul (W.ofNat 1) x3) 281474976710656))
                  (br (W.and2 (W.le 0 (W.wrap IntKind.i64 (W.sub y.1 1))) (W.lt (W.wrap IntKind.i64 (W.sub y.1 1)) (W.ofNat (W.len x1))))
                    (br (W.and2 (W.le 0 y.2) (W.le y.2 (W.ofNat (W.len (W.get x1 (W.toNat (W.wrap IntKind.i64 (W.sub y.1 1))) [])))))
                      (k
                        (W.over (W.rep (W.toNat x3) 0) 0
                            (W.slice
                              (W.slice (W.get x1 (W.toNat (W.wrap IntKind.i64 (W.sub y.1 1))) []) (W.toNat y.2) (W.subN (W.len (W.get x1 (W.toNat (W.wrap IntKind.i64 (W.sub y.1 1))) [])) (W.toNat y.2))) 0
                              (W.minN
                                (W.len
                                  (W.slice (W.get x1 (W.toNat (W.wrap IntKind.i64 (W.sub y.1 1))) []) (W.toNat y.2)
                                    (W.subN (W.len (W.get x1 (W.toNat (W.wrap IntKind.i64 (W.sub y.1 1))) [])) (W.toNat y.2))))
                                (W.toNat x3))),
                          0))
                      none)
                    none)
                  none))
theorem S_mem_Bytes {F_mem_Split : FT ps_mem_Split qs_mem_Split} {F_mem_Access : FT ps_mem_Access qs_mem_Access} {F_mem_May : FT ps_mem_May qs_mem_May} (h_mem_Split : SpecOk Try.prog 47 (mkS ps_mem_Split qs_mem_Split F_mem_Split)) (h_mem_Access : SpecOk Try.prog 43 (mkS ps_mem_Access qs_mem_Access F_mem_Access)) (h_mem_May : SpecOk Try.prog 44 (mkS ps_mem_May qs_mem_May F_mem_May)) : SpecOk Try.prog 29 (mkS ps_mem_Bytes qs_mem_Bytes (N_mem_Bytes F_mem_Split F_mem_Access F_mem_May)) :=
  specOk_mk (fl := 10) (d := 12) (cfgOk_cons (cfgOk_cons (cfgOk_cons base h_mem_May) h_mem_Access) h_mem_Split) (by rintro R ⟨⟨⟨x0Context_Size, x0Context_Write⟩, x0Maps⟩, x1, x2, x3⟩ k; kernel_rfl)
noncomputable def F_mem_Bytes : FT ps_mem_Bytes qs_mem_Bytes := N_mem_Bytes F_mem_Split F_mem_Access F_mem_May 
theorem ok_mem_Bytes : SpecOk Try.prog 29 (mkS ps_mem_Bytes qs_mem_Bytes F_mem_Bytes) := S_mem_Bytes ok_mem_Split ok_mem_Access ok_mem_May
abbrev ps_mem_copied : List PT := [.one (.slice (.slice (.int .u8)))]
abbrev qs_mem_copied : List PT := [.owns (.int .u8)]
noncomputable def PL_mem_copied_3_0  (fl : Nat)  (R : Type) (k : PTs.D qs_mem_copied → Option R) : LoopI R :=
  locate (Cw Try.prog [] hintsF) fl (call (Cw Try.prog [] hintsF) fl 11) 0 48 3 [] (getR qs_mem_copied k)
noncomputable def P_mem_copied_3_0  (fl : Nat)  (n : Nat) (R : Type) (y0 : List (List Int)) (y1 : Nat) (y2 : Int) (y3 : Int) (y4 : List (List Int)) (k : PTs.D qs_mem_copied → Option R) : Option R :=
  loopH (PL_mem_copied_3_0  fl  R k).body (PL_mem_copied_3_0  fl  R k).head n (some (
      S.mk
        [V.ro true (Ty.slice (Ty.int IntKind.u8)) y0, V.any, V.any, V.sl 0 1 y1, V.any, V.any, V.any, V.any, V.any, V.int IntKind.i64 y2, V.int IntKind.i64 y3, V.any, V.any, V.any, V.any, V.any, V.any,
          V.any, V.any, V.any, V.any, V.any, V.any, V.any, V.any, V.any, V.any, V.any, V.any, V.any, V.any, V.any, V.any]
        [] [Blk.rows (Ty.int IntKind.u8) y4])) (PL_mem_copied_3_0  fl  R k).kont
theorem P_mem_copied_3_0_s  (fl : Nat)  (n : Nat) (R : Type) (y0 : List (List Int)) (y1 : Nat) (y2 : Int) (y3 : Int) (y4 : List (List Int)) (k : PTs.D qs_mem_copied → Option R) : P_mem_copied_3_0  fl  (n + 1) R y0 y1 y2 y3 y4 k =
      br (W.lt y3 y2)
        (br (W.and2 (W.le 0 y3) (W.lt y3 (W.ofNat (W.len y0))))
          (br (W.and2 (W.le 0 (W.ofNat (W.len (W.get y0 (W.toNat y3) [])))) (W.le (W.mul 1 (W.ofNat (W.len (W.get y0 (W.toNat y3) [])))) 281474976710656))
            (br (W.and2 (W.le 0 y3) (W.lt y3 (W.ofNat y1)))
              (br (W.and2 (W.le 0 y3) (W.lt y3 (W.ofNat y1)))
                (br (W.and2 (W.le 0 y3) (W.lt y3 (W.ofNat (W.len y0))))
                  (P_mem_copied_3_0 fl n R y0 y1 y2 (W.wrap IntKind.i64 (W.add y3 1))
                    (W.set (W.set y4 (W.toNat y3) (W.rep (W.toNat (W.ofNat (W.len (W.get y0 (W.toNat y3) [])))) 0)) (W.toNat y3)
                      (W.over (W.get (W.set y4 (W.toNat y3) (W.rep (W.toNat (W.ofNat (W.len (W.get y0 (W.toNat y3) [])))) 0)) (W.toNat y3) []) 0
                        (W.slice (W.get y0 (W.toNat y3) []) 0
                          (W.minN (W.len (W.get y0 (W.toNat y3) [])) (W.len (W.get (W.set y4 (W.toNat y3) (W.rep (W.toNat (W.ofNat (W.len (W.get y0 (W.toNat y3) [])))) 0)) (W.toNat y3) []))))))
                    k)
                  none)
                none)
              none)
            none)
          none)
        (k y4) := by kernel_rfl
noncomputable def N_mem_copied  (fl : Nat) : FT ps_mem_copied qs_mem_copied := fun R x k => match x with
  | x0 => 
      br (W.and2 (W.le 0 (W.ofNat (W.len x0))) (W.le (W.mul 24 (W.ofNat (W.len x0))) 281474976710656))
        (P_mem_copied_3_0 fl fl R x0 (W.toNat (W.ofNat (W.len x0))) (W.ofNat (W.len x0)) 0 (W.rep (W.toNat (W.ofNat (W.len x0))) []) k) none
theorem Q_mem_copied  (fl : Nat) (R : Type) (x : PTs.D ps_mem_copied) (k : PTs.D qs_mem_copied → Option R) : call (Cw Try.prog [] hintsF) fl 12 48 (encL true ps_mem_copied x) [] (getR qs_mem_copied k) = N_mem_copied  fl R x k := by
  kernel_rfl
theorem S_mem_copied   : SpecOk Try.prog 48 (mkS ps_mem_copied qs_mem_copied (N_mem_copied  W.big)) :=
  specOk_mk (fl := W.big) (d := 12) base (fun R x k => Q_mem_copied W.big R x k)
noncomputable def F_mem_copied : FT ps_mem_copied qs_mem_copied := N_mem_copied  W.big
theorem ok_mem_copied : SpecOk Try.prog 48 (mkS ps_mem_copied qs_mem_copied F_mem_copied) := S_mem_copied 
abbrev ps_mem_Fill : List PT := [.agg ((.prod ((.prod (.int .i64) (.bool))) (.slice ((.prod (.int .i64) (.bool)))))), .one (.slice (.slice (.int .u8))), .one (.int .u64), .one (.slice (.int .u8))]
abbrev qs_mem_Fill : List PT := [.one (.slice (.slice (.int .u8))), .one (.int .i64)]
noncomputable def N_mem_Fill (F_mem_Split : FT ps_mem_Split qs_mem_Split) (F_mem_Access : FT ps_mem_Access qs_mem_Access) (F_mem_May : FT ps_mem_May qs_mem_May) (F_mem_copied : FT ps_mem_copied qs_mem_copied)  : FT ps_mem_Fill qs_mem_Fill := fun R x k => match x with
  | (((x0Context_Size, x0Context_Write), x0Maps), x1, x2, x3) => 
      F_mem_May R (((x0Context_Size, x0Context_Write), x0Maps), x1) fun y =>
        br (W.not y) (k ([], 2))
          (F_mem_Access R (((x0Context_Size, x0Context_Write), x0Maps), x2, W.ofNat (W.len x3), true) fun y =>
            br (W.ne y 0) (k ([], y))
              (F_mem_Split R x2 fun y =>
                F_mem_copied R x1 fun y_1 =>
                  br (W.and2 (W.le 0 (W.wrap IntKind.i64 (W.sub y.1 1))) (W.lt (W.wrap IntKind.i64 (W.sub y.1 1)) (W.ofNat (W.len y_1))))
                    (br (W.and2 (W.le 0 y.2) (W.le y.2 (W.ofNat (W.len (W.get y_1 (W.toNat (W.wrap IntKind.i64 (W.sub y.1 1))) [])))))
                      (k
                        (W.set y_1 (W.toNat (W.wrap IntKind.i64 (W.sub y.1 1)))
                            (W.over (W.get y_1 (W.toNat (W.wrap IntKind.i64 (W.sub y.1 1))) []) (W.addN 0 (W.toNat y.2))
                              (W.slice x3 0 (W.minN (W.len x3) (W.subN (W.len (W.get y_1 (W.toNat (W.wrap IntKind.i64 (W.sub y.1 1))) [])) (W.toNat y.2))))),
                          0))
                      none)
                    none))
theorem S_mem_Fill {F_mem_Split : FT ps_mem_Split qs_mem_Split} {F_mem_Access : FT ps_mem_Access qs_mem_Access} {F_mem_May : FT ps_mem_May qs_mem_May} {F_mem_copied : FT ps_mem_copied qs_mem_copied} (h_mem_Split : SpecOk Try.prog 47 (mkS ps_mem_Split qs_mem_Split F_mem_Split)) (h_mem_Access : SpecOk Try.prog 43 (mkS ps_mem_Access qs_mem_Access F_mem_Access)) (h_mem_May : SpecOk Try.prog 44 (mkS ps_mem_May qs_mem_May F_mem_May)) (h_mem_copied : SpecOk Try.prog 48 (mkS ps_mem_copied qs_mem_copied F_mem_copied)) : SpecOk Try.prog 30 (mkS ps_mem_Fill qs_mem_Fill (N_mem_Fill F_mem_Split F_mem_Access F_mem_May F_mem_copied)) :=
  specOk_mk (fl := 10) (d := 12) (cfgOk_cons (cfgOk_cons (cfgOk_cons (cfgOk_cons base h_mem_copied) h_mem_May) h_mem_Access) h_mem_Split) (by rintro R ⟨⟨⟨x0Context_Size, x0Context_Write⟩, x0Maps⟩, x1, x2, x3⟩ k; kernel_rfl)
noncomputable def F_mem_Fill : FT ps_mem_Fill qs_mem_Fill := N_mem_Fill F_mem_Split F_mem_Access F_mem_May F_mem_copied 
theorem ok_mem_Fill : SpecOk Try.prog 30 (mkS ps_mem_Fill qs_mem_Fill F_mem_Fill) := S_mem_Fill ok_mem_Split ok_mem_Access ok_mem_May ok_mem_copied
abbrev ps_helper_fill : List PT := [.one (.int .u64), .one (.int .i64)]
abbrev qs_helper_fill : List PT := [.one (.slice (.int .u8))]
noncomputable def PL_helper_fill_3_0  (fl : Nat)  (R : Type) (k : PTs.D qs_helper_fill → Option R) : LoopI R :=
  locate (Cw Try.prog [] hintsF) fl (call (Cw Try.prog [] hintsF) fl 11) 0 31 3 [] (getR qs_helper_fill k)
noncomputable def P_helper_fill_3_0  (fl : Nat)  (n : Nat) (R : Type) (y0 : Int) (y1 : Nat) (y2 : Int) (y3 : Int) (y4 : List Int) (k : PTs.D qs_helper_fill → Option R) : Option R :=
  loopH (PL_helper_fill_3_0  fl  R k).body (PL_helper_fill_3_0  fl  R k).head n (some (
      S.mk
        [V.int IntKind.u64 y0, V.any, V.any, V.any, V.any, V.sl 0 1 y1, V.any, V.any, V.any, V.any, V.int IntKind.i64 y2, V.int IntKind.i64 y3, V.any, V.any, V.any, V.any, V.any, V.any, V.any, V.any, V.any,
          V.any, V.any, V.any, V.any]
        [] [Blk.row (Ty.int IntKind.u8) y4])) (PL_helper_fill_3_0  fl  R k).kont
theorem P_helper_fill_3_0_s  (fl : Nat)  (n : Nat) (R : Type) (y0 : Int) (y1 : Nat) (y2 : Int) (y3 : Int) (y4 : List Int) (k : PTs.D qs_helper_fill → Option R) : P_helper_fill_3_0  fl  (n + 1) R y0 y1 y2 y3 y4 k =
      br (W.lt y3 y2)
        (br (W.lt (W.wrap IntKind.i64 (W.mul (W.wrap IntKind.i64 (W.and IntKind.i64 y3 7)) 8)) 0) none
          (br (W.and2 (W.le 0 y3) (W.lt y3 (W.ofNat y1)))
            (P_helper_fill_3_0 fl n R y0 y1 y2 (W.wrap IntKind.i64 (W.add y3 1))
              (W.set y4 (W.toNat y3) (W.wrap IntKind.u8 (W.shr IntKind.u64 y0 (W.wrap IntKind.i64 (W.mul (W.wrap IntKind.i64 (W.and IntKind.i64 y3 7)) 8))))) k)
            none))
        (k y4) := by kernel_rfl
noncomputable def N_helper_fill  (fl : Nat) : FT ps_helper_fill qs_helper_fill := fun R x k => match x with
  | (x0, x1) => 
      br (W.and2 (W.le 0 x1) (W.le (W.mul 1 x1) 281474976710656)) (P_helper_fill_3_0 fl fl R x0 (W.toNat x1) (W.ofNat (W.toNat x1)) 0 (W.rep (W.toNat x1) 0) k) none
theorem Q_helper_fill  (fl : Nat) (R : Type) (x : PTs.D ps_helper_fill) (k : PTs.D qs_helper_fill → Option R) : call (Cw Try.prog [] hintsF) fl 12 31 (encL true ps_helper_fill x) [] (getR qs_helper_fill k) = N_helper_fill  fl R x k := by
  obtain ⟨x0, x1⟩ := x; kernel_rfl
theorem S_helper_fill   : SpecOk Try.prog 31 (mkS ps_helper_fill qs_helper_fill (N_helper_fill  W.big)) :=
  specOk_mk (fl := W.big) (d := 12) base (fun R x k => Q_helper_fill W.big R x k)
noncomputable def F_helper_fill : FT ps_helper_fill qs_helper_fill := N_helper_fill  W.big
theorem ok_helper_fill : SpecOk Try.prog 31 (mkS ps_helper_fill qs_helper_fill F_helper_fill) := S_helper_fill 
abbrev pa_helper_fits_1 : List PV := [(.agg [(.int .i64), .bool, (.ro true (.prod (.int .i64) .bool))]), (.ro true (.slice (.int .u8))), (.int .i64), (.ro true (.int .u64))]
abbrev ph_helper_fits_1 : List PB := [(.cells [(.int .i64), .bool, (.ro true (.prod (.int .i64) .bool))]), (.cells [(.int .i64), .nsl, .nsl])]
abbrev pr_helper_fits_1 : PV := (.iface 96 (.ptr 2 0))
abbrev pz_helper_fits_1 : List PB := [(.cells [(.int .i64), .bool, (.ro true (.prod (.int .i64) .bool))]), (.cells [(.int .i64), .nsl, .nsl]), (.cells [(.int .i64), (.int .i64)])]
abbrev pr2_helper_fits_1 : PV := .nili
abbrev pz2_helper_fits_1 : List PB := [(.cells [(.int .i64), .bool, (.ro true (.prod (.int .i64) .bool))]), (.cells [(.int .i64), .nsl, .nsl])]
abbrev IT_helper_fits_1 : Type := (Int) × (Bool) × (List (Int × Bool)) × (List (List Int)) × (Int) × (List Int) × (Int) × (Bool) × (List (Int × Bool)) × (Int) × Unit
abbrev OT_helper_fits_1 : Type := (Int) × (Bool) × (List (Int × Bool)) × (Int) × (Int) × (Int) × Unit
abbrev OT2_helper_fits_1 : Type := (Int) × (Bool) × (List (Int × Bool)) × (Int) × Unit
abbrev TE_helper_fits_1 : Type 1 := (R : Type) → IT_helper_fits_1 → (OT_helper_fits_1 → Option R) → (OT2_helper_fits_1 → Option R) → Option R
noncomputable def N_helper_fits_1 (F_helper_Table : FT ps_helper_Table qs_helper_Table) (F_helper_Spans : FT ps_helper_Spans qs_helper_Spans) (F_api_ArgKind_42 : FT ps_api_ArgKind_42 qs_api_ArgKind_42) (F_mem_Access : FT ps_mem_Access qs_mem_Access) (F_mem_May : FT ps_mem_May qs_mem_May)  : TE_helper_fits_1 := fun R x k k2 => match x with
  | (y0, y1, y2, y3, y4, y5, y6, y7, y8, y9, ()) => 
      F_helper_Spans R (y4, y5) fun y =>
        br (W.not y.2.2) (k (y6, y7, y8, y9, y4, 50, ()))
          (F_helper_Table R y4 fun y_1 =>
            F_api_ArgKind_42 R (y_1.1.2.1, 2) fun y_2 =>
              br (W.and2 y_2 (W.not (W.pick (W.lt y.1.2 1) true (W.gt y.1.2 y_1.1.2.2))))
                (F_mem_Access R (((y0, y1), y2), y.1.1, y.1.2, false) fun y_3 =>
                  br (W.pick y_2 (W.pick (W.pick (W.lt y.1.2 1) true (W.gt y.1.2 y_1.1.2.2)) true (W.ne y_3 0)) false) (k (y6, y7, y8, y9, y4, 50, ()))
                    (F_api_ArgKind_42 R (y_1.1.2.1, 3) fun y_4 =>
                      br (W.and2 y_4 (W.not (W.pick (W.lt y.2.1.2 1) true (W.gt y.2.1.2 y_1.1.2.2))))
                        (F_mem_Access R (((y0, y1), y2), y.2.1.1, y.2.1.2, true) fun y_5 =>
                          br (W.pick y_4 (W.pick (W.pick (W.lt y.2.1.2 1) true (W.gt y.2.1.2 y_1.1.2.2)) true (W.ne y_5 0)) false) (k (y6, y7, y8, y9, y4, 50, ()))
                            (F_mem_May R (((y0, y1), y2), y3) fun y => br (W.not y) (k (y6, y7, y8, y9, y4, 2, ())) (k2 (y6, y7, y8, y9, ()))))
                        (br (W.and2 y_4 (W.not (W.pick (W.lt y.2.1.2 1) true (W.gt y.2.1.2 y_1.1.2.2)))) none
                          (br y_4 (br (W.pick (W.lt y.2.1.2 1) true (W.gt y.2.1.2 y_1.1.2.2)) (k (y6, y7, y8, y9, y4, 50, ())) none)
                            (F_mem_May R (((y0, y1), y2), y3) fun y => br (W.not y) (k (y6, y7, y8, y9, y4, 2, ())) (k2 (y6, y7, y8, y9, ())))))))
                (br (W.and2 y_2 (W.not (W.pick (W.lt y.1.2 1) true (W.gt y.1.2 y_1.1.2.2)))) none
                  (br y_2 (br (W.pick (W.lt y.1.2 1) true (W.gt y.1.2 y_1.1.2.2)) (k (y6, y7, y8, y9, y4, 50, ())) none)
                    (F_api_ArgKind_42 R (y_1.1.2.1, 3) fun y_3 =>
                      br (W.and2 y_3 (W.not (W.pick (W.lt y.2.1.2 1) true (W.gt y.2.1.2 y_1.1.2.2))))
                        (F_mem_Access R (((y0, y1), y2), y.2.1.1, y.2.1.2, true) fun y_4 =>
                          br (W.pick y_3 (W.pick (W.pick (W.lt y.2.1.2 1) true (W.gt y.2.1.2 y_1.1.2.2)) true (W.ne y_4 0)) false) (k (y6, y7, y8, y9, y4, 50, ()))
                            (F_mem_May R (((y0, y1), y2), y3) fun y => br (W.not y) (k (y6, y7, y8, y9, y4, 2, ())) (k2 (y6, y7, y8, y9, ()))))
                        (br (W.and2 y_3 (W.not (W.pick (W.lt y.2.1.2 1) true (W.gt y.2.1.2 y_1.1.2.2)))) none
                          (br y_3 (br (W.pick (W.lt y.2.1.2 1) true (W.gt y.2.1.2 y_1.1.2.2)) (k (y6, y7, y8, y9, y4, 50, ())) none)
                            (F_mem_May R (((y0, y1), y2), y3) fun y => br (W.not y) (k (y6, y7, y8, y9, y4, 2, ())) (k2 (y6, y7, y8, y9, ())))))))))
theorem S_helper_fits_1 {F_helper_Table : FT ps_helper_Table qs_helper_Table} {F_helper_Spans : FT ps_helper_Spans qs_helper_Spans} {F_api_ArgKind_42 : FT ps_api_ArgKind_42 qs_api_ArgKind_42} {F_mem_Access : FT ps_mem_Access qs_mem_Access} {F_mem_May : FT ps_mem_May qs_mem_May} (h_helper_Table : SpecOk Try.prog 11 (mkS ps_helper_Table qs_helper_Table F_helper_Table)) (h_helper_Spans : SpecOk Try.prog 13 (mkS ps_helper_Spans qs_helper_Spans F_helper_Spans)) (h_api_ArgKind_42 : SpecOk Try.prog 42 (mkS ps_api_ArgKind_42 qs_api_ArgKind_42 F_api_ArgKind_42)) (h_mem_Access : SpecOk Try.prog 43 (mkS ps_mem_Access qs_mem_Access F_mem_Access)) (h_mem_May : SpecOk Try.prog 44 (mkS ps_mem_May qs_mem_May F_mem_May)) : ESpOk Try.prog 25 (mkE2 pa_helper_fits_1 ph_helper_fits_1 pr_helper_fits_1 pz_helper_fits_1 pr2_helper_fits_1 pz2_helper_fits_1 (N_helper_fits_1 F_helper_Table F_helper_Spans F_api_ArgKind_42 F_mem_Access F_mem_May)) :=
  espOk_mk2 (fl := 22) (d := 11) (cfgOk_cons (cfgOk_cons (cfgOk_cons (cfgOk_cons (cfgOk_cons base h_mem_May) h_mem_Access) h_api_ArgKind_42) h_helper_Spans) h_helper_Table) esOk_nil (by rintro R ⟨y0, y1, y2, y3, y4, y5, y6, y7, y8, y9, ⟨⟩⟩ k k2; kernel_rfl)
noncomputable def E_helper_fits_1 : TE_helper_fits_1 := N_helper_fits_1 F_helper_Table F_helper_Spans F_api_ArgKind_42 F_mem_Access F_mem_May 
theorem okE_helper_fits_1 : ESpOk Try.prog 25 (mkE2 pa_helper_fits_1 ph_helper_fits_1 pr_helper_fits_1 pz_helper_fits_1 pr2_helper_fits_1 pz2_helper_fits_1 E_helper_fits_1) := S_helper_fits_1 ok_helper_Table ok_helper_Spans ok_api_ArgKind_42 ok_mem_Access ok_mem_May
abbrev pa_errors_Is_4 : List PV := [(.iface 96 (.ptr 2 0)), (.iface 74 (.int .i64))]
abbrev ph_errors_Is_4 : List PB := [(.cells [(.int .i64), .bool, (.ro true (.prod (.int .i64) .bool))]), (.cells [(.int .i64), .nsl, .nsl]), (.cells [(.int .i64), (.int .i64)]), (.row (.int .i64))]
abbrev pr_errors_Is_4 : PV := .bool
abbrev pz_errors_Is_4 : List PB := [(.cells [(.int .i64), .bool, (.ro true (.prod (.int .i64) .bool))]), (.cells [(.int .i64), .nsl, .nsl]), (.cells [(.int .i64), (.int .i64)]), (.row (.int .i64))]
abbrev IT_errors_Is_4 : Type := (Int) × (Int) × (Bool) × (List (Int × Bool)) × (Int) × (Int) × (Int) × (List Int) × Unit
abbrev OT_errors_Is_4 : Type := (Bool) × (Int) × (Bool) × (List (Int × Bool)) × (Int) × (Int) × (Int) × (List Int) × Unit
abbrev TE_errors_Is_4 : Type 1 := (R : Type) → IT_errors_Is_4 → (OT_errors_Is_4 → Option R) → Option R
noncomputable def N_errors_Is_4   : TE_errors_Is_4 := fun R x k => match x with
  | (y0, y1, y2, y3, y4, y5, y6, y7, ()) => 
      br (W.pick true (W.eq y6 y0) false) (k (true, y1, y2, y3, y4, y5, y6, y7, ())) (k (false, y1, y2, y3, y4, y5, y6, y7, ()))
theorem S_errors_Is_4   : ESpOk Try.prog 26 (mkE pa_errors_Is_4 ph_errors_Is_4 pr_errors_Is_4 pz_errors_Is_4 (N_errors_Is_4 )) :=
  espOk_mk (fl := 22) (d := 11) base esOk_nil (by rintro R ⟨y0, y1, y2, y3, y4, y5, y6, y7, ⟨⟩⟩ k; kernel_rfl)
noncomputable def E_errors_Is_4 : TE_errors_Is_4 := N_errors_Is_4  
theorem okE_errors_Is_4 : ESpOk Try.prog 26 (mkE pa_errors_Is_4 ph_errors_Is_4 pr_errors_Is_4 pz_errors_Is_4 E_errors_Is_4) := S_errors_Is_4 
abbrev pa_errors_Is_5 : List PV := [.nili, (.iface 74 (.int .i64))]
abbrev ph_errors_Is_5 : List PB := [(.cells [(.int .i64), .bool, (.ro true (.prod (.int .i64) .bool))]), (.cells [(.int .i64), .nsl, .nsl]), (.row (.int .i64))]
abbrev pr_errors_Is_5 : PV := .bool
abbrev pz_errors_Is_5 : List PB := [(.cells [(.int .i64), .bool, (.ro true (.prod (.int .i64) .bool))]), (.cells [(.int .i64), .nsl, .nsl]), (.row (.int .i64))]
abbrev IT_errors_Is_5 : Type := (Int) × (Int) × (Bool) × (List (Int × Bool)) × (Int) × (List Int) × Unit
abbrev OT_errors_Is_5 : Type := (Bool) × (Int) × (Bool) × (List (Int × Bool)) × (Int) × (List Int) × Unit
abbrev TE_errors_Is_5 : Type 1 := (R : Type) → IT_errors_Is_5 → (OT_errors_Is_5 → Option R) → Option R
noncomputable def N_errors_Is_5   : TE_errors_Is_5 := fun R x k => match x with
  | (y0, y1, y2, y3, y4, y5, ()) => 
      k (false, y1, y2, y3, y4, y5, ())
theorem S_errors_Is_5   : ESpOk Try.prog 26 (mkE pa_errors_Is_5 ph_errors_Is_5 pr_errors_Is_5 pz_errors_Is_5 (N_errors_Is_5 )) :=
  espOk_mk (fl := 22) (d := 11) base esOk_nil (by rintro R ⟨y0, y1, y2, y3, y4, y5, ⟨⟩⟩ k; kernel_rfl)
noncomputable def E_errors_Is_5 : TE_errors_Is_5 := N_errors_Is_5  
theorem okE_errors_Is_5 : ESpOk Try.prog 26 (mkE pa_errors_Is_5 ph_errors_Is_5 pr_errors_Is_5 pz_errors_Is_5 E_errors_Is_5) := S_errors_Is_5 
abbrev ps_helper_Do : List PT := [.agg ((.prod ((.prod (.int .i64) (.bool))) (.slice ((.prod (.int .i64) (.bool)))))), .one (.slice (.slice (.int .u8))), .one (.int .i64), .one (.slice (.int .u64)), .one (.slice (.int .u64))]
abbrev qs_helper_Do : List PT := [.one (.int .u64), .one (.slice (.slice (.int .u8))), .agg ((.prod (.int .i64) (.prod (.slice (.int .u64)) (.slice (.int .u8))))), .one (.int .i64)]
noncomputable def PL_helper_Do_3_0 (F_helper_Table : FT ps_helper_Table qs_helper_Table) (F_helper_Spans : FT ps_helper_Spans qs_helper_Spans) (F_api_ArgKind_42 : FT ps_api_ArgKind_42 qs_api_ArgKind_42) (F_mem_Access : FT ps_mem_Access qs_mem_Access) (F_mem_May : FT ps_mem_May qs_mem_May) (F_slices_Clone_uint64_uint64 : FT ps_slices_Clone_uint64_uint64 qs_slices_Clone_uint64_uint64) (F_slices_Clone_byte_byte : FT ps_slices_Clone_byte_byte qs_slices_Clone_byte_byte) (F_mem_Bytes : FT ps_mem_Bytes qs_mem_Bytes) (F_mem_Fill : FT ps_mem_Fill qs_mem_Fill) (F_helper_fill : FT ps_helper_fill qs_helper_fill) (E_helper_fits_1 : TE_helper_fits_1) (E_errors_Is_4 : TE_errors_Is_4) (E_errors_Is_5 : TE_errors_Is_5) (fl : Nat)  (R : Type) (k : PTs.D qs_helper_Do → Option R) : LoopI R :=
  locate (Cw Try.prog [(11, mkS ps_helper_Table qs_helper_Table F_helper_Table), (13, mkS ps_helper_Spans qs_helper_Spans F_helper_Spans), (42, mkS ps_api_ArgKind_42 qs_api_ArgKind_42 F_api_ArgKind_42), (43, mkS ps_mem_Access qs_mem_Access F_mem_Access), (44, mkS ps_mem_May qs_mem_May F_mem_May), (27, mkS ps_slices_Clone_uint64_uint64 qs_slices_Clone_uint64_uint64 F_slices_Clone_uint64_uint64), (28, mkS ps_slices_Clone_byte_byte qs_slices_Clone_byte_byte F_slices_Clone_byte_byte), (29, mkS ps_mem_Bytes qs_mem_Bytes F_mem_Bytes), (30, mkS ps_mem_Fill qs_mem_Fill F_mem_Fill), (31, mkS ps_helper_fill qs_helper_fill F_helper_fill)] hintsF) fl (callE (Cw Try.prog [(11, mkS ps_helper_Table qs_helper_Table F_helper_Table), (13, mkS ps_helper_Spans qs_helper_Spans F_helper_Spans), (42, mkS ps_api_ArgKind_42 qs_api_ArgKind_42 F_api_ArgKind_42), (43, mkS ps_mem_Access qs_mem_Access F_mem_Access), (44, mkS ps_mem_May qs_mem_May F_mem_May), (27, mkS ps_slices_Clone_uint64_uint64 qs_slices_Clone_uint64_uint64 F_slices_Clone_uint64_uint64), (28, mkS ps_slices_Clone_byte_byte qs_slices_Clone_byte_byte F_slices_Clone_byte_byte), (29, mkS ps_mem_Bytes qs_mem_Bytes F_mem_Bytes), (30, mkS ps_mem_Fill qs_mem_Fill F_mem_Fill), (31, mkS ps_helper_fill qs_helper_fill F_helper_fill)] hintsF) [(25, mkE2 pa_helper_fits_1 ph_helper_fits_1 pr_helper_fits_1 pz_helper_fits_1 pr2_helper_fits_1 pz2_helper_fits_1 E_helper_fits_1), (26, mkE pa_errors_Is_4 ph_errors_Is_4 pr_errors_Is_4 pz_errors_Is_4 E_errors_Is_4), (26, mkE pa_errors_Is_5 ph_errors_Is_5 pr_errors_Is_5 pz_errors_Is_5 E_errors_Is_5)] fl 11) 0 9 3 [] (getR qs_helper_Do k)
noncomputable def P_helper_Do_3_0 (F_helper_Table : FT ps_helper_Table qs_helper_Table) (F_helper_Spans : FT ps_helper_Spans qs_helper_Spans) (F_api_ArgKind_42 : FT ps_api_ArgKind_42 qs_api_ArgKind_42) (F_mem_Access : FT ps_mem_Access qs_mem_Access) (F_mem_May : FT ps_mem_May qs_mem_May) (F_slices_Clone_uint64_uint64 : FT ps_slices_Clone_uint64_uint64 qs_slices_Clone_uint64_uint64) (F_slices_Clone_byte_byte : FT ps_slices_Clone_byte_byte qs_slices_Clone_byte_byte) (F_mem_Bytes : FT ps_mem_Bytes qs_mem_Bytes) (F_mem_Fill : FT ps_mem_Fill qs_mem_Fill) (F_helper_fill : FT ps_helper_fill qs_helper_fill) (E_helper_fits_1 : TE_helper_fits_1) (E_errors_Is_4 : TE_errors_Is_4) (E_errors_Is_5 : TE_errors_Is_5) (fl : Nat)  (n : Nat) (R : Type) (y0 : List (List Int)) (y1 : Int) (y2 : List Int) (y3 : List Int) (y4 : Nat) (y5 : Int) (y6 : Int) (y7 : Int) (y8 : Bool) (y9 : List (Int × Bool)) (y10 : Int) (y11 : Int) (y12 : Int) (y13 : List Int) (k : PTs.D qs_helper_Do → Option R) : Option R :=
  loopH (PL_helper_Do_3_0 F_helper_Table F_helper_Spans F_api_ArgKind_42 F_mem_Access F_mem_May F_slices_Clone_uint64_uint64 F_slices_Clone_byte_byte F_mem_Bytes F_mem_Fill F_helper_fill E_helper_fits_1 E_errors_Is_4 E_errors_Is_5 fl  R k).body (PL_helper_Do_3_0 F_helper_Table F_helper_Spans F_api_ArgKind_42 F_mem_Access F_mem_May F_slices_Clone_uint64_uint64 F_slices_Clone_byte_byte F_mem_Bytes F_mem_Fill F_helper_fill E_helper_fits_1 E_errors_Is_4 E_errors_Is_5 fl  R k).head n (some (
      S.mk
        [V.any, V.ro true (Ty.slice (Ty.int IntKind.u8)) y0, V.int IntKind.i64 y1, V.ro true (Ty.int IntKind.u64) y2, V.ro true (Ty.int IntKind.u64) y3, V.ptr 0 0, V.any, V.any, V.any, V.any, V.any, V.any,
          V.ptr 1 0, V.any, V.iface 96 (V.ptr 2 0), V.any, V.any, V.any, V.any, V.any, V.any, V.any, V.any, V.any, V.any, V.any, V.any, V.any, V.any, V.any, V.any, V.any, V.sl 3 1 y4, V.int IntKind.i64 y5,
          V.int IntKind.i64 y6, V.any, V.any, V.any, V.any, V.any, V.any, V.any, V.any, V.any, V.any, V.any, V.any, V.any, V.any, V.any, V.any, V.any, V.any, V.any, V.any, V.any, V.any, V.any, V.any, V.any,
          V.any, V.any, V.any, V.any, V.any, V.any, V.any, V.any, V.any, V.any, V.any, V.any, V.any, V.any, V.any, V.any, V.any, V.any, V.any, V.any, V.any, V.any, V.any, V.any, V.any, V.any, V.any, V.any,
          V.any, V.any, V.any, V.any, V.any, V.any, V.any, V.any, V.any, V.any, V.any, V.any, V.any, V.any, V.any, V.any, V.any, V.any, V.any, V.any, V.any, V.any, V.any, V.any, V.any, V.any, V.any, V.any,
          V.any, V.any, V.any, V.any, V.any, V.any, V.any, V.any, V.any, V.any, V.any, V.any, V.any, V.any, V.any, V.any, V.any, V.any, V.any, V.any, V.any]
        []
        [Blk.cells [V.int IntKind.i64 y7, V.bool y8, V.ro true (Ty.prod (Ty.int IntKind.i64) Ty.bool) y9], Blk.cells [V.int IntKind.i64 y10, V.nsl, V.nsl],
          Blk.cells [V.int IntKind.i64 y11, V.int IntKind.i64 y12], Blk.row (Ty.int IntKind.i64) y13])) (PL_helper_Do_3_0 F_helper_Table F_helper_Spans F_api_ArgKind_42 F_mem_Access F_mem_May F_slices_Clone_uint64_uint64 F_slices_Clone_byte_byte F_mem_Bytes F_mem_Fill F_helper_fill E_helper_fits_1 E_errors_Is_4 E_errors_Is_5 fl  R k).kont
noncomputable def PL_helper_Do_3_1 (F_helper_Table : FT ps_helper_Table qs_helper_Table) (F_helper_Spans : FT ps_helper_Spans qs_helper_Spans) (F_api_ArgKind_42 : FT ps_api_ArgKind_42 qs_api_ArgKind_42) (F_mem_Access : FT ps_mem_Access qs_mem_Access) (F_mem_May : FT ps_mem_May qs_mem_May) (F_slices_Clone_uint64_uint64 : FT ps_slices_Clone_uint64_uint64 qs_slices_Clone_uint64_uint64) (F_slices_Clone_byte_byte : FT ps_slices_Clone_byte_byte qs_slices_Clone_byte_byte) (F_mem_Bytes : FT ps_mem_Bytes qs_mem_Bytes) (F_mem_Fill : FT ps_mem_Fill qs_mem_Fill) (F_helper_fill : FT ps_helper_fill qs_helper_fill) (E_helper_fits_1 : TE_helper_fits_1) (E_errors_Is_4 : TE_errors_Is_4) (E_errors_Is_5 : TE_errors_Is_5) (fl : Nat)  (R : Type) (k : PTs.D qs_helper_Do → Option R) : LoopI R :=
  locate (Cw Try.prog [(11, mkS ps_helper_Table qs_helper_Table F_helper_Table), (13, mkS ps_helper_Spans qs_helper_Spans F_helper_Spans), (42, mkS ps_api_ArgKind_42 qs_api_ArgKind_42 F_api_ArgKind_42), (43, mkS ps_mem_Access qs_mem_Access F_mem_Access), (44, mkS ps_mem_May qs_mem_May F_mem_May), (27, mkS ps_slices_Clone_uint64_uint64 qs_slices_Clone_uint64_uint64 F_slices_Clone_uint64_uint64), (28, mkS ps_slices_Clone_byte_byte qs_slices_Clone_byte_byte F_slices_Clone_byte_byte), (29, mkS ps_mem_Bytes qs_mem_Bytes F_mem_Bytes), (30, mkS ps_mem_Fill qs_mem_Fill F_mem_Fill), (31, mkS ps_helper_fill qs_helper_fill F_helper_fill)] hintsF) fl (callE (Cw Try.prog [(11, mkS ps_helper_Table qs_helper_Table F_helper_Table), (13, mkS ps_helper_Spans qs_helper_Spans F_helper_Spans), (42, mkS ps_api_ArgKind_42 qs_api_ArgKind_42 F_api_ArgKind_42), (43, mkS ps_mem_Access qs_mem_Access F_mem_Access), (44, mkS ps_mem_May qs_mem_May F_mem_May), (27, mkS ps_slices_Clone_uint64_uint64 qs_slices_Clone_uint64_uint64 F_slices_Clone_uint64_uint64), (28, mkS ps_slices_Clone_byte_byte qs_slices_Clone_byte_byte F_slices_Clone_byte_byte), (29, mkS ps_mem_Bytes qs_mem_Bytes F_mem_Bytes), (30, mkS ps_mem_Fill qs_mem_Fill F_mem_Fill), (31, mkS ps_helper_fill qs_helper_fill F_helper_fill)] hintsF) [(25, mkE2 pa_helper_fits_1 ph_helper_fits_1 pr_helper_fits_1 pz_helper_fits_1 pr2_helper_fits_1 pz2_helper_fits_1 E_helper_fits_1), (26, mkE pa_errors_Is_4 ph_errors_Is_4 pr_errors_Is_4 pz_errors_Is_4 E_errors_Is_4), (26, mkE pa_errors_Is_5 ph_errors_Is_5 pr_errors_Is_5 pz_errors_Is_5 E_errors_Is_5)] fl 11) 0 9 3 [] (getR qs_helper_Do k)
noncomputable def P_helper_Do_3_1 (F_helper_Table : FT ps_helper_Table qs_helper_Table) (F_helper_Spans : FT ps_helper_Spans qs_helper_Spans) (F_api_ArgKind_42 : FT ps_api_ArgKind_42 qs_api_ArgKind_42) (F_mem_Access : FT ps_mem_Access qs_mem_Access) (F_mem_May : FT ps_mem_May qs_mem_May) (F_slices_Clone_uint64_uint64 : FT ps_slices_Clone_uint64_uint64 qs_slices_Clone_uint64_uint64) (F_slices_Clone_byte_byte : FT ps_slices_Clone_byte_byte qs_slices_Clone_byte_byte) (F_mem_Bytes : FT ps_mem_Bytes qs_mem_Bytes) (F_mem_Fill : FT ps_mem_Fill qs_mem_Fill) (F_helper_fill : FT ps_helper_fill qs_helper_fill) (E_helper_fits_1 : TE_helper_fits_1) (E_errors_Is_4 : TE_errors_Is_4) (E_errors_Is_5 : TE_errors_Is_5) (fl : Nat)  (n : Nat) (R : Type) (y0 : List (List Int)) (y1 : Int) (y2 : List Int) (y3 : List Int) (y4 : Nat) (y5 : Int) (y6 : Int) (y7 : Int) (y8 : Bool) (y9 : List (Int × Bool)) (y10 : Int) (y11 : List Int) (k : PTs.D qs_helper_Do → Option R) : Option R :=
  loopH (PL_helper_Do_3_1 F_helper_Table F_helper_Spans F_api_ArgKind_42 F_mem_Access F_mem_May F_slices_Clone_uint64_uint64 F_slices_Clone_byte_byte F_mem_Bytes F_mem_Fill F_helper_fill E_helper_fits_1 E_errors_Is_4 E_errors_Is_5 fl  R k).body (PL_helper_Do_3_1 F_helper_Table F_helper_Spans F_api_ArgKind_42 F_mem_Access F_mem_May F_slices_Clone_uint64_uint64 F_slices_Clone_byte_byte F_mem_Bytes F_mem_Fill F_helper_fill E_helper_fits_1 E_errors_Is_4 E_errors_Is_5 fl  R k).head n (some (
      S.mk
        [V.any, V.ro true (Ty.slice (Ty.int IntKind.u8)) y0, V.int IntKind.i64 y1, V.ro true (Ty.int IntKind.u64) y2, V.ro true (Ty.int IntKind.u64) y3, V.ptr 0 0, V.any, V.any, V.any, V.any, V.any, V.any,
          V.ptr 1 0, V.any, V.nili, V.any, V.any, V.any, V.any, V.any, V.any, V.any, V.any, V.any, V.any, V.any, V.any, V.any, V.any, V.any, V.any, V.any, V.sl 2 1 y4, V.int IntKind.i64 y5,
          V.int IntKind.i64 y6, V.any, V.any, V.any, V.any, V.any, V.any, V.any, V.any, V.any, V.any, V.any, V.any, V.any, V.any, V.any, V.any, V.any, V.any, V.any, V.any, V.any, V.any, V.any, V.any, V.any,
          V.any, V.any, V.any, V.any, V.any, V.any, V.any, V.any, V.any, V.any, V.any, V.any, V.any, V.any, V.any, V.any, V.any, V.any, V.any, V.any, V.any, V.any, V.any, V.any, V.any, V.any, V.any, V.any,
          V.any, V.any, V.any, V.any, V.any, V.any, V.any, V.any, V.any, V.any, V.any, V.any, V.any, V.any, V.any, V.any, V.any, V.any, V.any, V.any, V.any, V.any, V.any, V.any, V.any, V.any, V.any, V.any,
          V.any, V.any, V.any, V.any, V.any, V.any, V.any, V.any, V.any, V.any, V.any, V.any, V.any, V.any, V.any, V.any, V.any, V.any, V.any, V.any, V.any]
        [] [Blk.cells [V.int IntKind.i64 y7, V.bool y8, V.ro true (Ty.prod (Ty.int IntKind.i64) Ty.bool) y9], Blk.cells [V.int IntKind.i64 y10, V.nsl, V.nsl], Blk.row (Ty.int IntKind.i64) y11])) (PL_helper_Do_3_1 F_helper_Table F_helper_Spans F_api_ArgKind_42 F_mem_Access F_mem_May F_slices_Clone_uint64_uint64 F_slices_Clone_byte_byte F_mem_Bytes F_mem_Fill F_helper_fill E_helper_fits_1 E_errors_Is_4 E_errors_Is_5 fl  R k).kont
noncomputable def PL_helper_Do_16_0 (F_helper_Table : FT ps_helper_Table qs_helper_Table) (F_helper_Spans : FT ps_helper_Spans qs_helper_Spans) (F_api_ArgKind_42 : FT ps_api_ArgKind_42 qs_api_ArgKind_42) (F_mem_Access : FT ps_mem_Access qs_mem_Access) (F_mem_May : FT ps_mem_May qs_mem_May) (F_slices_Clone_uint64_uint64 : FT ps_slices_Clone_uint64_uint64 qs_slices_Clone_uint64_uint64) (F_slices_Clone_byte_byte : FT ps_slices_Clone_byte_byte qs_slices_Clone_byte_byte) (F_mem_Bytes : FT ps_mem_Bytes qs_mem_Bytes) (F_mem_Fill : FT ps_mem_Fill qs_mem_Fill) (F_helper_fill : FT ps_helper_fill qs_helper_fill) (E_helper_fits_1 : TE_helper_fits_1) (E_errors_Is_4 : TE_errors_Is_4) (E_errors_Is_5 : TE_errors_Is_5) (fl : Nat)  (R : Type) (k : PTs.D qs_helper_Do → Option R) : LoopI R :=
  locate (Cw Try.prog [(11, mkS ps_helper_Table qs_helper_Table F_helper_Table), (13, mkS ps_helper_Spans qs_helper_Spans F_helper_Spans), (42, mkS ps_api_ArgKind_42 qs_api_ArgKind_42 F_api_ArgKind_42), (43, mkS ps_mem_Access qs_mem_Access F_mem_Access), (44, mkS ps_mem_May qs_mem_May F_mem_May), (27, mkS ps_slices_Clone_uint64_uint64 qs_slices_Clone_uint64_uint64 F_slices_Clone_uint64_uint64), (28, mkS ps_slices_Clone_byte_byte qs_slices_Clone_byte_byte F_slices_Clone_byte_byte), (29, mkS ps_mem_Bytes qs_mem_Bytes F_mem_Bytes), (30, mkS ps_mem_Fill qs_mem_Fill F_mem_Fill), (31, mkS ps_helper_fill qs_helper_fill F_helper_fill)] hintsF) fl (callE (Cw Try.prog [(11, mkS ps_helper_Table qs_helper_Table F_helper_Table), (13, mkS ps_helper_Spans qs_helper_Spans F_helper_Spans), (42, mkS ps_api_ArgKind_42 qs_api_ArgKind_42 F_api_ArgKind_42), (43, mkS ps_mem_Access qs_mem_Access F_mem_Access), (44, mkS ps_mem_May qs_mem_May F_mem_May), (27, mkS ps_slices_Clone_uint64_uint64 qs_slices_Clone_uint64_uint64 F_slices_Clone_uint64_uint64), (28, mkS ps_slices_Clone_byte_byte qs_slices_Clone_byte_byte F_slices_Clone_byte_byte), (29, mkS ps_mem_Bytes qs_mem_Bytes F_mem_Bytes), (30, mkS ps_mem_Fill qs_mem_Fill F_mem_Fill), (31, mkS ps_helper_fill qs_helper_fill F_helper_fill)] hintsF) [(25, mkE2 pa_helper_fits_1 ph_helper_fits_1 pr_helper_fits_1 pz_helper_fits_1 pr2_helper_fits_1 pz2_helper_fits_1 E_helper_fits_1), (26, mkE pa_errors_Is_4 ph_errors_Is_4 pr_errors_Is_4 pz_errors_Is_4 E_errors_Is_4), (26, mkE pa_errors_Is_5 ph_errors_Is_5 pr_errors_Is_5 pz_errors_Is_5 E_errors_Is_5)] fl 11) 0 9 16 [] (getR qs_helper_Do k)
noncomputable def P_helper_Do_16_0 (F_helper_Table : FT ps_helper_Table qs_helper_Table) (F_helper_Spans : FT ps_helper_Spans qs_helper_Spans) (F_api_ArgKind_42 : FT ps_api_ArgKind_42 qs_api_ArgKind_42) (F_mem_Access : FT ps_mem_Access qs_mem_Access) (F_mem_May : FT ps_mem_May qs_mem_May) (F_slices_Clone_uint64_uint64 : FT ps_slices_Clone_uint64_uint64 qs_slices_Clone_uint64_uint64) (F_slices_Clone_byte_byte : FT ps_slices_Clone_byte_byte qs_slices_Clone_byte_byte) (F_mem_Bytes : FT ps_mem_Bytes qs_mem_Bytes) (F_mem_Fill : FT ps_mem_Fill qs_mem_Fill) (F_helper_fill : FT ps_helper_fill qs_helper_fill) (E_helper_fits_1 : TE_helper_fits_1) (E_errors_Is_4 : TE_errors_Is_4) (E_errors_Is_5 : TE_errors_Is_5) (fl : Nat)  (n : Nat) (R : Type) (y0 : List (List Int)) (y1 : Int) (y2 : List Int) (y3 : Int) (y4 : Nat) (y5 : List (List Int)) (y6 : Int) (y7 : Int) (y8 : Int) (y9 : Bool) (y10 : List (Int × Bool)) (y11 : Int) (y12 : Int) (y13 : Nat) (y14 : List Int) (y15 : Int) (y16 : Int) (y17 : Int) (y18 : Int) (y19 : List (List Int)) (k : PTs.D qs_helper_Do → Option R) : Option R :=
  loopH (PL_helper_Do_16_0 F_helper_Table F_helper_Spans F_api_ArgKind_42 F_mem_Access F_mem_May F_slices_Clone_uint64_uint64 F_slices_Clone_byte_byte F_mem_Bytes F_mem_Fill F_helper_fill E_helper_fits_1 E_errors_Is_4 E_errors_Is_5 fl  R k).body (PL_helper_Do_16_0 F_helper_Table F_helper_Spans F_api_ArgKind_42 F_mem_Access F_mem_May F_slices_Clone_uint64_uint64 F_slices_Clone_byte_byte F_mem_Bytes F_mem_Fill F_helper_fill E_helper_fits_1 E_errors_Is_4 E_errors_Is_5 fl  R k).head n (some (
      S.mk
        [V.any, V.ro true (Ty.slice (Ty.int IntKind.u8)) y0, V.int IntKind.i64 y1, V.ro true (Ty.int IntKind.u64) y2, V.any, V.ptr 0 0, V.any, V.any, V.any, V.any, V.any, V.any, V.ptr 1 0, V.any, V.any,
          V.any, V.any, V.int IntKind.u64 y3, V.any, V.any, V.ptr 2 0, V.ptr 4 0, V.ptr 5 0, V.any, V.sl 6 1 y4, V.any, V.any, V.any, V.any, V.any, V.any, V.any, V.any, V.any, V.any, V.any, V.any, V.any,
          V.any, V.any, V.any, V.any, V.any, V.any, V.any, V.any, V.any, V.any, V.any, V.any, V.any, V.any, V.any, V.any, V.any, V.any, V.any, V.any, V.any, V.any, V.any, V.any, V.any, V.any, V.any, V.any,
          V.any, V.any, V.any, V.any, V.any, V.ro true (Ty.slice (Ty.int IntKind.u8)) y5, V.int IntKind.i64 y6, V.int IntKind.i64 y7, V.any, V.any, V.any, V.any, V.any, V.any, V.any, V.any, V.any, V.any,
          V.any, V.any, V.any, V.any, V.any, V.any, V.any, V.any, V.any, V.any, V.any, V.any, V.any, V.any, V.any, V.any, V.any, V.any, V.any, V.any, V.any, V.any, V.any, V.any, V.any, V.any, V.any, V.any,
          V.any, V.any, V.any, V.any, V.any, V.any, V.any, V.any, V.any, V.any, V.any, V.any, V.any, V.any, V.any, V.any, V.any, V.any, V.any, V.any, V.any, V.any, V.any, V.any, V.any]
        []
        [Blk.cells [V.int IntKind.i64 y8, V.bool y9, V.ro true (Ty.prod (Ty.int IntKind.i64) Ty.bool) y10], Blk.cells [V.int IntKind.i64 y11, V.nsl, V.nsl],
          Blk.cells [V.int IntKind.i64 y12, V.sl 3 1 y13, V.nsl], Blk.row (Ty.int IntKind.u64) y14, Blk.cells [V.int IntKind.u64 y15, V.int IntKind.i64 y16],
          Blk.cells [V.int IntKind.u64 y17, V.int IntKind.i64 y18], Blk.rows (Ty.int IntKind.u8) y19])) (PL_helper_Do_16_0 F_helper_Table F_helper_Spans F_api_ArgKind_42 F_mem_Access F_mem_May F_slices_Clone_uint64_uint64 F_slices_Clone_byte_byte F_mem_Bytes F_mem_Fill F_helper_fill E_helper_fits_1 E_errors_Is_4 E_errors_Is_5 fl  R k).kont
theorem P_helper_Do_3_0_s {F_helper_Table : FT ps_helper_Table qs_helper_Table} {F_helper_Spans : FT ps_helper_Spans qs_helper_Spans} {F_api_ArgKind_42 : FT ps_api_ArgKind_42 qs_api_ArgKind_42} {F_mem_Access : FT ps_mem_Access qs_mem_Access} {F_mem_May : FT ps_mem_May qs_mem_May} {F_slices_Clone_uint64_uint64 : FT ps_slices_Clone_uint64_uint64 qs_slices_Clone_uint64_uint64} {F_slices_Clone_byte_byte : FT ps_slices_Clone_byte_byte qs_slices_Clone_byte_byte} {F_mem_Bytes : FT ps_mem_Bytes qs_mem_Bytes} {F_mem_Fill : FT ps_mem_Fill qs_mem_Fill} {F_helper_fill : FT ps_helper_fill qs_helper_fill} {E_helper_fits_1 : TE_helper_fits_1} {E_errors_Is_4 : TE_errors_Is_4} {E_errors_Is_5 : TE_errors_Is_5} (fl : Nat)  (n : Nat) (R : Type) (y0 : List (List Int)) (y1 : Int) (y2 : List Int) (y3 : List Int) (y4 : Nat) (y5 : Int) (y6 : Int) (y7 : Int) (y8 : Bool) (y9 : List (Int × Bool)) (y10 : Int) (y11 : Int) (y12 : Int) (y13 : List Int) (k : PTs.D qs_helper_Do → Option R) : P_helper_Do_3_0 F_helper_Table F_helper_Spans F_api_ArgKind_42 F_mem_Access F_mem_May F_slices_Clone_uint64_uint64 F_slices_Clone_byte_byte F_mem_Bytes F_mem_Fill F_helper_fill E_helper_fits_1 E_errors_Is_4 E_errors_Is_5 fl  (n + 1) R y0 y1 y2 y3 y4 y5 y6 y7 y8 y9 y10 y11 y12 y13 k =
      br (W.lt y6 y5)
        (br (W.and2 (W.le 0 y6) (W.lt y6 (W.ofNat y4)))
          (E_errors_Is_4 R (W.get y13 (W.toNat y6) 0, y7, y8, y9, y10, y11, y12, y13, ()) fun z =>
            br z.1 (k (0, [], (0, [], []), W.get y13 (W.toNat y6) 0))
              (P_helper_Do_3_0 F_helper_Table F_helper_Spans F_api_ArgKind_42 F_mem_Access F_mem_May F_slices_Clone_uint64_uint64 F_slices_Clone_byte_byte F_mem_Bytes F_mem_Fill F_helper_fill E_helper_fits_1 E_errors_Is_4 E_errors_Is_5 fl n R y0 y1 y2 y3 y4 y5 (W.wrap IntKind.i64 (W.add y6 1)) z.2.1 z.2.2.1 z.2.2.2.1 z.2.2.2.2.1 z.2.2.2.2.2.1
                z.2.2.2.2.2.2.1 z.2.2.2.2.2.2.2.1 k))
          none)
        (br (W.gt (W.ofNat (W.len y3)) 0)
          (br (W.and2 true (W.lt 0 (W.ofNat (W.len y3))))
            (F_helper_Table R y1 fun y =>
              br (W.and2 (W.le 0 (W.ofNat (W.len y.1.2.1))) (W.le (W.ofNat (W.len y.1.2.1)) (W.ofNat (W.len y2))))
                (F_slices_Clone_uint64_uint64 R (W.slice y2 0 (W.toNat (W.ofNat (W.len y.1.2.1)))) fun y =>
                  F_helper_Spans R (y1, y2) fun y_1 =>
                    P_helper_Do_16_0 F_helper_Table F_helper_Spans F_api_ArgKind_42 F_mem_Access F_mem_May F_slices_Clone_uint64_uint64 F_slices_Clone_byte_byte F_mem_Bytes F_mem_Fill F_helper_fill E_helper_fits_1 E_errors_Is_4 E_errors_Is_5 fl fl R y0 y1 y2 (W.get y3 0 0) 0 y0 (W.ofNat (W.len y0)) 0 y7 y8 y9 y10 y1 (W.len y) y y_1.1.1 y_1.1.2
                      y_1.2.1.1 y_1.2.1.2 [] k)
                none)
            none)
          (F_helper_Table R y1 fun y =>
            br (W.and2 (W.le 0 (W.ofNat (W.len y.1.2.1))) (W.le (W.ofNat (W.len y.1.2.1)) (W.ofNat (W.len y2))))
              (F_slices_Clone_uint64_uint64 R (W.slice y2 0 (W.toNat (W.ofNat (W.len y.1.2.1)))) fun y =>
                F_helper_Spans R (y1, y2) fun y_1 =>
                  P_helper_Do_16_0 F_helper_Table F_helper_Spans F_api_ArgKind_42 F_mem_Access F_mem_May F_slices_Clone_uint64_uint64 F_slices_Clone_byte_byte F_mem_Bytes F_mem_Fill F_helper_fill E_helper_fits_1 E_errors_Is_4 E_errors_Is_5 fl fl R y0 y1 y2 0 0 y0 (W.ofNat (W.len y0)) 0 y7 y8 y9 y10 y1 (W.len y) y y_1.1.1 y_1.1.2 y_1.2.1.1 y_1.2.1.2 []
                    k)
              none)) := by kernel_rfl
theorem P_helper_Do_3_1_s {F_helper_Table : FT ps_helper_Table qs_helper_Table} {F_helper_Spans : FT ps_helper_Spans qs_helper_Spans} {F_api_ArgKind_42 : FT ps_api_ArgKind_42 qs_api_ArgKind_42} {F_mem_Access : FT ps_mem_Access qs_mem_Access} {F_mem_May : FT ps_mem_May qs_mem_May} {F_slices_Clone_uint64_uint64 : FT ps_slices_Clone_uint64_uint64 qs_slices_Clone_uint64_uint64} {F_slices_Clone_byte_byte : FT ps_slices_Clone_byte_byte qs_slices_Clone_byte_byte} {F_mem_Bytes : FT ps_mem_Bytes qs_mem_Bytes} {F_mem_Fill : FT ps_mem_Fill qs_mem_Fill} {F_helper_fill : FT ps_helper_fill qs_helper_fill} {E_helper_fits_1 : TE_helper_fits_1} {E_errors_Is_4 : TE_errors_Is_4} {E_errors_Is_5 : TE_errors_Is_5} (fl : Nat)  (n : Nat) (R : Type) (y0 : List (List Int)) (y1 : Int) (y2 : List Int) (y3 : List Int) (y4 : Nat) (y5 : Int) (y6 : Int) (y7 : Int) (y8 : Bool) (y9 : List (Int × Bool)) (y10 : Int) (y11 : List Int) (k : PTs.D qs_helper_Do → Option R) : P_helper_Do_3_1 F_helper_Table F_helper_Spans F_api_ArgKind_42 F_mem_Access F_mem_May F_slices_Clone_uint64_uint64 F_slices_Clone_byte_byte F_mem_Bytes F_mem_Fill F_helper_fill E_helper_fits_1 E_errors_Is_4 E_errors_Is_5 fl  (n + 1) R y0 y1 y2 y3 y4 y5 y6 y7 y8 y9 y10 y11 k =
      br (W.lt y6 y5)
        (br (W.and2 (W.le 0 y6) (W.lt y6 (W.ofNat y4)))
          (E_errors_Is_5 R (W.get y11 (W.toNat y6) 0, y7, y8, y9, y10, y11, ()) fun z =>
            br z.1 (k (0, [], (0, [], []), W.get y11 (W.toNat y6) 0))
              (P_helper_Do_3_1 F_helper_Table F_helper_Spans F_api_ArgKind_42 F_mem_Access F_mem_May F_slices_Clone_uint64_uint64 F_slices_Clone_byte_byte F_mem_Bytes F_mem_Fill F_helper_fill E_helper_fits_1 E_errors_Is_4 E_errors_Is_5 fl n R y0 y1 y2 y3 y4 y5 (W.wrap IntKind.i64 (W.add y6 1)) z.2.1 z.2.2.1 z.2.2.2.1 z.2.2.2.2.1 z.2.2.2.2.2.1 k))
          none)
        (br (W.gt (W.ofNat (W.len y3)) 0)
          (br (W.and2 true (W.lt 0 (W.ofNat (W.len y3))))
            (F_helper_Table R y1 fun y =>
              br (W.and2 (W.le 0 (W.ofNat (W.len y.1.2.1))) (W.le (W.ofNat (W.len y.1.2.1)) (W.ofNat (W.len y2))))
                (F_slices_Clone_uint64_uint64 R (W.slice y2 0 (W.toNat (W.ofNat (W.len y.1.2.1)))) fun y =>
                  F_helper_Spans R (y1, y2) fun y_1 =>
                    P_helper_Do_16_0 F_helper_Table F_helper_Spans F_api_ArgKind_42 F_mem_Access F_mem_May F_slices_Clone_uint64_uint64 F_slices_Clone_byte_byte F_mem_Bytes F_mem_Fill F_helper_fill E_helper_fits_1 E_errors_Is_4 E_errors_Is_5 fl fl R y0 y1 y2 (W.get y3 0 0) 0 y0 (W.ofNat (W.len y0)) 0 y7 y8 y9 y10 y1 (W.len y) y y_1.1.1 y_1.1.2
                      y_1.2.1.1 y_1.2.1.2 [] k)
                none)
            none)
          (F_helper_Table R y1 fun y =>
            br (W.and2 (W.le 0 (W.ofNat (W.len y.1.2.1))) (W.le (W.ofNat (W.len y.1.2.1)) (W.ofNat (W.len y2))))
              (F_slices_Clone_uint64_uint64 R (W.slice y2 0 (W.toNat (W.ofNat (W.len y.1.2.1)))) fun y =>
                F_helper_Spans R (y1, y2) fun y_1 =>
                  P_helper_Do_16_0 F_helper_Table F_helper_Spans F_api_ArgKind_42 F_mem_Access F_mem_May F_slices_Clone_uint64_uint64 F_slices_Clone_byte_byte F_mem_Bytes F_mem_Fill F_helper_fill E_helper_fits_1 E_errors_Is_4 E_errors_Is_5 fl fl R y0 y1 y2 0 0 y0 (W.ofNat (W.len y0)) 0 y7 y8 y9 y10 y1 (W.len y) y y_1.1.1 y_1.1.2 y_1.2.1.1 y_1.2.1.2 []
                    k)
              none)) := by kernel_rfl
theorem P_helper_Do_16_0_s {F_helper_Table : FT ps_helper_Table qs_helper_Table} {F_helper_Spans : FT ps_helper_Spans qs_helper_Spans} {F_api_ArgKind_42 : FT ps_api_ArgKind_42 qs_api_ArgKind_42} {F_mem_Access : FT ps_mem_Access qs_mem_Access} {F_mem_May : FT ps_mem_May qs_mem_May} {F_slices_Clone_uint64_uint64 : FT ps_slices_Clone_uint64_uint64 qs_slices_Clone_uint64_uint64} {F_slices_Clone_byte_byte : FT ps_slices_Clone_byte_byte qs_slices_Clone_byte_byte} {F_mem_Bytes : FT ps_mem_Bytes qs_mem_Bytes} {F_mem_Fill : FT ps_mem_Fill qs_mem_Fill} {F_helper_fill : FT ps_helper_fill qs_helper_fill} {E_helper_fits_1 : TE_helper_fits_1} {E_errors_Is_4 : TE_errors_Is_4} {E_errors_Is_5 : TE_errors_Is_5} (fl : Nat)  (n : Nat) (R : Type) (y0 : List (List Int)) (y1 : Int) (y2 : List Int) (y3 : Int) (y4 : Nat) (y5 : List (List Int)) (y6 : Int) (y7 : Int) (y8 : Int) (y9 : Bool) (y10 : List (Int × Bool)) (y11 : Int) (y12 : Int) (y13 : Nat) (y14 : List Int) (y15 : Int) (y16 : Int) (y17 : Int) (y18 : Int) (y19 : List (List Int)) (k : PTs.D qs_helper_Do → Option R) : P_helper_Do_16_0 F_helper_Table F_helper_Spans F_api_ArgKind_42 F_mem_Access F_mem_May F_slices_Clone_uint64_uint64 F_slices_Clone_byte_byte F_mem_Bytes F_mem_Fill F_helper_fill E_helper_fits_1 E_errors_Is_4 E_errors_Is_5 fl  (n + 1) R y0 y1 y2 y3 y4 y5 y6 y7 y8 y9 y10 y11 y12 y13 y14 y15 y16 y17 y18 y19 k =
      br (W.lt y7 y6)
        (br (W.and2 (W.le 0 y7) (W.lt y7 (W.ofNat (W.len y5))))
          (F_slices_Clone_byte_byte R (W.get y5 (W.toNat y7) []) fun y =>
            br (W.leN (W.mulN (W.addN y4 1) 24) 140737488355328)
              (P_helper_Do_16_0 F_helper_Table F_helper_Spans F_api_ArgKind_42 F_mem_Access F_mem_May F_slices_Clone_uint64_uint64 F_slices_Clone_byte_byte F_mem_Bytes F_mem_Fill F_helper_fill E_helper_fits_1 E_errors_Is_4 E_errors_Is_5 fl n R y0 y1 y2 y3 (W.addN y4 1) y5 y6 (W.wrap IntKind.i64 (W.add y7 1)) y8 y9 y10 y11 y12 y13 y14 y15 y16 y17 y18
                (W.app y19 [y]) k)
              none)
          none)
        (br (W.eq y1 5)
          (br (W.and2 true (W.lt 0 (W.ofNat (W.len y2))))
            (br (W.and2 true (W.lt 1 (W.ofNat (W.len y2))))
              (br (W.and2 true (W.lt 2 (W.ofNat (W.len y2))))
                (k
                  (W.wrap IntKind.u64
                      (W.add y3 (W.wrap IntKind.u64 (W.add (W.wrap IntKind.u64 (W.add (W.get y2 0 0) (W.wrap IntKind.u64 (W.mul 3 (W.get y2 1 0))))) (W.wrap IntKind.u64 (W.mul 5 (W.get y2 2 0)))))),
                    y19, (y12, y14, []), 0))
                none)
              none)
            none)
          (br (W.eq y1 3) (br (W.and2 true (W.lt 0 (W.ofNat y13))) (F_mem_Bytes R (((y8, y9), y10), y0, y15, y16) fun y => k (y3, y19, (y12, W.set y14 0 0, y.1), 0)) none)
            (br (W.eq y1 4) (br (W.and2 true (W.lt 0 (W.ofNat y13))) (F_helper_fill R (y3, y18) fun y => F_mem_Fill R (((y8, y9), y10), y0, y17, y) fun y => k (y3, y.1, (y12, W.set y14 0 0, []), 0)) none)
              (k (y3, y19, (y12, y14, []), 0))))) := by kernel_rfl
noncomputable def N_helper_Do (F_helper_Table : FT ps_helper_Table qs_helper_Table) (F_helper_Spans : FT ps_helper_Spans qs_helper_Spans) (F_api_ArgKind_42 : FT ps_api_ArgKind_42 qs_api_ArgKind_42) (F_mem_Access : FT ps_mem_Access qs_mem_Access) (F_mem_May : FT ps_mem_May qs_mem_May) (F_slices_Clone_uint64_uint64 : FT ps_slices_Clone_uint64_uint64 qs_slices_Clone_uint64_uint64) (F_slices_Clone_byte_byte : FT ps_slices_Clone_byte_byte qs_slices_Clone_byte_byte) (F_mem_Bytes : FT ps_mem_Bytes qs_mem_Bytes) (F_mem_Fill : FT ps_mem_Fill qs_mem_Fill) (F_helper_fill : FT ps_helper_fill qs_helper_fill) (E_helper_fits_1 : TE_helper_fits_1) (E_errors_Is_4 : TE_errors_Is_4) (E_errors_Is_5 : TE_errors_Is_5) (fl : Nat) : FT ps_helper_Do qs_helper_Do := fun R x k => match x with
  | (((x0Context_Size, x0Context_Write), x0Maps), x1, x2, x3, x4) => 
      E_helper_fits_1 R (x0Context_Size, x0Context_Write, x0Maps, x1, x2, x3, x0Context_Size, x0Context_Write, x0Maps, 0, ())
        (fun z =>
          P_helper_Do_3_0 F_helper_Table F_helper_Spans F_api_ArgKind_42 F_mem_Access F_mem_May F_slices_Clone_uint64_uint64 F_slices_Clone_byte_byte F_mem_Bytes F_mem_Fill F_helper_fill E_helper_fits_1 E_errors_Is_4 E_errors_Is_5 fl fl R x1 x2 x3 x4 2 2 0 z.1 z.2.1 z.2.2.1 z.2.2.2.1 z.2.2.2.2.1 z.2.2.2.2.2.1 [50, 2] k)
        fun z =>
        P_helper_Do_3_1 F_helper_Table F_helper_Spans F_api_ArgKind_42 F_mem_Access F_mem_May F_slices_Clone_uint64_uint64 F_slices_Clone_byte_byte F_mem_Bytes F_mem_Fill F_helper_fill E_helper_fits_1 E_errors_Is_4 E_errors_Is_5 fl fl R x1 x2 x3 x4 2 2 0 z.1 z.2.1 z.2.2.1 z.2.2.2.1 [50, 2] k
theorem Q_helper_Do {F_helper_Table : FT ps_helper_Table qs_helper_Table} {F_helper_Spans : FT ps_helper_Spans qs_helper_Spans} {F_api_ArgKind_42 : FT ps_api_ArgKind_42 qs_api_ArgKind_42} {F_mem_Access : FT ps_mem_Access qs_mem_Access} {F_mem_May : FT ps_mem_May qs_mem_May} {F_slices_Clone_uint64_uint64 : FT ps_slices_Clone_uint64_uint64 qs_slices_Clone_uint64_uint64} {F_slices_Clone_byte_byte : FT ps_slices_Clone_byte_byte qs_slices_Clone_byte_byte} {F_mem_Bytes : FT ps_mem_Bytes qs_mem_Bytes} {F_mem_Fill : FT ps_mem_Fill qs_mem_Fill} {F_helper_fill : FT ps_helper_fill qs_helper_fill} {E_helper_fits_1 : TE_helper_fits_1} {E_errors_Is_4 : TE_errors_Is_4} {E_errors_Is_5 : TE_errors_Is_5} (fl : Nat) (R : Type) (x : PTs.D ps_helper_Do) (k : PTs.D qs_helper_Do → Option R) : callE (Cw Try.prog [(11, mkS ps_helper_Table qs_helper_Table F_helper_Table), (13, mkS ps_helper_Spans qs_helper_Spans F_helper_Spans), (42, mkS ps_api_ArgKind_42 qs_api_ArgKind_42 F_api_ArgKind_42), (43, mkS ps_mem_Access qs_mem_Access F_mem_Access), (44, mkS ps_mem_May qs_mem_May F_mem_May), (27, mkS ps_slices_Clone_uint64_uint64 qs_slices_Clone_uint64_uint64 F_slices_Clone_uint64_uint64), (28, mkS ps_slices_Clone_byte_byte qs_slices_Clone_byte_byte F_slices_Clone_byte_byte), (29, mkS ps_mem_Bytes qs_mem_Bytes F_mem_Bytes), (30, mkS ps_mem_Fill qs_mem_Fill F_mem_Fill), (31, mkS ps_helper_fill qs_helper_fill F_helper_fill)] hintsF) [(25, mkE2 pa_helper_fits_1 ph_helper_fits_1 pr_helper_fits_1 pz_helper_fits_1 pr2_helper_fits_1 pz2_helper_fits_1 E_helper_fits_1), (26, mkE pa_errors_Is_4 ph_errors_Is_4 pr_errors_Is_4 pz_errors_Is_4 E_errors_Is_4), (26, mkE pa_errors_Is_5 ph_errors_Is_5 pr_errors_Is_5 pz_errors_Is_5 E_errors_Is_5)] fl 12 9 (encL true ps_helper_Do x) [] (getR qs_helper_Do k) = N_helper_Do F_helper_Table F_helper_Spans F_api_ArgKind_42 F_mem_Access F_mem_May F_slices_Clone_uint64_uint64 F_slices_Clone_byte_byte F_mem_Bytes F_mem_Fill F_helper_fill E_helper_fits_1 E_errors_Is_4 E_errors_Is_5 fl R x k := by
  obtain ⟨⟨⟨x0Context_Size, x0Context_Write⟩, x0Maps⟩, x1, x2, x3, x4⟩ := x; kernel_rfl
theorem S_helper_Do {F_helper_Table : FT ps_helper_Table qs_helper_Table} {F_helper_Spans : FT ps_helper_Spans qs_helper_Spans} {F_api_ArgKind_42 : FT ps_api_ArgKind_42 qs_api_ArgKind_42} {F_mem_Access : FT ps_mem_Access qs_mem_Access} {F_mem_May : FT ps_mem_May qs_mem_May} {F_slices_Clone_uint64_uint64 : FT ps_slices_Clone_uint64_uint64 qs_slices_Clone_uint64_uint64} {F_slices_Clone_byte_byte : FT ps_slices_Clone_byte_byte qs_slices_Clone_byte_byte} {F_mem_Bytes : FT ps_mem_Bytes qs_mem_Bytes} {F_mem_Fill : FT ps_mem_Fill qs_mem_Fill} {F_helper_fill : FT ps_helper_fill qs_helper_fill} {E_helper_fits_1 : TE_helper_fits_1} {E_errors_Is_4 : TE_errors_Is_4} {E_errors_Is_5 : TE_errors_Is_5} (h_helper_Table : SpecOk Try.prog 11 (mkS ps_helper_Table qs_helper_Table F_helper_Table)) (h_helper_Spans : SpecOk Try.prog 13 (mkS ps_helper_Spans qs_helper_Spans F_helper_Spans)) (h_api_ArgKind_42 : SpecOk Try.prog 42 (mkS ps_api_ArgKind_42 qs_api_ArgKind_42 F_api_ArgKind_42)) (h_mem_Access : SpecOk Try.prog 43 (mkS ps_mem_Access qs_mem_Access F_mem_Access)) (h_mem_May : SpecOk Try.prog 44 (mkS ps_mem_May qs_mem_May F_mem_May)) (h_slices_Clone_uint64_uint64 : SpecOk Try.prog 27 (mkS ps_slices_Clone_uint64_uint64 qs_slices_Clone_uint64_uint64 F_slices_Clone_uint64_uint64)) (h_slices_Clone_byte_byte : SpecOk Try.prog 28 (mkS ps_slices_Clone_byte_byte qs_slices_Clone_byte_byte F_slices_Clone_byte_byte)) (h_mem_Bytes : SpecOk Try.prog 29 (mkS ps_mem_Bytes qs_mem_Bytes F_mem_Bytes)) (h_mem_Fill : SpecOk Try.prog 30 (mkS ps_mem_Fill qs_mem_Fill F_mem_Fill)) (h_helper_fill : SpecOk Try.prog 31 (mkS ps_helper_fill qs_helper_fill F_helper_fill)) (h_helper_fits_1 : ESpOk Try.prog 25 (mkE2 pa_helper_fits_1 ph_helper_fits_1 pr_helper_fits_1 pz_helper_fits_1 pr2_helper_fits_1 pz2_helper_fits_1 E_helper_fits_1)) (h_errors_Is_4 : ESpOk Try.prog 26 (mkE pa_errors_Is_4 ph_errors_Is_4 pr_errors_Is_4 pz_errors_Is_4 E_errors_Is_4)) (h_errors_Is_5 : ESpOk Try.prog 26 (mkE pa_errors_Is_5 ph_errors_Is_5 pr_errors_Is_5 pz_errors_Is_5 E_errors_Is_5)) : SpecOk Try.prog 9 (mkS ps_helper_Do qs_helper_Do (N_helper_Do F_helper_Table F_helper_Spans F_api_ArgKind_42 F_mem_Access F_mem_May F_slices_Clone_uint64_uint64 F_slices_Clone_byte_byte F_mem_Bytes F_mem_Fill F_helper_fill E_helper_fits_1 E_errors_Is_4 E_errors_Is_5 W.big)) :=
  specOkE_mk (fl := W.big) (d := 12) (cfgOk_cons (cfgOk_cons (cfgOk_cons (cfgOk_cons (cfgOk_cons (cfgOk_cons (cfgOk_cons (cfgOk_cons (cfgOk_cons (cfgOk_cons base h_helper_fill) h_mem_Fill) h_mem_Bytes) h_slices_Clone_byte_byte) h_slices_Clone_uint64_uint64) h_mem_May) h_mem_Access) h_api_ArgKind_42) h_helper_Spans) h_helper_Table) (esOk_cons (esOk_cons (esOk_cons esOk_nil h_errors_Is_5) h_errors_Is_4) h_helper_fits_1) (fun R x k => Q_helper_Do W.big R x k)
noncomputable def F_helper_Do : FT ps_helper_Do qs_helper_Do := N_helper_Do F_helper_Table F_helper_Spans F_api_ArgKind_42 F_mem_Access F_mem_May F_slices_Clone_uint64_uint64 F_slices_Clone_byte_byte F_mem_Bytes F_mem_Fill F_helper_fill E_helper_fits_1 E_errors_Is_4 E_errors_Is_5 W.big
theorem ok_helper_Do : SpecOk Try.prog 9 (mkS ps_helper_Do qs_helper_Do F_helper_Do) := S_helper_Do ok_helper_Table ok_helper_Spans ok_api_ArgKind_42 ok_mem_Access ok_mem_May ok_slices_Clone_uint64_uint64 ok_slices_Clone_byte_byte ok_mem_Bytes ok_mem_Fill ok_helper_fill okE_helper_fits_1 okE_errors_Is_4 okE_errors_Is_5
abbrev ps_clevisref02Address : List PT := [.one (.int .i64), .one (.int .i64)]
abbrev qs_clevisref02Address : List PT := [.one (.int .u64)]
noncomputable def N_clevisref02Address   : FT ps_clevisref02Address qs_clevisref02Address := fun R x k => match x with
  | (x0, x1) => 
      k (W.wrap IntKind.u64 (W.add (W.wrap IntKind.u64 (W.mul (W.wrap IntKind.u64 x0) 4294967296)) (W.wrap IntKind.u64 x1)))
theorem S_clevisref02Address   : SpecOk Try.prog 32 (mkS ps_clevisref02Address qs_clevisref02Address (N_clevisref02Address )) :=
  specOk_mk (fl := 10) (d := 12) base (by rintro R ⟨x0, x1⟩ k; kernel_rfl)
noncomputable def F_clevisref02Address : FT ps_clevisref02Address qs_clevisref02Address := N_clevisref02Address  
theorem ok_clevisref02Address : SpecOk Try.prog 32 (mkS ps_clevisref02Address qs_clevisref02Address F_clevisref02Address) := S_clevisref02Address 
abbrev ps_clevislaw05heads : List PT := []
abbrev qs_clevislaw05heads : List PT := [.one (.bool)]
noncomputable def N_clevislaw05heads (F_clevisref02Fresh : FT ps_clevisref02Fresh qs_clevisref02Fresh) (F_helper_Table : FT ps_helper_Table qs_helper_Table) (F_helper_Do : FT ps_helper_Do qs_helper_Do) (F_clevisref02Address : FT ps_clevisref02Address qs_clevisref02Address)  : FT ps_clevislaw05heads qs_clevislaw05heads := fun R x k => match x with
  | () => 
      F_clevisref02Fresh R ((8, false), []) fun y =>
        F_helper_Do R (((8, false), []), y.1, 5, [1, 2, 3], [4]) fun y_1 =>
          F_clevisref02Address R (1, 0) fun y_2 =>
            F_helper_Do R (((8, false), []), y.1, 4, [y_2, 8], []) fun y_3 =>
              F_clevisref02Address R (2, 0) fun y_4 =>
                F_helper_Do R (((8, false), []), y.1, 4, [y_4, 2], [513]) fun y =>
                  F_helper_Table R 3 fun y_5 =>
                    br
                      (W.or2
                        (W.not
                          (W.pick
                            (W.pick (W.pick (W.pick (W.pick (W.pick (W.eq y_1.1 26) (W.eq (W.ofNat (W.len y_1.2.2.1.2.1)) 3) false) (W.eq y_1.2.2.2 0) false) (W.eq y_3.2.2.2 50) false) (W.eq y.1 513) false)
                              (W.eq y.2.2.2 0) false)
                            (W.eq (W.ofNat (W.len y.2.1)) 2) false))
                        (W.and2 true (W.lt 1 (W.ofNat (W.len y.2.1)))))
                      (br
                        (W.or2
                          (W.not
                            (W.pick
                              (W.pick
                                (W.pick (W.pick (W.pick (W.pick (W.eq y_1.1 26) (W.eq (W.ofNat (W.len y_1.2.2.1.2.1)) 3) false) (W.eq y_1.2.2.2 0) false) (W.eq y_3.2.2.2 50) false) (W.eq y.1 513) false)
                                (W.eq y.2.2.2 0) false)
                              (W.eq (W.ofNat (W.len y.2.1)) 2) false))
                          (W.and2 true (W.lt 1 (W.ofNat (W.len (W.get y.2.1 1 []))))))
                        (k
                          (W.pick
                            (W.pick
                              (W.pick
                                (W.pick
                                  (W.pick
                                    (W.pick
                                      (W.pick (W.pick (W.pick (W.pick (W.eq y_1.1 26) (W.eq (W.ofNat (W.len y_1.2.2.1.2.1)) 3) false) (W.eq y_1.2.2.2 0) false) (W.eq y_3.2.2.2 50) false) (W.eq y.1 513)
                                        false)
                                      (W.eq y.2.2.2 0) false)
                                    (W.eq (W.ofNat (W.len y.2.1)) 2) false)
                                  (W.eq (W.get (W.get y.2.1 1 []) 1 0) 2) false)
                                y_5.2 false)
                              (W.eqS y_5.1.1
                                (ByteArray.mk
                                  (Array.mk
                                    [UInt8.ofBitVec (BitVec.ofFin (Fin.mk 115 (Nat.mod_lt 115 (BitVec.ofNat._proof_1 8)))),
                                      UInt8.ofBitVec (BitVec.ofFin (Fin.mk 101 (Nat.mod_lt 101 (BitVec.ofNat._proof_1 8)))),
                                      UInt8.ofBitVec (BitVec.ofFin (Fin.mk 110 (Nat.mod_lt 110 (BitVec.ofNat._proof_1 8)))),
                                      UInt8.ofBitVec (BitVec.ofFin (Fin.mk 100 (Nat.mod_lt 100 (BitVec.ofNat._proof_1 8))))])))
                              false)
                            (W.eq (W.ofNat (W.len y_5.1.2.1)) 2) false))
                        none)
                      none
theorem S_clevislaw05heads {F_clevisref02Fresh : FT ps_clevisref02Fresh qs_clevisref02Fresh} {F_helper_Table : FT ps_helper_Table qs_helper_Table} {F_helper_Do : FT ps_helper_Do qs_helper_Do} {F_clevisref02Address : FT ps_clevisref02Address qs_clevisref02Address} (h_clevisref02Fresh : SpecOk Try.prog 8 (mkS ps_clevisref02Fresh qs_clevisref02Fresh F_clevisref02Fresh)) (h_helper_Table : SpecOk Try.prog 11 (mkS ps_helper_Table qs_helper_Table F_helper_Table)) (h_helper_Do : SpecOk Try.prog 9 (mkS ps_helper_Do qs_helper_Do F_helper_Do)) (h_clevisref02Address : SpecOk Try.prog 32 (mkS ps_clevisref02Address qs_clevisref02Address F_clevisref02Address)) : SpecOk Try.prog 10 (mkS ps_clevislaw05heads qs_clevislaw05heads (N_clevislaw05heads F_clevisref02Fresh F_helper_Table F_helper_Do F_clevisref02Address)) :=
  specOk_mk (fl := 10) (d := 12) (cfgOk_cons (cfgOk_cons (cfgOk_cons (cfgOk_cons base h_clevisref02Address) h_helper_Do) h_helper_Table) h_clevisref02Fresh) (by intro R x k; kernel_rfl)
noncomputable def F_clevislaw05heads : FT ps_clevislaw05heads qs_clevislaw05heads := N_clevislaw05heads F_clevisref02Fresh F_helper_Table F_helper_Do F_clevisref02Address 
theorem ok_clevislaw05heads : SpecOk Try.prog 10 (mkS ps_clevislaw05heads qs_clevislaw05heads F_clevislaw05heads) := S_clevislaw05heads ok_clevisref02Fresh ok_helper_Table ok_helper_Do ok_clevisref02Address
abbrev ps_clevislaw05HelperMixes : List PT := [.one (.int .u64), .one (.int .u64), .one (.int .u64), .one (.int .u64)]
noncomputable def L_clevislaw05HelperMixes (F_clevisref02Fresh : FT ps_clevisref02Fresh qs_clevisref02Fresh) (F_helper_Do : FT ps_helper_Do qs_helper_Do) (F_clevislaw05heads : FT ps_clevislaw05heads qs_clevislaw05heads)  (x : PTs.D ps_clevislaw05HelperMixes) : Option Unit := match x with
  | (x0, x1, x2, x3) => 
      F_clevisref02Fresh Unit ((0, false), []) fun y =>
        F_helper_Do Unit (((0, false), []), y.1, 5, [x0, x1, x2], [x3, 1]) fun y_1 =>
          F_helper_Do Unit (((0, false), []), y.1, 1, [], [x3]) fun y_2 =>
            F_helper_Do Unit (((0, false), []), y.1, 2, [x0], []) fun y =>
              br
                (W.or2
                  (W.not
                    (W.pick
                      (W.pick
                        (W.pick
                          (W.pick (W.pick (W.pick (W.eq y_1.2.2.2 0) (W.eq y_2.2.2.2 0) false) (W.eq y.2.2.2 0) false)
                            (W.eq y_1.1 (W.wrap IntKind.u64 (W.add (W.wrap IntKind.u64 (W.add (W.wrap IntKind.u64 (W.add x0 (W.wrap IntKind.u64 (W.mul 3 x1)))) (W.wrap IntKind.u64 (W.mul 5 x2)))) x3)))
                            false)
                          (W.eq y_2.1 x3) false)
                        (W.eq y.1 0) false)
                      (W.eq (W.ofNat (W.len y_1.2.2.1.2.1)) 3) false))
                  (W.and2 true (W.lt 2 (W.ofNat (W.len y_1.2.2.1.2.1)))))
                (br
                  (W.or2
                    (W.not
                      (W.pick
                        (W.pick
                          (W.pick
                            (W.pick
                              (W.pick
                                (W.pick
                                  (W.pick (W.pick (W.pick (W.eq y_1.2.2.2 0) (W.eq y_2.2.2.2 0) false) (W.eq y.2.2.2 0) false)
                                    (W.eq y_1.1
                                      (W.wrap IntKind.u64 (W.add (W.wrap IntKind.u64 (W.add (W.wrap IntKind.u64 (W.add x0 (W.wrap IntKind.u64 (W.mul 3 x1)))) (W.wrap IntKind.u64 (W.mul 5 x2)))) x3)))
                                    false)
                                  (W.eq y_2.1 x3) false)
                                (W.eq y.1 0) false)
                              (W.eq (W.ofNat (W.len y_1.2.2.1.2.1)) 3) false)
                            (W.eq (W.get y_1.2.2.1.2.1 2 0) x2) false)
                          (W.eq (W.ofNat (W.len y_2.2.2.1.2.1)) 0) false)
                        (W.eq (W.ofNat (W.len y.2.2.1.2.1)) 1) false))
                    (W.and2 true (W.lt 0 (W.ofNat (W.len y.2.2.1.2.1)))))
                  (br
                    (W.pick
                      (W.pick
                        (W.pick
                          (W.pick
                            (W.pick
                              (W.pick
                                (W.pick
                                  (W.pick (W.pick (W.pick (W.eq y_1.2.2.2 0) (W.eq y_2.2.2.2 0) false) (W.eq y.2.2.2 0) false)
                                    (W.eq y_1.1
                                      (W.wrap IntKind.u64 (W.add (W.wrap IntKind.u64 (W.add (W.wrap IntKind.u64 (W.add x0 (W.wrap IntKind.u64 (W.mul 3 x1)))) (W.wrap IntKind.u64 (W.mul 5 x2)))) x3)))
                                    false)
                                  (W.eq y_2.1 x3) false)
                                (W.eq y.1 0) false)
                              (W.eq (W.ofNat (W.len y_1.2.2.1.2.1)) 3) false)
                            (W.eq (W.get y_1.2.2.1.2.1 2 0) x2) false)
                          (W.eq (W.ofNat (W.len y_2.2.2.1.2.1)) 0) false)
                        (W.eq (W.ofNat (W.len y.2.2.1.2.1)) 1) false)
                      (W.eq (W.get y.2.2.1.2.1 0 0) x0) false)
                    (F_clevislaw05heads Unit () fun y => br (W.pick true y false) (some ()) none) none)
                  none)
                none
theorem E_clevislaw05HelperMixes {F_clevisref02Fresh : FT ps_clevisref02Fresh qs_clevisref02Fresh} {F_helper_Do : FT ps_helper_Do qs_helper_Do} {F_clevislaw05heads : FT ps_clevislaw05heads qs_clevislaw05heads} (h_clevisref02Fresh : SpecOk Try.prog 8 (mkS ps_clevisref02Fresh qs_clevisref02Fresh F_clevisref02Fresh)) (h_helper_Do : SpecOk Try.prog 9 (mkS ps_helper_Do qs_helper_Do F_helper_Do)) (h_clevislaw05heads : SpecOk Try.prog 10 (mkS ps_clevislaw05heads qs_clevislaw05heads F_clevislaw05heads)) (x : PTs.D ps_clevislaw05HelperMixes) (hL : L_clevislaw05HelperMixes F_clevisref02Fresh F_helper_Do F_clevislaw05heads x = some ()) :
    ∃ (C : Cfg) (fl d : Nat), CfgOk C ∧ C.P = Try.prog ∧ call C fl d 3 (encL false ps_clevislaw05HelperMixes x) [] getL = some () :=
  ⟨_, 10, 12, (cfgOk_cons (cfgOk_cons (cfgOk_cons base h_clevislaw05heads) h_helper_Do) h_clevisref02Fresh), rfl, (show _ = L_clevislaw05HelperMixes F_clevisref02Fresh F_helper_Do F_clevislaw05heads x by obtain ⟨x0, x1, x2, x3⟩ := x; kernel_rfl).trans hL⟩
abbrev ps_clevisref05Table : List PT := [.one (.int .i64)]
abbrev qs_clevisref05Table : List PT := [.agg ((.prod (.str) (.prod (.slice (.int .i64)) (.int .i64)))), .one (.bool)]
noncomputable def N_clevisref05Table   : FT ps_clevisref05Table qs_clevisref05Table := fun R x k => match x with
  | x0 => 
      br (W.eq x0 1)
        (k
          ((ByteArray.mk
                (Array.mk
                  [UInt8.ofBitVec (BitVec.ofFin (Fin.mk 110 (Nat.mod_lt 110 (BitVec.ofNat._proof_1 8)))), UInt8.ofBitVec (BitVec.ofFin (Fin.mk 111 (Nat.mod_lt 111 (BitVec.ofNat._proof_1 8)))),
                    UInt8.ofBitVec (BitVec.ofFin (Fin.mk 119 (Nat.mod_lt 119 (BitVec.ofNat._proof_1 8))))]),
              [], 0),
            true))
        (br (W.eq x0 2)
          (k
            ((ByteArray.mk
                  (Array.mk
                    [UInt8.ofBitVec (BitVec.ofFin (Fin.mk 112 (Nat.mod_lt 112 (BitVec.ofNat._proof_1 8)))), UInt8.ofBitVec (BitVec.ofFin (Fin.mk 117 (Nat.mod_lt 117 (BitVec.ofNat._proof_1 8)))),
                      UInt8.ofBitVec (BitVec.ofFin (Fin.mk 116 (Nat.mod_lt 116 (BitVec.ofNat._proof_1 8))))]),
                [1], 0),
              true))
          (br (W.eq x0 3)
            (k
              ((ByteArray.mk
                    (Array.mk
                      [UInt8.ofBitVec (BitVec.ofFin (Fin.mk 115 (Nat.mod_lt 115 (BitVec.ofNat._proof_1 8)))), UInt8.ofBitVec (BitVec.ofFin (Fin.mk 101 (Nat.mod_lt 101 (BitVec.ofNat._proof_1 8)))),
                        UInt8.ofBitVec (BitVec.ofFin (Fin.mk 110 (Nat.mod_lt 110 (BitVec.ofNat._proof_1 8)))), UInt8.ofBitVec (BitVec.ofFin (Fin.mk 100 (Nat.mod_lt 100 (BitVec.ofNat._proof_1 8))))]),
                  [2, 4], 64),
                true))
            (br (W.eq x0 4)
              (k
                ((ByteArray.mk
                      (Array.mk
                        [UInt8.ofBitVec (BitVec.ofFin (Fin.mk 114 (Nat.mod_lt 114 (BitVec.ofNat._proof_1 8)))), UInt8.ofBitVec (BitVec.ofFin (Fin.mk 101 (Nat.mod_lt 101 (BitVec.ofNat._proof_1 8)))),
                          UInt8.ofBitVec (BitVec.ofFin (Fin.mk 99 (Nat.mod_lt 99 (BitVec.ofNat._proof_1 8)))), UInt8.ofBitVec (BitVec.ofFin (Fin.mk 118 (Nat.mod_lt 118 (BitVec.ofNat._proof_1 8))))]),
                    [3, 4], 64),
                  true))
              (br (W.eq x0 5)
                (k
                  ((ByteArray.mk
                        (Array.mk
                          [UInt8.ofBitVec (BitVec.ofFin (Fin.mk 109 (Nat.mod_lt 109 (BitVec.ofNat._proof_1 8)))), UInt8.ofBitVec (BitVec.ofFin (Fin.mk 105 (Nat.mod_lt 105 (BitVec.ofNat._proof_1 8)))),
                            UInt8.ofBitVec (BitVec.ofFin (Fin.mk 120 (Nat.mod_lt 120 (BitVec.ofNat._proof_1 8))))]),
                      [1, 1, 1], 0),
                    true))
                (k ((ByteArray.mk (Array.mk []), [], 0), false))))))
theorem S_clevisref05Table   : SpecOk Try.prog 12 (mkS ps_clevisref05Table qs_clevisref05Table (N_clevisref05Table )) :=
  specOk_mk (fl := 10) (d := 12) base (by intro R x0 k; kernel_rfl)
noncomputable def F_clevisref05Table : FT ps_clevisref05Table qs_clevisref05Table := N_clevisref05Table  
theorem ok_clevisref05Table : SpecOk Try.prog 12 (mkS ps_clevisref05Table qs_clevisref05Table F_clevisref05Table) := S_clevisref05Table 
abbrev ps_clevisref05size : List PT := [.one (.int .u64)]
abbrev qs_clevisref05size : List PT := [.one (.int .i64)]
noncomputable def N_clevisref05size   : FT ps_clevisref05size qs_clevisref05size := fun R x k => match x with
  | x0 => 
      br (W.gt x0 65) (k 65) (k (W.wrap IntKind.i64 x0))
theorem S_clevisref05size   : SpecOk Try.prog 34 (mkS ps_clevisref05size qs_clevisref05size (N_clevisref05size )) :=
  specOk_mk (fl := 10) (d := 12) base (by intro R x0 k; kernel_rfl)
noncomputable def F_clevisref05size : FT ps_clevisref05size qs_clevisref05size := N_clevisref05size  
theorem ok_clevisref05size : SpecOk Try.prog 34 (mkS ps_clevisref05size qs_clevisref05size F_clevisref05size) := S_clevisref05size 
abbrev ps_clevisref05Spans : List PT := [.one (.int .i64), .one (.slice (.int .u64))]
abbrev qs_clevisref05Spans : List PT := [.agg ((.prod (.int .u64) (.int .i64))), .agg ((.prod (.int .u64) (.int .i64))), .one (.bool)]
noncomputable def N_clevisref05Spans (F_clevisref05Table : FT ps_clevisref05Table qs_clevisref05Table) (F_clevisref05size : FT ps_clevisref05size qs_clevisref05size)  : FT ps_clevisref05Spans qs_clevisref05Spans := fun R x k => match x with
  | (x0, x1) => 
      F_clevisref05Table R x0 fun y =>
        br (W.pick (W.not y.2) true (W.lt (W.ofNat (W.len x1)) (W.ofNat (W.len y.1.2.1)))) (k ((0, 0), (0, 0), false))
          (br (W.eq x0 3)
            (br (W.and2 true (W.lt 0 (W.ofNat (W.len x1)))) (br (W.and2 true (W.lt 1 (W.ofNat (W.len x1)))) (F_clevisref05size R (W.get x1 1 0) fun y => k ((W.get x1 0 0, y), (0, 0), true)) none) none)
            (br (W.eq x0 4)
              (br (W.and2 true (W.lt 0 (W.ofNat (W.len x1)))) (br (W.and2 true (W.lt 1 (W.ofNat (W.len x1)))) (F_clevisref05size R (W.get x1 1 0) fun y => k ((0, 0), (W.get x1 0 0, y), true)) none) none)
              (k ((0, 0), (0, 0), true))))
theorem S_clevisref05Spans {F_clevisref05Table : FT ps_clevisref05Table qs_clevisref05Table} {F_clevisref05size : FT ps_clevisref05size qs_clevisref05size} (h_clevisref05Table : SpecOk Try.prog 12 (mkS ps_clevisref05Table qs_clevisref05Table F_clevisref05Table)) (h_clevisref05size : SpecOk Try.prog 34 (mkS ps_clevisref05size qs_clevisref05size F_clevisref05size)) : SpecOk Try.prog 14 (mkS ps_clevisref05Spans qs_clevisref05Spans (N_clevisref05Spans F_clevisref05Table F_clevisref05size)) :=
  specOk_mk (fl := 10) (d := 12) (cfgOk_cons (cfgOk_cons base h_clevisref05size) h_clevisref05Table) (by rintro R ⟨x0, x1⟩ k; kernel_rfl)
noncomputable def F_clevisref05Spans : FT ps_clevisref05Spans qs_clevisref05Spans := N_clevisref05Spans F_clevisref05Table F_clevisref05size 
theorem ok_clevisref05Spans : SpecOk Try.prog 14 (mkS ps_clevisref05Spans qs_clevisref05Spans F_clevisref05Spans) := S_clevisref05Spans ok_clevisref05Table ok_clevisref05size
abbrev ps_clevisref05Kinds : List PT := [.one (.slice (.int .i64)), .one (.slice (.int .i64))]
abbrev qs_clevisref05Kinds : List PT := [.one (.bool)]
noncomputable def PL_clevisref05Kinds_4_0  (fl : Nat)  (R : Type) (k : PTs.D qs_clevisref05Kinds → Option R) : LoopI R :=
  locate (Cw Try.prog [] hintsF) fl (call (Cw Try.prog [] hintsF) fl 11) 0 15 4 [] (getR qs_clevisref05Kinds k)
noncomputable def P_clevisref05Kinds_4_0  (fl : Nat)  (n : Nat) (R : Type) (y0 : List Int) (y1 : List Int) (y2 : Int) (k : PTs.D qs_clevisref05Kinds → Option R) : Option R :=
  loopH (PL_clevisref05Kinds_4_0  fl  R k).body (PL_clevisref05Kinds_4_0  fl  R k).head n (some (
      S.mk
        [V.ro true (Ty.int IntKind.i64) y0, V.ro true (Ty.int IntKind.i64) y1, V.any, V.any, V.any, V.int IntKind.i64 y2, V.any, V.any, V.any, V.any, V.any, V.any, V.any, V.any, V.any, V.any, V.any, V.any,
          V.any, V.any, V.any, V.any, V.any, V.any, V.any, V.any]
        [] [])) (PL_clevisref05Kinds_4_0  fl  R k).kont
theorem P_clevisref05Kinds_4_0_s  (fl : Nat)  (n : Nat) (R : Type) (y0 : List Int) (y1 : List Int) (y2 : Int) (k : PTs.D qs_clevisref05Kinds → Option R) : P_clevisref05Kinds_4_0  fl  (n + 1) R y0 y1 y2 k =
      br (W.lt y2 (W.ofNat (W.len y0)))
        (br (W.and2 (W.le 0 y2) (W.lt y2 (W.ofNat (W.len y0))))
          (br (W.and2 (W.le 0 y2) (W.lt y2 (W.ofNat (W.len y1)))) (br (W.ne (W.get y0 (W.toNat y2) 0) (W.get y1 (W.toNat y2) 0)) (k false) (P_clevisref05Kinds_4_0 fl n R y0 y1 (W.wrap IntKind.i64 (W.add y2 1)) k)) none)
          none)
        (k true) := by kernel_rfl
noncomputable def N_clevisref05Kinds  (fl : Nat) : FT ps_clevisref05Kinds qs_clevisref05Kinds := fun R x k => match x with
  | (x0, x1) => 
      br (W.ne (W.ofNat (W.len x0)) (W.ofNat (W.len x1))) (k false) (P_clevisref05Kinds_4_0 fl fl R x0 x1 0 k)
theorem Q_clevisref05Kinds  (fl : Nat) (R : Type) (x : PTs.D ps_clevisref05Kinds) (k : PTs.D qs_clevisref05Kinds → Option R) : call (Cw Try.prog [] hintsF) fl 12 15 (encL true ps_clevisref05Kinds x) [] (getR qs_clevisref05Kinds k) = N_clevisref05Kinds  fl R x k := by
  obtain ⟨x0, x1⟩ := x; kernel_rfl
theorem S_clevisref05Kinds   : SpecOk Try.prog 15 (mkS ps_clevisref05Kinds qs_clevisref05Kinds (N_clevisref05Kinds  W.big)) :=
  specOk_mk (fl := W.big) (d := 12) base (fun R x k => Q_clevisref05Kinds W.big R x k)
noncomputable def F_clevisref05Kinds : FT ps_clevisref05Kinds qs_clevisref05Kinds := N_clevisref05Kinds  W.big
theorem ok_clevisref05Kinds : SpecOk Try.prog 15 (mkS ps_clevisref05Kinds qs_clevisref05Kinds F_clevisref05Kinds) := S_clevisref05Kinds 
abbrev ps_clevislaw05HelperTable : List PT := [.one (.int .i64), .one (.slice (.int .u64))]
noncomputable def L_clevislaw05HelperTable (F_helper_Table : FT ps_helper_Table qs_helper_Table) (F_helper_Spans : FT ps_helper_Spans qs_helper_Spans) (F_clevislaw05heads : FT ps_clevislaw05heads qs_clevislaw05heads) (F_clevisref05Table : FT ps_clevisref05Table qs_clevisref05Table) (F_clevisref05Spans : FT ps_clevisref05Spans qs_clevisref05Spans) (F_clevisref05Kinds : FT ps_clevisref05Kinds qs_clevisref05Kinds)  (x : PTs.D ps_clevislaw05HelperTable) : Option Unit := match x with
  | (x0, x1) => 
      F_helper_Table Unit x0 fun y =>
        F_clevisref05Table Unit x0 fun y_1 =>
          F_helper_Spans Unit (x0, x1) fun y_2 =>
            F_clevisref05Spans Unit (x0, x1) fun y_3 =>
              br (W.eqS y.1.1 y_1.1.1)
                (F_clevisref05Kinds Unit (y.1.2.1, y_1.1.2.1) fun y_4 =>
                  br
                    (W.pick
                      (W.pick
                        (W.pick (W.pick (W.pick (W.pick true y_4 false) (W.eq y.1.2.2 y_1.1.2.2) false) (W.eqB y.2 y_1.2) false) (W.and2 (W.eq y_2.1.1 y_3.1.1) (W.and2 (W.eq y_2.1.2 y_3.1.2) true)) false)
                        (W.and2 (W.eq y_2.2.1.1 y_3.2.1.1) (W.and2 (W.eq y_2.2.1.2 y_3.2.1.2) true)) false)
                      (W.eqB y_2.2.2 y_3.2.2) false)
                    (F_clevislaw05heads Unit () fun y => br (W.pick true y false) (some ()) none) none)
                none
theorem E_clevislaw05HelperTable {F_helper_Table : FT ps_helper_Table qs_helper_Table} {F_helper_Spans : FT ps_helper_Spans qs_helper_Spans} {F_clevislaw05heads : FT ps_clevislaw05heads qs_clevislaw05heads} {F_clevisref05Table : FT ps_clevisref05Table qs_clevisref05Table} {F_clevisref05Spans : FT ps_clevisref05Spans qs_clevisref05Spans} {F_clevisref05Kinds : FT ps_clevisref05Kinds qs_clevisref05Kinds} (h_helper_Table : SpecOk Try.prog 11 (mkS ps_helper_Table qs_helper_Table F_helper_Table)) (h_helper_Spans : SpecOk Try.prog 13 (mkS ps_helper_Spans qs_helper_Spans F_helper_Spans)) (h_clevislaw05heads : SpecOk Try.prog 10 (mkS ps_clevislaw05heads qs_clevislaw05heads F_clevislaw05heads)) (h_clevisref05Table : SpecOk Try.prog 12 (mkS ps_clevisref05Table qs_clevisref05Table F_clevisref05Table)) (h_clevisref05Spans : SpecOk Try.prog 14 (mkS ps_clevisref05Spans qs_clevisref05Spans F_clevisref05Spans)) (h_clevisref05Kinds : SpecOk Try.prog 15 (mkS ps_clevisref05Kinds qs_clevisref05Kinds F_clevisref05Kinds)) (x : PTs.D ps_clevislaw05HelperTable) (hL : L_clevislaw05HelperTable F_helper_Table F_helper_Spans F_clevislaw05heads F_clevisref05Table F_clevisref05Spans F_clevisref05Kinds x = some ()) :
    ∃ (C : Cfg) (fl d : Nat), CfgOk C ∧ C.P = Try.prog ∧ call C fl d 4 (encL false ps_clevislaw05HelperTable x) [] getL = some () :=
  ⟨_, 10, 12, (cfgOk_cons (cfgOk_cons (cfgOk_cons (cfgOk_cons (cfgOk_cons (cfgOk_cons base h_clevisref05Kinds) h_clevisref05Spans) h_clevisref05Table) h_clevislaw05heads) h_helper_Spans) h_helper_Table), rfl, (show _ = L_clevislaw05HelperTable F_helper_Table F_helper_Spans F_clevislaw05heads F_clevisref05Table F_clevisref05Spans F_clevisref05Kinds x by obtain ⟨x0, x1⟩ := x; kernel_rfl).trans hL⟩
abbrev ps_clevisref02Copy : List PT := [.one (.slice (.slice (.int .u8)))]
abbrev qs_clevisref02Copy : List PT := [.owns (.int .u8)]
noncomputable def PL_clevisref02Copy_3_0  (fl : Nat)  (R : Type) (k : PTs.D qs_clevisref02Copy → Option R) : LoopI R :=
  locate (Cw Try.prog [] hintsF) fl (call (Cw Try.prog [] hintsF) fl 11) 0 16 3 [] (getR qs_clevisref02Copy k)
noncomputable def P_clevisref02Copy_3_0  (fl : Nat)  (n : Nat) (R : Type) (y0 : List (List Int)) (y1 : Nat) (y2 : Int) (y3 : List (List Int)) (k : PTs.D qs_clevisref02Copy → Option R) : Option R :=
  loopH (PL_clevisref02Copy_3_0  fl  R k).body (PL_clevisref02Copy_3_0  fl  R k).head n (some (
      S.mk
        [V.ro true (Ty.slice (Ty.int IntKind.u8)) y0, V.any, V.any, V.sl 0 1 y1, V.int IntKind.i64 y2, V.any, V.any, V.any, V.any, V.any, V.any, V.any, V.any, V.any, V.any, V.any, V.any, V.any, V.any,
          V.any, V.any]
        [] [Blk.rows (Ty.int IntKind.u8) y3])) (PL_clevisref02Copy_3_0  fl  R k).kont
theorem P_clevisref02Copy_3_0_s  (fl : Nat)  (n : Nat) (R : Type) (y0 : List (List Int)) (y1 : Nat) (y2 : Int) (y3 : List (List Int)) (k : PTs.D qs_clevisref02Copy → Option R) : P_clevisref02Copy_3_0  fl  (n + 1) R y0 y1 y2 y3 k =
      br (W.lt y2 (W.ofNat (W.len y0)))
        (br (W.and2 (W.le 0 y2) (W.lt y2 (W.ofNat (W.len y0))))
          (br (W.leN (W.mulN (W.len (W.get y0 (W.toNat y2) [])) 1) 140737488355328)
            (br (W.leN (W.mulN (W.addN y1 1) 24) 140737488355328) (P_clevisref02Copy_3_0 fl n R y0 (W.addN y1 1) (W.wrap IntKind.i64 (W.add y2 1)) (W.app y3 [W.get y0 (W.toNat y2) []]) k) none) none)
          none)
        (k y3) := by kernel_rfl
noncomputable def N_clevisref02Copy  (fl : Nat) : FT ps_clevisref02Copy qs_clevisref02Copy := fun R x k => match x with
  | x0 => 
      P_clevisref02Copy_3_0 fl fl R x0 0 0 [] k
theorem Q_clevisref02Copy  (fl : Nat) (R : Type) (x : PTs.D ps_clevisref02Copy) (k : PTs.D qs_clevisref02Copy → Option R) : call (Cw Try.prog [] hintsF) fl 12 16 (encL true ps_clevisref02Copy x) [] (getR qs_clevisref02Copy k) = N_clevisref02Copy  fl R x k := by
  kernel_rfl
theorem S_clevisref02Copy   : SpecOk Try.prog 16 (mkS ps_clevisref02Copy qs_clevisref02Copy (N_clevisref02Copy  W.big)) :=
  specOk_mk (fl := W.big) (d := 12) base (fun R x k => Q_clevisref02Copy W.big R x k)
noncomputable def F_clevisref02Copy : FT ps_clevisref02Copy qs_clevisref02Copy := N_clevisref02Copy  W.big
theorem ok_clevisref02Copy : SpecOk Try.prog 16 (mkS ps_clevisref02Copy qs_clevisref02Copy F_clevisref02Copy) := S_clevisref02Copy 
abbrev ps_clevisref02Split : List PT := [.one (.int .u64)]
abbrev qs_clevisref02Split : List PT := [.one (.int .i64), .one (.int .i64)]
noncomputable def N_clevisref02Split   : FT ps_clevisref02Split qs_clevisref02Split := fun R x k => match x with
  | x0 => 
      k (W.wrap IntKind.i64 (W.wrap IntKind.u64 (W.quo x0 4294967296)), W.wrap IntKind.i64 (W.rem x0 4294967296))
theorem S_clevisref02Split   : SpecOk Try.prog 41 (mkS ps_clevisref02Split qs_clevisref02Split (N_clevisref02Split )) :=
  specOk_mk (fl := 10) (d := 12) base (by intro R x0 k; kernel_rfl)
noncomputable def F_clevisref02Split : FT ps_clevisref02Split qs_clevisref02Split := N_clevisref02Split  
theorem ok_clevisref02Split : SpecOk Try.prog 41 (mkS ps_clevisref02Split qs_clevisref02Split F_clevisref02Split) := S_clevisref02Split 
abbrev ps_clevisref02Access : List PT := [.agg ((.prod ((.prod (.int .i64) (.bool))) (.slice ((.prod (.int .i64) (.bool)))))), .one (.int .u64), .one (.int .i64), .one (.bool)]
abbrev qs_clevisref02Access : List PT := [.one (.int .i64)]
noncomputable def N_clevisref02Access (F_clevisref02Area : FT ps_clevisref02Area qs_clevisref02Area) (F_clevisref02Split : FT ps_clevisref02Split qs_clevisref02Split)  : FT ps_clevisref02Access qs_clevisref02Access := fun R x k => match x with
  | (((x0Context_Size, x0Context_Write), x0Maps), x1, x2, x3) => 
      br (W.pick (W.lt x2 1) true (W.gt x2 4096)) (k 2)
        (F_clevisref02Split R x1 fun y =>
          F_clevisref02Area R (((x0Context_Size, x0Context_Write), x0Maps), y.1) fun y_1 =>
            br (W.pick (W.not y_1.2) true (W.gt y.2 (W.wrap IntKind.i64 (W.sub y_1.1.1 x2)))) (k 20) (br (W.pick x3 (W.not y_1.1.2) false) (k 21) (k 0)))
theorem S_clevisref02Access {F_clevisref02Area : FT ps_clevisref02Area qs_clevisref02Area} {F_clevisref02Split : FT ps_clevisref02Split qs_clevisref02Split} (h_clevisref02Area : SpecOk Try.prog 24 (mkS ps_clevisref02Area qs_clevisref02Area F_clevisref02Area)) (h_clevisref02Split : SpecOk Try.prog 41 (mkS ps_clevisref02Split qs_clevisref02Split F_clevisref02Split)) : SpecOk Try.prog 35 (mkS ps_clevisref02Access qs_clevisref02Access (N_clevisref02Access F_clevisref02Area F_clevisref02Split)) :=
  specOk_mk (fl := 10) (d := 12) (cfgOk_cons (cfgOk_cons base h_clevisref02Split) h_clevisref02Area) (by rintro R ⟨⟨⟨x0Context_Size, x0Context_Write⟩, x0Maps⟩, x1, x2, x3⟩ k; kernel_rfl)
noncomputable def F_clevisref02Access : FT ps_clevisref02Access qs_clevisref02Access := N_clevisref02Access F_clevisref02Area F_clevisref02Split 
theorem ok_clevisref02Access : SpecOk Try.prog 35 (mkS ps_clevisref02Access qs_clevisref02Access F_clevisref02Access) := S_clevisref02Access ok_clevisref02Area ok_clevisref02Split
abbrev ps_clevisref02May : List PT := [.agg ((.prod ((.prod (.int .i64) (.bool))) (.slice ((.prod (.int .i64) (.bool)))))), .one (.slice (.slice (.int .u8)))]
abbrev qs_clevisref02May : List PT := [.one (.bool)]
noncomputable def PL_clevisref02May_4_0 (F_clevisref02Check : FT ps_clevisref02Check qs_clevisref02Check) (F_clevisref02Area : FT ps_clevisref02Area qs_clevisref02Area) (fl : Nat)  (R : Type) (k : PTs.D qs_clevisref02May → Option R) : LoopI R :=
  locate (Cw Try.prog [(23, mkS ps_clevisref02Check qs_clevisref02Check F_clevisref02Check), (24, mkS ps_clevisref02Area qs_clevisref02Area F_clevisref02Area)] hintsF) fl (call (Cw Try.prog [(23, mkS ps_clevisref02Check qs_clevisref02Check F_clevisref02Check), (24, mkS ps_clevisref02Area qs_clevisref02Area F_clevisref02Area)] hintsF) fl 11) 0 36 4 [] (getR qs_clevisref02May k)
noncomputable def P_clevisref02May_4_0 (F_clevisref02Check : FT ps_clevisref02Check qs_clevisref02Check) (F_clevisref02Area : FT ps_clevisref02Area qs_clevisref02Area) (fl : Nat)  (n : Nat) (R : Type) (y0 : List (List Int)) (y1 : Int) (y2 : Int) (y3 : Bool) (y4 : List (Int × Bool)) (k : PTs.D qs_clevisref02May → Option R) : Option R :=
  loopH (PL_clevisref02May_4_0 F_clevisref02Check F_clevisref02Area fl  R k).body (PL_clevisref02May_4_0 F_clevisref02Check F_clevisref02Area fl  R k).head n (some (
      S.mk
        [V.any, V.ro true (Ty.slice (Ty.int IntKind.u8)) y0, V.ptr 0 0, V.any, V.any, V.int IntKind.i64 y1, V.any, V.any, V.any, V.any, V.any, V.any, V.any, V.any, V.any, V.any, V.any, V.any, V.any, V.any,
          V.any, V.any, V.any, V.any, V.any, V.any, V.any, V.any, V.any, V.any, V.any, V.any, V.any, V.any, V.any, V.any, V.any, V.any, V.any, V.any, V.any]
        [] [Blk.cells [V.int IntKind.i64 y2, V.bool y3, V.ro true (Ty.prod (Ty.int IntKind.i64) Ty.bool) y4]])) (PL_clevisref02May_4_0 F_clevisref02Check F_clevisref02Area fl  R k).kont
theorem P_clevisref02May_4_0_s {F_clevisref02Check : FT ps_clevisref02Check qs_clevisref02Check} {F_clevisref02Area : FT ps_clevisref02Area qs_clevisref02Area} (fl : Nat)  (n : Nat) (R : Type) (y0 : List (List Int)) (y1 : Int) (y2 : Int) (y3 : Bool) (y4 : List (Int × Bool)) (k : PTs.D qs_clevisref02May → Option R) : P_clevisref02May_4_0 F_clevisref02Check F_clevisref02Area fl  (n + 1) R y0 y1 y2 y3 y4 k =
      br (W.lt y1 (W.ofNat (W.len y0)))
        (F_clevisref02Area R (((y2, y3), y4), W.wrap IntKind.i64 (W.add y1 1)) fun y =>
          br (W.and2 (W.le 0 y1) (W.lt y1 (W.ofNat (W.len y0))))
            (br (W.ne (W.ofNat (W.len (W.get y0 (W.toNat y1) []))) y.1.1) (k false) (P_clevisref02May_4_0 F_clevisref02Check F_clevisref02Area fl n R y0 (W.wrap IntKind.i64 (W.add y1 1)) y2 y3 y4 k)) none)
        (k true) := by kernel_rfl
noncomputable def N_clevisref02May (F_clevisref02Check : FT ps_clevisref02Check qs_clevisref02Check) (F_clevisref02Area : FT ps_clevisref02Area qs_clevisref02Area) (fl : Nat) : FT ps_clevisref02May qs_clevisref02May := fun R x k => match x with
  | (((x0Context_Size, x0Context_Write), x0Maps), x1) => 
      F_clevisref02Check R ((x0Context_Size, x0Context_Write), x0Maps) fun y =>
        br (W.pick (W.ne y 0) true (W.ne (W.ofNat (W.len x1)) (W.wrap IntKind.i64 (W.add 2 (W.ofNat (W.len x0Maps)))))) (k false)
          (P_clevisref02May_4_0 F_clevisref02Check F_clevisref02Area fl fl R x1 0 x0Context_Size x0Context_Write x0Maps k)
theorem Q_clevisref02May {F_clevisref02Check : FT ps_clevisref02Check qs_clevisref02Check} {F_clevisref02Area : FT ps_clevisref02Area qs_clevisref02Area} (fl : Nat) (R : Type) (x : PTs.D ps_clevisref02May) (k : PTs.D qs_clevisref02May → Option R) : call (Cw Try.prog [(23, mkS ps_clevisref02Check qs_clevisref02Check F_clevisref02Check), (24, mkS ps_clevisref02Area qs_clevisref02Area F_clevisref02Area)] hintsF) fl 12 36 (encL true ps_clevisref02May x) [] (getR qs_clevisref02May k) = N_clevisref02May F_clevisref02Check F_clevisref02Area fl R x k := by
  obtain ⟨⟨⟨x0Context_Size, x0Context_Write⟩, x0Maps⟩, x1⟩ := x; kernel_rfl
theorem S_clevisref02May {F_clevisref02Check : FT ps_clevisref02Check qs_clevisref02Check} {F_clevisref02Area : FT ps_clevisref02Area qs_clevisref02Area} (h_clevisref02Check : SpecOk Try.prog 23 (mkS ps_clevisref02Check qs_clevisref02Check F_clevisref02Check)) (h_clevisref02Area : SpecOk Try.prog 24 (mkS ps_clevisref02Area qs_clevisref02Area F_clevisref02Area)) : SpecOk Try.prog 36 (mkS ps_clevisref02May qs_clevisref02May (N_clevisref02May F_clevisref02Check F_clevisref02Area W.big)) :=
  specOk_mk (fl := W.big) (d := 12) (cfgOk_cons (cfgOk_cons base h_clevisref02Area) h_clevisref02Check) (fun R x k => Q_clevisref02May W.big R x k)
noncomputable def F_clevisref02May : FT ps_clevisref02May qs_clevisref02May := N_clevisref02May F_clevisref02Check F_clevisref02Area W.big
theorem ok_clevisref02May : SpecOk Try.prog 36 (mkS ps_clevisref02May qs_clevisref02May F_clevisref02May) := S_clevisref02May ok_clevisref02Check ok_clevisref02Area
abbrev ps_clevisref02asked : List PT := [.agg ((.prod ((.prod (.int .i64) (.bool))) (.slice ((.prod (.int .i64) (.bool)))))), .one (.slice (.slice (.int .u8))), .one (.int .u64), .one (.int .i64), .one (.bool)]
abbrev qs_clevisref02asked : List PT := [.one (.int .i64)]
noncomputable def N_clevisref02asked (F_clevisref02Access : FT ps_clevisref02Access qs_clevisref02Access) (F_clevisref02May : FT ps_clevisref02May qs_clevisref02May)  : FT ps_clevisref02asked qs_clevisref02asked := fun R x k => match x with
  | (((x0Context_Size, x0Context_Write), x0Maps), x1, x2, x3, x4) => 
      F_clevisref02May R (((x0Context_Size, x0Context_Write), x0Maps), x1) fun y => br (W.not y) (k 2) (F_clevisref02Access R (((x0Context_Size, x0Context_Write), x0Maps), x2, x3, x4) fun y => k y)
theorem S_clevisref02asked {F_clevisref02Access : FT ps_clevisref02Access qs_clevisref02Access} {F_clevisref02May : FT ps_clevisref02May qs_clevisref02May} (h_clevisref02Access : SpecOk Try.prog 35 (mkS ps_clevisref02Access qs_clevisref02Access F_clevisref02Access)) (h_clevisref02May : SpecOk Try.prog 36 (mkS ps_clevisref02May qs_clevisref02May F_clevisref02May)) : SpecOk Try.prog 40 (mkS ps_clevisref02asked qs_clevisref02asked (N_clevisref02asked F_clevisref02Access F_clevisref02May)) :=
  specOk_mk (fl := 10) (d := 12) (cfgOk_cons (cfgOk_cons base h_clevisref02May) h_clevisref02Access) (by rintro R ⟨⟨⟨x0Context_Size, x0Context_Write⟩, x0Maps⟩, x1, x2, x3, x4⟩ k; kernel_rfl)
noncomputable def F_clevisref02asked : FT ps_clevisref02asked qs_clevisref02asked := N_clevisref02asked F_clevisref02Access F_clevisref02May 
theorem ok_clevisref02asked : SpecOk Try.prog 40 (mkS ps_clevisref02asked qs_clevisref02asked F_clevisref02asked) := S_clevisref02asked ok_clevisref02Access ok_clevisref02May
abbrev ps_clevisref02Bytes : List PT := [.agg ((.prod ((.prod (.int .i64) (.bool))) (.slice ((.prod (.int .i64) (.bool)))))), .one (.slice (.slice (.int .u8))), .one (.int .u64), .one (.int .i64)]
abbrev qs_clevisref02Bytes : List PT := [.one (.slice (.int .u8)), .one (.int .i64)]
noncomputable def N_clevisref02Bytes (F_clevisref02Split : FT ps_clevisref02Split qs_clevisref02Split) (F_clevisref02asked : FT ps_clevisref02asked qs_clevisref02asked)  : FT ps_clevisref02Bytes qs_clevisref02Bytes := fun R x k => match x with
  | (((x0Context_Size, x0Context_Write), x0Maps), x1, x2, x3) => 
      F_clevisref02asked R (((x0Context_Size, x0Context_Write), x0Maps), x1, x2, x3, false) fun y =>
        br (W.ne y 0) (k ([], y))
          (F_clevisref02Split R x2 fun y =>
            br (W.and2 (W.le 0 (W.wrap IntKind.i64 (W.sub y.1 1))) (W.lt (W.wrap IntKind.i64 (W.sub y.1 1)) (W.ofNat (W.len x1))))
              (br
                (W.and2 (W.le 0 y.2)
                  (W.and2 (W.le y.2 (W.wrap IntKind.i64 (W.add y.2 x3))) (W.le (W.wrap IntKind.i64 (W.add y.2 x3)) (W.ofNat (W.len (W.get x1 (W.toNat (W.wrap IntKind.i64 (W.sub y.1 1))) []))))))
                (br
                  (W.leN (W.mulN (W.len (W.slice (W.get x1 (W.toNat (W.wrap IntKind.i64 (W.sub y.1 1))) []) (W.toNat y.2) (W.subN (W.toNat (W.wrap IntKind.i64 (W.add y.2 x3))) (W.toNat y.2)))) 1)
                    140737488355328)
                  (k (W.slice (W.get x1 (W.toNat (W.wrap IntKind.i64 (W.sub y.1 1))) []) (W.toNat y.2) (W.subN (W.toNat (W.wrap IntKind.i64 (W.add y.2 x3))) (W.toNat y.2)), 0)) none)
                none)
              none)
theorem S_clevisref02Bytes {F_clevisref02Split : FT ps_clevisref02Split qs_clevisref02Split} {F_clevisref02asked : FT ps_clevisref02asked qs_clevisref02asked} (h_clevisref02Split : SpecOk Try.prog 41 (mkS ps_clevisref02Split qs_clevisref02Split F_clevisref02Split)) (h_clevisref02asked : SpecOk Try.prog 40 (mkS ps_clevisref02asked qs_clevisref02asked F_clevisref02asked)) : SpecOk Try.prog 21 (mkS ps_clevisref02Bytes qs_clevisref02Bytes (N_clevisref02Bytes F_clevisref02Split F_clevisref02asked)) :=
  specOk_mk (fl := 10) (d := 12) (cfgOk_cons (cfgOk_cons base h_clevisref02asked) h_clevisref02Split) (by rintro R ⟨⟨⟨x0Context_Size, x0Context_Write⟩, x0Maps⟩, x1, x2, x3⟩ k; kernel_rfl)
noncomputable def F_clevisref02Bytes : FT ps_clevisref02Bytes qs_clevisref02Bytes := N_clevisref02Bytes F_clevisref02Split F_clevisref02asked 
theorem ok_clevisref02Bytes : SpecOk Try.prog 21 (mkS ps_clevisref02Bytes qs_clevisref02Bytes F_clevisref02Bytes) := S_clevisref02Bytes ok_clevisref02Split ok_clevisref02asked
abbrev ps_clevisref02Fill : List PT := [.agg ((.prod ((.prod (.int .i64) (.bool))) (.slice ((.prod (.int .i64) (.bool)))))), .one (.slice (.slice (.int .u8))), .one (.int .u64), .one (.slice (.int .u8))]
abbrev qs_clevisref02Fill : List PT := [.one (.slice (.slice (.int .u8))), .one (.int .i64)]
noncomputable def PL_clevisref02Fill_7_0 (F_clevisref02Copy : FT ps_clevisref02Copy qs_clevisref02Copy) (F_clevisref02Split : FT ps_clevisref02Split qs_clevisref02Split) (F_clevisref02asked : FT ps_clevisref02asked qs_clevisref02asked) (fl : Nat)  (R : Type) (k : PTs.D qs_clevisref02Fill → Option R) : LoopI R :=
  locate (Cw Try.prog [(16, mkS ps_clevisref02Copy qs_clevisref02Copy F_clevisref02Copy), (41, mkS ps_clevisref02Split qs_clevisref02Split F_clevisref02Split), (40, mkS ps_clevisref02asked qs_clevisref02asked F_clevisref02asked)] hintsF) fl (call (Cw Try.prog [(16, mkS ps_clevisref02Copy qs_clevisref02Copy F_clevisref02Copy), (41, mkS ps_clevisref02Split qs_clevisref02Split F_clevisref02Split), (40, mkS ps_clevisref02asked qs_clevisref02asked F_clevisref02asked)] hintsF) fl 11) 0 37 7 [] (getR qs_clevisref02Fill k)
noncomputable def P_clevisref02Fill_7_0 (F_clevisref02Copy : FT ps_clevisref02Copy qs_clevisref02Copy) (F_clevisref02Split : FT ps_clevisref02Split qs_clevisref02Split) (F_clevisref02asked : FT ps_clevisref02asked qs_clevisref02asked) (fl : Nat)  (n : Nat) (R : Type) (y0 : List Int) (y1 : Int) (y2 : Int) (y3 : Nat) (y4 : Int) (y5 : List (List Int)) (k : PTs.D qs_clevisref02Fill → Option R) : Option R :=
  loopH (PL_clevisref02Fill_7_0 F_clevisref02Copy F_clevisref02Split F_clevisref02asked fl  R k).body (PL_clevisref02Fill_7_0 F_clevisref02Copy F_clevisref02Split F_clevisref02asked fl  R k).head n (some (
      S.mk
        [V.any, V.any, V.any, V.ro true (Ty.int IntKind.u8) y0, V.any, V.any, V.any, V.any, V.any, V.any, V.any, V.int IntKind.i64 y1, V.int IntKind.i64 y2, V.sl 0 1 y3, V.int IntKind.i64 y4, V.any, V.any,
          V.any, V.any, V.any, V.any, V.any, V.any, V.any, V.any, V.any, V.any, V.any, V.any, V.any, V.any, V.any, V.any, V.any, V.any, V.any, V.any, V.any, V.any, V.any, V.any, V.any, V.any, V.any, V.any,
          V.any, V.any, V.any, V.any, V.any, V.any]
        [] [Blk.rows (Ty.int IntKind.u8) y5])) (PL_clevisref02Fill_7_0 F_clevisref02Copy F_clevisref02Split F_clevisref02asked fl  R k).kont
theorem P_clevisref02Fill_7_0_s {F_clevisref02Copy : FT ps_clevisref02Copy qs_clevisref02Copy} {F_clevisref02Split : FT ps_clevisref02Split qs_clevisref02Split} {F_clevisref02asked : FT ps_clevisref02asked qs_clevisref02asked} (fl : Nat)  (n : Nat) (R : Type) (y0 : List Int) (y1 : Int) (y2 : Int) (y3 : Nat) (y4 : Int) (y5 : List (List Int)) (k : PTs.D qs_clevisref02Fill → Option R) : P_clevisref02Fill_7_0 F_clevisref02Copy F_clevisref02Split F_clevisref02asked fl  (n + 1) R y0 y1 y2 y3 y4 y5 k =
      br (W.lt y4 (W.ofNat (W.len y0)))
        (br (W.and2 (W.le 0 (W.wrap IntKind.i64 (W.sub y1 1))) (W.lt (W.wrap IntKind.i64 (W.sub y1 1)) (W.ofNat y3)))
          (br (W.and2 (W.le 0 y4) (W.lt y4 (W.ofNat (W.len y0))))
            (br (W.and2 (W.le 0 (W.wrap IntKind.i64 (W.add y2 y4))) (W.lt (W.wrap IntKind.i64 (W.add y2 y4)) (W.ofNat (W.len (W.get y5 (W.toNat (W.wrap IntKind.i64 (W.sub y1 1))) [])))))
              (P_clevisref02Fill_7_0 F_clevisref02Copy F_clevisref02Split F_clevisref02asked fl n R y0 y1 y2 y3 (W.wrap IntKind.i64 (W.add y4 1))
                (W.set y5 (W.toNat (W.wrap IntKind.i64 (W.sub y1 1)))
                  (W.set (W.get y5 (W.toNat (W.wrap IntKind.i64 (W.sub y1 1))) []) (W.addN 0 (W.toNat (W.wrap IntKind.i64 (W.add y2 y4)))) (W.get y0 (W.toNat y4) 0)))
                k)
              none)
            none)
          none)
        (k (y5, 0)) := by kernel_rfl
noncomputable def N_clevisref02Fill (F_clevisref02Copy : FT ps_clevisref02Copy qs_clevisref02Copy) (F_clevisref02Split : FT ps_clevisref02Split qs_clevisref02Split) (F_clevisref02asked : FT ps_clevisref02asked qs_clevisref02asked) (fl : Nat) : FT ps_clevisref02Fill qs_clevisref02Fill := fun R x k => match x with
  | (((x0Context_Size, x0Context_Write), x0Maps), x1, x2, x3) => 
      F_clevisref02asked R (((x0Context_Size, x0Context_Write), x0Maps), x1, x2, W.ofNat (W.len x3), true) fun y =>
        br (W.ne y 0) (k ([], y))
          (F_clevisref02Split R x2 fun y => F_clevisref02Copy R x1 fun y_1 => P_clevisref02Fill_7_0 F_clevisref02Copy F_clevisref02Split F_clevisref02asked fl fl R x3 y.1 y.2 (W.len y_1) 0 y_1 k)
theorem Q_clevisref02Fill {F_clevisref02Copy : FT ps_clevisref02Copy qs_clevisref02Copy} {F_clevisref02Split : FT ps_clevisref02Split qs_clevisref02Split} {F_clevisref02asked : FT ps_clevisref02asked qs_clevisref02asked} (fl : Nat) (R : Type) (x : PTs.D ps_clevisref02Fill) (k : PTs.D qs_clevisref02Fill → Option R) : call (Cw Try.prog [(16, mkS ps_clevisref02Copy qs_clevisref02Copy F_clevisref02Copy), (41, mkS ps_clevisref02Split qs_clevisref02Split F_clevisref02Split), (40, mkS ps_clevisref02asked qs_clevisref02asked F_clevisref02asked)] hintsF) fl 12 37 (encL true ps_clevisref02Fill x) [] (getR qs_clevisref02Fill k) = N_clevisref02Fill F_clevisref02Copy F_clevisref02Split F_clevisref02asked fl R x k := by
  obtain ⟨⟨⟨x0Context_Size, x0Context_Write⟩, x0Maps⟩, x1, x2, x3⟩ := x; kernel_rfl
theorem S_clevisref02Fill {F_clevisref02Copy : FT ps_clevisref02Copy qs_clevisref02Copy} {F_clevisref02Split : FT ps_clevisref02Split qs_clevisref02Split} {F_clevisref02asked : FT ps_clevisref02asked qs_clevisref02asked} (h_clevisref02Copy : SpecOk Try.prog 16 (mkS ps_clevisref02Copy qs_clevisref02Copy F_clevisref02Copy)) (h_clevisref02Split : SpecOk Try.prog 41 (mkS ps_clevisref02Split qs_clevisref02Split F_clevisref02Split)) (h_clevisref02asked : SpecOk Try.prog 40 (mkS ps_clevisref02asked qs_clevisref02asked F_clevisref02asked)) : SpecOk Try.prog 37 (mkS ps_clevisref02Fill qs_clevisref02Fill (N_clevisref02Fill F_clevisref02Copy F_clevisref02Split F_clevisref02asked W.big)) :=
  specOk_mk (fl := W.big) (d := 12) (cfgOk_cons (cfgOk_cons (cfgOk_cons base h_clevisref02asked) h_clevisref02Split) h_clevisref02Copy) (fun R x k => Q_clevisref02Fill W.big R x k)
noncomputable def F_clevisref02Fill : FT ps_clevisref02Fill qs_clevisref02Fill := N_clevisref02Fill F_clevisref02Copy F_clevisref02Split F_clevisref02asked W.big
theorem ok_clevisref02Fill : SpecOk Try.prog 37 (mkS ps_clevisref02Fill qs_clevisref02Fill F_clevisref02Fill) := S_clevisref02Fill ok_clevisref02Copy ok_clevisref02Split ok_clevisref02asked
abbrev ps_clevisref05Do : List PT := [.agg ((.prod ((.prod (.int .i64) (.bool))) (.slice ((.prod (.int .i64) (.bool)))))), .one (.slice (.slice (.int .u8))), .one (.int .i64), .one (.slice (.int .u64)), .one (.slice (.int .u64))]
abbrev qs_clevisref05Do : List PT := [.one (.int .u64), .one (.slice (.slice (.int .u8))), .agg ((.prod (.int .i64) (.prod (.slice (.int .u64)) (.slice (.int .u8))))), .one (.int .i64)]
noncomputable def PL_clevisref05Do_23_0 (F_clevisref05Table : FT ps_clevisref05Table qs_clevisref05Table) (F_clevisref05Spans : FT ps_clevisref05Spans qs_clevisref05Spans) (F_clevisref02Copy : FT ps_clevisref02Copy qs_clevisref02Copy) (F_clevisref02Access : FT ps_clevisref02Access qs_clevisref02Access) (F_clevisref02May : FT ps_clevisref02May qs_clevisref02May) (F_clevisref02Bytes : FT ps_clevisref02Bytes qs_clevisref02Bytes) (F_clevisref02Fill : FT ps_clevisref02Fill qs_clevisref02Fill) (fl : Nat)  (R : Type) (k : PTs.D qs_clevisref05Do → Option R) : LoopI R :=
  locate (Cw Try.prog [(12, mkS ps_clevisref05Table qs_clevisref05Table F_clevisref05Table), (14, mkS ps_clevisref05Spans qs_clevisref05Spans F_clevisref05Spans), (16, mkS ps_clevisref02Copy qs_clevisref02Copy F_clevisref02Copy), (35, mkS ps_clevisref02Access qs_clevisref02Access F_clevisref02Access), (36, mkS ps_clevisref02May qs_clevisref02May F_clevisref02May), (21, mkS ps_clevisref02Bytes qs_clevisref02Bytes F_clevisref02Bytes), (37, mkS ps_clevisref02Fill qs_clevisref02Fill F_clevisref02Fill)] hintsF) fl (call (Cw Try.prog [(12, mkS ps_clevisref05Table qs_clevisref05Table F_clevisref05Table), (14, mkS ps_clevisref05Spans qs_clevisref05Spans F_clevisref05Spans), (16, mkS ps_clevisref02Copy qs_clevisref02Copy F_clevisref02Copy), (35, mkS ps_clevisref02Access qs_clevisref02Access F_clevisref02Access), (36, mkS ps_clevisref02May qs_clevisref02May F_clevisref02May), (21, mkS ps_clevisref02Bytes qs_clevisref02Bytes F_clevisref02Bytes), (37, mkS ps_clevisref02Fill qs_clevisref02Fill F_clevisref02Fill)] hintsF) fl 11) 0 17 23 [] (getR qs_clevisref05Do k)
noncomputable def P_clevisref05Do_23_0 (F_clevisref05Table : FT ps_clevisref05Table qs_clevisref05Table) (F_clevisref05Spans : FT ps_clevisref05Spans qs_clevisref05Spans) (F_clevisref02Copy : FT ps_clevisref02Copy qs_clevisref02Copy) (F_clevisref02Access : FT ps_clevisref02Access qs_clevisref02Access) (F_clevisref02May : FT ps_clevisref02May qs_clevisref02May) (F_clevisref02Bytes : FT ps_clevisref02Bytes qs_clevisref02Bytes) (F_clevisref02Fill : FT ps_clevisref02Fill qs_clevisref02Fill) (fl : Nat)  (n : Nat) (R : Type) (y0 : List (List Int)) (y1 : Int) (y2 : Nat) (y3 : Int) (y4 : Int) (y5 : Bool) (y6 : List (Int × Bool)) (y7 : Int) (y8 : Int) (y9 : Int) (y10 : Int) (y11 : Nat) (y12 : List Int) (y13 : List Int) (k : PTs.D qs_clevisref05Do → Option R) : Option R :=
  loopH (PL_clevisref05Do_23_0 F_clevisref05Table F_clevisref05Spans F_clevisref02Copy F_clevisref02Access F_clevisref02May F_clevisref02Bytes F_clevisref02Fill fl  R k).body (PL_clevisref05Do_23_0 F_clevisref05Table F_clevisref05Spans F_clevisref02Copy F_clevisref02Access F_clevisref02May F_clevisref02Bytes F_clevisref02Fill fl  R k).head n (some (
      S.mk
        [V.any, V.ro true (Ty.slice (Ty.int IntKind.u8)) y0, V.any, V.any, V.any, V.ptr 0 0, V.any, V.any, V.any, V.any, V.any, V.any, V.ptr 1 0, V.any, V.any, V.ptr 2 0, V.any, V.int IntKind.u64 y1,
          V.ptr 3 0, V.any, V.any, V.any, V.sl 5 1 y2, V.int IntKind.i64 y3, V.any, V.any, V.any, V.any, V.any, V.any, V.any, V.any, V.any, V.any, V.any, V.any, V.any, V.any, V.any, V.any, V.any, V.any,
          V.any, V.any, V.any, V.any, V.any, V.any, V.any, V.any, V.any, V.any, V.any, V.any, V.any, V.any, V.any, V.any, V.any, V.any, V.any, V.any, V.any, V.any, V.any, V.any, V.any, V.any, V.any, V.any,
          V.any, V.any, V.any, V.any, V.any, V.any, V.any, V.any, V.any, V.any, V.any, V.any, V.any, V.any, V.any, V.any, V.any, V.any, V.any, V.any, V.any, V.any, V.any, V.any, V.any, V.any, V.any, V.any,
          V.any, V.any, V.any, V.any, V.any, V.any, V.any, V.any, V.any, V.any, V.any, V.any, V.any, V.any, V.any, V.any, V.any, V.any, V.any, V.any, V.any, V.any, V.any, V.any, V.any, V.any, V.any, V.any,
          V.any, V.any, V.any, V.any, V.any, V.any, V.any, V.any, V.any, V.any, V.any, V.any, V.any, V.any, V.any, V.any, V.any, V.any, V.any, V.any, V.any, V.any, V.any, V.any, V.any, V.any, V.any, V.any,
          V.any, V.any, V.any, V.any, V.any, V.any, V.any, V.any, V.any, V.any, V.any, V.any, V.any, V.any, V.any, V.any, V.any, V.any, V.any, V.any, V.any, V.any, V.any, V.any, V.any, V.any, V.any, V.any,
          V.any, V.any, V.any, V.any, V.any]
        []
        [Blk.cells [V.int IntKind.i64 y4, V.bool y5, V.ro true (Ty.prod (Ty.int IntKind.i64) Ty.bool) y6], Blk.cells [V.int IntKind.i64 y7, V.nsl, V.nsl],
          Blk.cells [V.int IntKind.u64 y8, V.int IntKind.i64 y9], Blk.cells [V.int IntKind.i64 y10, V.sl 4 1 y11, V.nsl], Blk.row (Ty.int IntKind.u64) y12, Blk.row (Ty.int IntKind.u8) y13])) (PL_clevisref05Do_23_0 F_clevisref05Table F_clevisref05Spans F_clevisref02Copy F_clevisref02Access F_clevisref02May F_clevisref02Bytes F_clevisref02Fill fl  R k).kont
theorem P_clevisref05Do_23_0_s {F_clevisref05Table : FT ps_clevisref05Table qs_clevisref05Table} {F_clevisref05Spans : FT ps_clevisref05Spans qs_clevisref05Spans} {F_clevisref02Copy : FT ps_clevisref02Copy qs_clevisref02Copy} {F_clevisref02Access : FT ps_clevisref02Access qs_clevisref02Access} {F_clevisref02May : FT ps_clevisref02May qs_clevisref02May} {F_clevisref02Bytes : FT ps_clevisref02Bytes qs_clevisref02Bytes} {F_clevisref02Fill : FT ps_clevisref02Fill qs_clevisref02Fill} (fl : Nat)  (n : Nat) (R : Type) (y0 : List (List Int)) (y1 : Int) (y2 : Nat) (y3 : Int) (y4 : Int) (y5 : Bool) (y6 : List (Int × Bool)) (y7 : Int) (y8 : Int) (y9 : Int) (y10 : Int) (y11 : Nat) (y12 : List Int) (y13 : List Int) (k : PTs.D qs_clevisref05Do → Option R) : P_clevisref05Do_23_0 F_clevisref05Table F_clevisref05Spans F_clevisref02Copy F_clevisref02Access F_clevisref02May F_clevisref02Bytes F_clevisref02Fill fl  (n + 1) R y0 y1 y2 y3 y4 y5 y6 y7 y8 y9 y10 y11 y12 y13 k =
      br (W.lt y3 y9)
        (br (W.leN (W.mulN (W.addN y2 1) 1) 140737488355328)
          (P_clevisref05Do_23_0 F_clevisref05Table F_clevisref05Spans F_clevisref02Copy F_clevisref02Access F_clevisref02May F_clevisref02Bytes F_clevisref02Fill fl n R y0 y1 (W.addN y2 1)
            (W.wrap IntKind.i64 (W.add y3 1)) y4 y5 y6 y7 y8 y9 y10 y11 y12 (W.app y13 [W.wrap IntKind.u8 (W.shr IntKind.u64 y1 (W.wrap IntKind.u64 (W.wrap IntKind.i64 (W.mul 8 (W.rem y3 8)))))]) k)
          none)
        (F_clevisref02Fill R (((y4, y5), y6), y0, y8, y13) fun y => k (y1, y.1, (y10, y12, []), 0)) := by kernel_rfl
noncomputable def N_clevisref05Do (F_clevisref05Table : FT ps_clevisref05Table qs_clevisref05Table) (F_clevisref05Spans : FT ps_clevisref05Spans qs_clevisref05Spans) (F_clevisref02Copy : FT ps_clevisref02Copy qs_clevisref02Copy) (F_clevisref02Access : FT ps_clevisref02Access qs_clevisref02Access) (F_clevisref02May : FT ps_clevisref02May qs_clevisref02May) (F_clevisref02Bytes : FT ps_clevisref02Bytes qs_clevisref02Bytes) (F_clevisref02Fill : FT ps_clevisref02Fill qs_clevisref02Fill) (fl : Nat) : FT ps_clevisref05Do qs_clevisref05Do := fun R x k => match x with
  | (((x0Context_Size, x0Context_Write), x0Maps), x1, x2, x3, x4) => 
      F_clevisref05Spans R (x2, x3) fun y =>
        br (W.or2 (W.not (W.and2 (W.not (W.not y.2.2)) (W.eq x2 3))) (W.and2 true (W.lt 1 (W.ofNat (W.len x3)))))
          (br (W.or2 (W.not (W.and2 (W.and2 (W.not (W.not y.2.2)) (W.eq x2 3)) (W.not (W.lt (W.get x3 1 0) 1)))) (W.and2 true (W.lt 1 (W.ofNat (W.len x3)))))
            (br
              (W.or2 (W.not (W.and2 (W.not (W.pick (W.not y.2.2) true (W.pick (W.eq x2 3) (W.pick (W.lt (W.get x3 1 0) 1) true (W.gt (W.get x3 1 0) 64)) false))) (W.eq x2 4)))
                (W.and2 true (W.lt 1 (W.ofNat (W.len x3)))))
              (br
                (W.or2
                  (W.not
                    (W.and2 (W.and2 (W.not (W.pick (W.not y.2.2) true (W.pick (W.eq x2 3) (W.pick (W.lt (W.get x3 1 0) 1) true (W.gt (W.get x3 1 0) 64)) false))) (W.eq x2 4))
                      (W.not (W.lt (W.get x3 1 0) 1))))
                  (W.and2 true (W.lt 1 (W.ofNat (W.len x3)))))
                (br
                  (W.pick (W.pick (W.not y.2.2) true (W.pick (W.eq x2 3) (W.pick (W.lt (W.get x3 1 0) 1) true (W.gt (W.get x3 1 0) 64)) false)) true
                    (W.pick (W.eq x2 4) (W.pick (W.lt (W.get x3 1 0) 1) true (W.gt (W.get x3 1 0) 64)) false))
                  (k (0, [], (0, [], []), 50))
                  (br (W.eq x2 3)
                    (F_clevisref02Access R (((x0Context_Size, x0Context_Write), x0Maps), y.1.1, y.1.2, false) fun y_1 =>
                      br (W.and2 (W.not (W.pick true (W.ne y_1 0) false)) (W.eq x2 4))
                        (F_clevisref02Access R (((x0Context_Size, x0Context_Write), x0Maps), y.2.1.1, y.2.1.2, true) fun y_2 =>
                          br (W.pick (W.pick true (W.ne y_1 0) false) true (W.pick (W.eq x2 4) (W.ne y_2 0) false)) (k (0, [], (0, [], []), 50))
                            (F_clevisref02May R (((x0Context_Size, x0Context_Write), x0Maps), x1) fun y_3 =>
                              br (W.not y_3) (k (0, [], (0, [], []), 2))
                                (br (W.gt (W.ofNat (W.len x4)) 0)
                                  (br (W.and2 true (W.lt 0 (W.ofNat (W.len x4))))
                                    (F_clevisref05Table R x2 fun y_4 =>
                                      br (W.and2 (W.le 0 (W.ofNat (W.len y_4.1.2.1))) (W.le (W.ofNat (W.len y_4.1.2.1)) (W.ofNat (W.len x3))))
                                        (br (W.leN (W.mulN (W.len (W.slice x3 0 (W.toNat (W.ofNat (W.len y_4.1.2.1))))) 8) 140737488355328)
                                          (F_clevisref02Copy R x1 fun y_5 =>
                                            br (W.eq x2 3)
                                              (br (W.and2 true (W.lt 0 (W.ofNat (W.len (W.slice x3 0 (W.toNat (W.ofNat (W.len y_4.1.2.1))))))))
                                                (F_clevisref02Bytes R (((x0Context_Size, x0Context_Write), x0Maps), x1, y.1.1, y.1.2) fun y =>
                                                  k (W.get x4 0 0, y_5, (x2, W.set (W.slice x3 0 (W.toNat (W.ofNat (W.len y_4.1.2.1)))) 0 0, y.1), 0))
                                                none)
                                              (br (W.eq x2 4)
                                                (br (W.and2 true (W.lt 0 (W.ofNat (W.len (W.slice x3 0 (W.toNat (W.ofNat (W.len y_4.1.2.1))))))))
                                                  (P_clevisref05Do_23_0 F_clevisref05Table F_clevisref05Spans F_clevisref02Copy F_clevisref02Access F_clevisref02May F_clevisref02Bytes F_clevisref02Fill fl fl R
                                                    x1 (W.get x4 0 0) 0 0 x0Context_Size x0Context_Write x0Maps 0 y.2.1.1 y.2.1.2 x2 (W.len (W.slice x3 0 (W.toNat (W.ofNat (W.len y_4.1.2.1)))))
                                                    (W.set (W.slice x3 0 (W.toNat (W.ofNat (W.len y_4.1.2.1)))) 0 0) [] k)
                                                  none)
                                                (br (W.eq x2 5)
                                                  (br (W.and2 true (W.lt 0 (W.ofNat (W.len x3))))
                                                    (br (W.and2 true (W.lt 1 (W.ofNat (W.len x3))))
                                                      (br (W.and2 true (W.lt 2 (W.ofNat (W.len x3))))
                                                        (k
                                                          (W.wrap IntKind.u64
                                                              (W.add
                                                                (W.wrap IntKind.u64
                                                                  (W.add (W.wrap IntKind.u64 (W.add (W.get x3 0 0) (W.wrap IntKind.u64 (W.mul (W.get x3 1 0) 3))))
                                                                    (W.wrap IntKind.u64 (W.mul (W.get x3 2 0) 5))))
                                                                (W.get x4 0 0)),
                                                            y_5, (x2, W.slice x3 0 (W.toNat (W.ofNat (W.len y_4.1.2.1))), []), 0))
                                                        none)
                                                      none)
                                                    none)
                                                  (k (W.get x4 0 0, y_5, (x2, W.slice x3 0 (W.toNat (W.ofNat (W.len y_4.1.2.1))), []), 0)))))
                                          none)
                                        none)
                                    none)
                                  (F_clevisref05Table R x2 fun y_4 =>
                                    br (W.and2 (W.le 0 (W.ofNat (W.len y_4.1.2.1))) (W.le (W.ofNat (W.len y_4.1.2.1)) (W.ofNat (W.len x3))))
                                      (br (W.leN (W.mulN (W.len (W.slice x3 0 (W.toNat (W.ofNat (W.len y_4.1.2.1))))) 8) 140737488355328)
                                        (F_clevisref02Copy R x1 fun y_5 =>
                                          br (W.eq x2 3)
                                            (br (W.and2 true (W.lt 0 (W.ofNat (W.len (W.slice x3 0 (W.toNat (W.ofNat (W.len y_4.1.2.1))))))))
                                              (F_clevisref02Bytes R (((x0Context_Size, x0Context_Write), x0Maps), x1, y.1.1, y.1.2) fun y =>
                                                k (0, y_5, (x2, W.set (W.slice x3 0 (W.toNat (W.ofNat (W.len y_4.1.2.1)))) 0 0, y.1), 0))
                                              none)
                                            (br (W.eq x2 4)
                                              (br (W.and2 true (W.lt 0 (W.ofNat (W.len (W.slice x3 0 (W.toNat (W.ofNat (W.len y_4.1.2.1))))))))
                                                (P_clevisref05Do_23_0 F_clevisref05Table F_clevisref05Spans F_clevisref02Copy F_clevisref02Access F_clevisref02May F_clevisref02Bytes F_clevisref02Fill fl fl R x1
                                                  0 0 0 x0Context_Size x0Context_Write x0Maps 0 y.2.1.1 y.2.1.2 x2 (W.len (W.slice x3 0 (W.toNat (W.ofNat (W.len y_4.1.2.1)))))
                                                  (W.set (W.slice x3 0 (W.toNat (W.ofNat (W.len y_4.1.2.1)))) 0 0) [] k)
                                                none)
                                              (br (W.eq x2 5)
                                                (br (W.and2 true (W.lt 0 (W.ofNat (W.len x3))))
                                                  (br (W.and2 true (W.lt 1 (W.ofNat (W.len x3))))
                                                    (br (W.and2 true (W.lt 2 (W.ofNat (W.len x3))))
                                                      (k
                                                        (W.wrap IntKind.u64
                                                            (W.add
                                                              (W.wrap IntKind.u64
                                                                (W.add (W.wrap IntKind.u64 (W.add (W.get x3 0 0) (W.wrap IntKind.u64 (W.mul (W.get x3 1 0) 3))))
                                                                  (W.wrap IntKind.u64 (W.mul (W.get x3 2 0) 5))))
                                                              0),
                                                          y_5, (x2, W.slice x3 0 (W.toNat (W.ofNat (W.len y_4.1.2.1))), []), 0))
                                                      none)
                                                    none)
                                                  none)
                                                (k (0, y_5, (x2, W.slice x3 0 (W.toNat (W.ofNat (W.len y_4.1.2.1))), []), 0)))))
                                        none)
                                      none))))
                        (br (W.and2 (W.not (W.pick true (W.ne y_1 0) false)) (W.eq x2 4)) none
                          (br (W.not (W.pick true (W.ne y_1 0) false))
                            (br (W.eq x2 4) none
                              (F_clevisref02May R (((x0Context_Size, x0Context_Write), x0Maps), x1) fun y_2 =>
                                br (W.not y_2) (k (0, [], (0, [], []), 2))
                                  (br (W.gt (W.ofNat (W.len x4)) 0)
                                    (br (W.and2 true (W.lt 0 (W.ofNat (W.len x4))))
                                      (F_clevisref05Table R x2 fun y_3 =>
                                        br (W.and2 (W.le 0 (W.ofNat (W.len y_3.1.2.1))) (W.le (W.ofNat (W.len y_3.1.2.1)) (W.ofNat (W.len x3))))
                                          (br (W.leN (W.mulN (W.len (W.slice x3 0 (W.toNat (W.ofNat (W.len y_3.1.2.1))))) 8) 140737488355328)
                                            (F_clevisref02Copy R x1 fun y_4 =>
                                              br (W.eq x2 3)
                                                (br (W.and2 true (W.lt 0 (W.ofNat (W.len (W.slice x3 0 (W.toNat (W.ofNat (W.len y_3.1.2.1))))))))
                                                  (F_clevisref02Bytes R (((x0Context_Size, x0Context_Write), x0Maps), x1, y.1.1, y.1.2) fun y =>
                                                    k (W.get x4 0 0, y_4, (x2, W.set (W.slice x3 0 (W.toNat (W.ofNat (W.len y_3.1.2.1)))) 0 0, y.1), 0))
                                                  none)
                                                (br (W.eq x2 4)
                                                  (br (W.and2 true (W.lt 0 (W.ofNat (W.len (W.slice x3 0 (W.toNat (W.ofNat (W.len y_3.1.2.1))))))))
                                                    (P_clevisref05Do_23_0 F_clevisref05Table F_clevisref05Spans F_clevisref02Copy F_clevisref02Access F_clevisref02May F_clevisref02Bytes F_clevisref02Fill fl fl
                                                      R x1 (W.get x4 0 0) 0 0 x0Context_Size x0Context_Write x0Maps 0 y.2.1.1 y.2.1.2 x2 (W.len (W.slice x3 0 (W.toNat (W.ofNat (W.len y_3.1.2.1)))))
                                                      (W.set (W.slice x3 0 (W.toNat (W.ofNat (W.len y_3.1.2.1)))) 0 0) [] k)
                                                    none)
                                                  (br (W.eq x2 5)
                                                    (br (W.and2 true (W.lt 0 (W.ofNat (W.len x3))))
                                                      (br (W.and2 true (W.lt 1 (W.ofNat (W.len x3))))
                                                        (br (W.and2 true (W.lt 2 (W.ofNat (W.len x3))))
                                                          (k
                                                            (W.wrap IntKind.u64
                                                                (W.add
                                                                  (W.wrap IntKind.u64
                                                                    (W.add (W.wrap IntKind.u64 (W.add (W.get x3 0 0) (W.wrap IntKind.u64 (W.mul (W.get x3 1 0) 3))))
                                                                      (W.wrap IntKind.u64 (W.mul (W.get x3 2 0) 5))))
                                                                  (W.get x4 0 0)),
                                                              y_4, (x2, W.slice x3 0 (W.toNat (W.ofNat (W.len y_3.1.2.1))), []), 0))
                                                          none)
                                                        none)
                                                      none)
                                                    (k (W.get x4 0 0, y_4, (x2, W.slice x3 0 (W.toNat (W.ofNat (W.len y_3.1.2.1))), []), 0)))))
                                            none)
                                          none)
                                      none)
                                    (F_clevisref05Table R x2 fun y_3 =>
                                      br (W.and2 (W.le 0 (W.ofNat (W.len y_3.1.2.1))) (W.le (W.ofNat (W.len y_3.1.2.1)) (W.ofNat (W.len x3))))
                                        (br (W.leN (W.mulN (W.len (W.slice x3 0 (W.toNat (W.ofNat (W.len y_3.1.2.1))))) 8) 140737488355328)
                                          (F_clevisref02Copy R x1 fun y_4 =>
                                            br (W.eq x2 3)
                                              (br (W.and2 true (W.lt 0 (W.ofNat (W.len (W.slice x3 0 (W.toNat (W.ofNat (W.len y_3.1.2.1))))))))
                                                (F_clevisref02Bytes R (((x0Context_Size, x0Context_Write), x0Maps), x1, y.1.1, y.1.2) fun y =>
                                                  k (0, y_4, (x2, W.set (W.slice x3 0 (W.toNat (W.ofNat (W.len y_3.1.2.1)))) 0 0, y.1), 0))
                                                none)
                                              (br (W.eq x2 4)
                                                (br (W.and2 true (W.lt 0 (W.ofNat (W.len (W.slice x3 0 (W.toNat (W.ofNat (W.len y_3.1.2.1))))))))
                                                  (P_clevisref05Do_23_0 F_clevisref05Table F_clevisref05Spans F_clevisref02Copy F_clevisref02Access F_clevisref02May F_clevisref02Bytes F_clevisref02Fill fl fl R
                                                    x1 0 0 0 x0Context_Size x0Context_Write x0Maps 0 y.2.1.1 y.2.1.2 x2 (W.len (W.slice x3 0 (W.toNat (W.ofNat (W.len y_3.1.2.1)))))
                                                    (W.set (W.slice x3 0 (W.toNat (W.ofNat (W.len y_3.1.2.1)))) 0 0) [] k)
                                                  none)
                                                (br (W.eq x2 5)
                                                  (br (W.and2 true (W.lt 0 (W.ofNat (W.len x3))))
                                                    (br (W.and2 true (W.lt 1 (W.ofNat (W.len x3))))
                                                      (br (W.and2 true (W.lt 2 (W.ofNat (W.len x3))))
                                                        (k
                                                          (W.wrap IntKind.u64
                                                              (W.add
                                                                (W.wrap IntKind.u64
                                                                  (W.add (W.wrap IntKind.u64 (W.add (W.get x3 0 0) (W.wrap IntKind.u64 (W.mul (W.get x3 1 0) 3))))
                                                                    (W.wrap IntKind.u64 (W.mul (W.get x3 2 0) 5))))
                                                                0),
                                                            y_4, (x2, W.slice x3 0 (W.toNat (W.ofNat (W.len y_3.1.2.1))), []), 0))
                                                        none)
                                                      none)
                                                    none)
                                                  (k (0, y_4, (x2, W.slice x3 0 (W.toNat (W.ofNat (W.len y_3.1.2.1))), []), 0)))))
                                          none)
                                        none))))
                            (k (0, [], (0, [], []), 50)))))
                    (br (W.and2 true (W.eq x2 4))
                      (F_clevisref02Access R (((x0Context_Size, x0Context_Write), x0Maps), y.2.1.1, y.2.1.2, true) fun y_1 =>
                        br (W.pick false true (W.pick (W.eq x2 4) (W.ne y_1 0) false)) (k (0, [], (0, [], []), 50))
                          (F_clevisref02May R (((x0Context_Size, x0Context_Write), x0Maps), x1) fun y_2 =>
                            br (W.not y_2) (k (0, [], (0, [], []), 2))
                              (br (W.gt (W.ofNat (W.len x4)) 0)
                                (br (W.and2 true (W.lt 0 (W.ofNat (W.len x4))))
                                  (F_clevisref05Table R x2 fun y_3 =>
                                    br (W.and2 (W.le 0 (W.ofNat (W.len y_3.1.2.1))) (W.le (W.ofNat (W.len y_3.1.2.1)) (W.ofNat (W.len x3))))
                                      (br (W.leN (W.mulN (W.len (W.slice x3 0 (W.toNat (W.ofNat (W.len y_3.1.2.1))))) 8) 140737488355328)
                                        (F_clevisref02Copy R x1 fun y_4 =>
                                          br (W.eq x2 3)
                                            (br (W.and2 true (W.lt 0 (W.ofNat (W.len (W.slice x3 0 (W.toNat (W.ofNat (W.len y_3.1.2.1))))))))
                                              (F_clevisref02Bytes R (((x0Context_Size, x0Context_Write), x0Maps), x1, y.1.1, y.1.2) fun y =>
                                                k (W.get x4 0 0, y_4, (x2, W.set (W.slice x3 0 (W.toNat (W.ofNat (W.len y_3.1.2.1)))) 0 0, y.1), 0))
                                              none)
                                            (br (W.eq x2 4)
                                              (br (W.and2 true (W.lt 0 (W.ofNat (W.len (W.slice x3 0 (W.toNat (W.ofNat (W.len y_3.1.2.1))))))))
                                                (P_clevisref05Do_23_0 F_clevisref05Table F_clevisref05Spans F_clevisref02Copy F_clevisref02Access F_clevisref02May F_clevisref02Bytes F_clevisref02Fill fl fl R x1
                                                  (W.get x4 0 0) 0 0 x0Context_Size x0Context_Write x0Maps 0 y.2.1.1 y.2.1.2 x2 (W.len (W.slice x3 0 (W.toNat (W.ofNat (W.len y_3.1.2.1)))))
                                                  (W.set (W.slice x3 0 (W.toNat (W.ofNat (W.len y_3.1.2.1)))) 0 0) [] k)
                                                none)
                                              (br (W.eq x2 5)
                                                (br (W.and2 true (W.lt 0 (W.ofNat (W.len x3))))
                                                  (br (W.and2 true (W.lt 1 (W.ofNat (W.len x3))))
                                                    (br (W.and2 true (W.lt 2 (W.ofNat (W.len x3))))
                                                      (k
                                                        (W.wrap IntKind.u64
                                                            (W.add
                                                              (W.wrap IntKind.u64
                                                                (W.add (W.wrap IntKind.u64 (W.add (W.get x3 0 0) (W.wrap IntKind.u64 (W.mul (W.get x3 1 0) 3))))
                                                                  (W.wrap IntKind.u64 (W.mul (W.get x3 2 0) 5))))
                                                              (W.get x4 0 0)),
                                                          y_4, (x2, W.slice x3 0 (W.toNat (W.ofNat (W.len y_3.1.2.1))), []), 0))
                                                      none)
                                                    none)
                                                  none)
                                                (k (W.get x4 0 0, y_4, (x2, W.slice x3 0 (W.toNat (W.ofNat (W.len y_3.1.2.1))), []), 0)))))
                                        none)
                                      none)
                                  none)
                                (F_clevisref05Table R x2 fun y_3 =>
                                  br (W.and2 (W.le 0 (W.ofNat (W.len y_3.1.2.1))) (W.le (W.ofNat (W.len y_3.1.2.1)) (W.ofNat (W.len x3))))
                                    (br (W.leN (W.mulN (W.len (W.slice x3 0 (W.toNat (W.ofNat (W.len y_3.1.2.1))))) 8) 140737488355328)
                                      (F_clevisref02Copy R x1 fun y_4 =>
                                        br (W.eq x2 3)
                                          (br (W.and2 true (W.lt 0 (W.ofNat (W.len (W.slice x3 0 (W.toNat (W.ofNat (W.len y_3.1.2.1))))))))
                                            (F_clevisref02Bytes R (((x0Context_Size, x0Context_Write), x0Maps), x1, y.1.1, y.1.2) fun y =>
                                              k (0, y_4, (x2, W.set (W.slice x3 0 (W.toNat (W.ofNat (W.len y_3.1.2.1)))) 0 0, y.1), 0))
                                            none)
                                          (br (W.eq x2 4)
                                            (br (W.and2 true (W.lt 0 (W.ofNat (W.len (W.slice x3 0 (W.toNat (W.ofNat (W.len y_3.1.2.1))))))))
                                              (P_clevisref05Do_23_0 F_clevisref05Table F_clevisref05Spans F_clevisref02Copy F_clevisref02Access F_clevisref02May F_clevisref02Bytes F_clevisref02Fill fl fl R x1 0
                                                0 0 x0Context_Size x0Context_Write x0Maps 0 y.2.1.1 y.2.1.2 x2 (W.len (W.slice x3 0 (W.toNat (W.ofNat (W.len y_3.1.2.1)))))
                                                (W.set (W.slice x3 0 (W.toNat (W.ofNat (W.len y_3.1.2.1)))) 0 0) [] k)
                                              none)
                                            (br (W.eq x2 5)
                                              (br (W.and2 true (W.lt 0 (W.ofNat (W.len x3))))
                                                (br (W.and2 true (W.lt 1 (W.ofNat (W.len x3))))
                                                  (br (W.and2 true (W.lt 2 (W.ofNat (W.len x3))))
                                                    (k
                                                      (W.wrap IntKind.u64
                                                          (W.add
                                                            (W.wrap IntKind.u64
                                                              (W.add (W.wrap IntKind.u64 (W.add (W.get x3 0 0) (W.wrap IntKind.u64 (W.mul (W.get x3 1 0) 3)))) (W.wrap IntKind.u64 (W.mul (W.get x3 2 0) 5))))
                                                            0),
                                                        y_4, (x2, W.slice x3 0 (W.toNat (W.ofNat (W.len y_3.1.2.1))), []), 0))
                                                    none)
                                                  none)
                                                none)
                                              (k (0, y_4, (x2, W.slice x3 0 (W.toNat (W.ofNat (W.len y_3.1.2.1))), []), 0)))))
                                      none)
                                    none))))
                      (br (W.and2 true (W.eq x2 4)) none
                        (br (W.eq x2 4) none
                          (F_clevisref02May R (((x0Context_Size, x0Context_Write), x0Maps), x1) fun y_1 =>
                            br (W.not y_1) (k (0, [], (0, [], []), 2))
                              (br (W.gt (W.ofNat (W.len x4)) 0)
                                (br (W.and2 true (W.lt 0 (W.ofNat (W.len x4))))
                                  (F_clevisref05Table R x2 fun y_2 =>
                                    br (W.and2 (W.le 0 (W.ofNat (W.len y_2.1.2.1))) (W.le (W.ofNat (W.len y_2.1.2.1)) (W.ofNat (W.len x3))))
                                      (br (W.leN (W.mulN (W.len (W.slice x3 0 (W.toNat (W.ofNat (W.len y_2.1.2.1))))) 8) 140737488355328)
                                        (F_clevisref02Copy R x1 fun y_3 =>
                                          br (W.eq x2 3)
                                            (br (W.and2 true (W.lt 0 (W.ofNat (W.len (W.slice x3 0 (W.toNat (W.ofNat (W.len y_2.1.2.1))))))))
                                              (F_clevisref02Bytes R (((x0Context_Size, x0Context_Write), x0Maps), x1, y.1.1, y.1.2) fun y =>
                                                k (W.get x4 0 0, y_3, (x2, W.set (W.slice x3 0 (W.toNat (W.ofNat (W.len y_2.1.2.1)))) 0 0, y.1), 0))
                                              none)
                                            (br (W.eq x2 4)
                                              (br (W.and2 true (W.lt 0 (W.ofNat (W.len (W.slice x3 0 (W.toNat (W.ofNat (W.len y_2.1.2.1))))))))
                                                (P_clevisref05Do_23_0 F_clevisref05Table F_clevisref05Spans F_clevisref02Copy F_clevisref02Access F_clevisref02May F_clevisref02Bytes F_clevisref02Fill fl fl R x1
                                                  (W.get x4 0 0) 0 0 x0Context_Size x0Context_Write x0Maps 0 y.2.1.1 y.2.1.2 x2 (W.len (W.slice x3 0 (W.toNat (W.ofNat (W.len y_2.1.2.1)))))
                                                  (W.set (W.slice x3 0 (W.toNat (W.ofNat (W.len y_2.1.2.1)))) 0 0) [] k)
                                                none)
                                              (br (W.eq x2 5)
                                                (br (W.and2 true (W.lt 0 (W.ofNat (W.len x3))))
                                                  (br (W.and2 true (W.lt 1 (W.ofNat (W.len x3))))
                                                    (br (W.and2 true (W.lt 2 (W.ofNat (W.len x3))))
                                                      (k
                                                        (W.wrap IntKind.u64
                                                            (W.add
                                                              (W.wrap IntKind.u64
                                                                (W.add (W.wrap IntKind.u64 (W.add (W.get x3 0 0) (W.wrap IntKind.u64 (W.mul (W.get x3 1 0) 3))))
                                                                  (W.wrap IntKind.u64 (W.mul (W.get x3 2 0) 5))))
                                                              (W.get x4 0 0)),
                                                          y_3, (x2, W.slice x3 0 (W.toNat (W.ofNat (W.len y_2.1.2.1))), []), 0))
                                                      none)
                                                    none)
                                                  none)
                                                (k (W.get x4 0 0, y_3, (x2, W.slice x3 0 (W.toNat (W.ofNat (W.len y_2.1.2.1))), []), 0)))))
                                        none)
                                      none)
                                  none)
                                (F_clevisref05Table R x2 fun y_2 =>
                                  br (W.and2 (W.le 0 (W.ofNat (W.len y_2.1.2.1))) (W.le (W.ofNat (W.len y_2.1.2.1)) (W.ofNat (W.len x3))))
                                    (br (W.leN (W.mulN (W.len (W.slice x3 0 (W.toNat (W.ofNat (W.len y_2.1.2.1))))) 8) 140737488355328)
                                      (F_clevisref02Copy R x1 fun y_3 =>
                                        br (W.eq x2 3)
                                          (br (W.and2 true (W.lt 0 (W.ofNat (W.len (W.slice x3 0 (W.toNat (W.ofNat (W.len y_2.1.2.1))))))))
                                            (F_clevisref02Bytes R (((x0Context_Size, x0Context_Write), x0Maps), x1, y.1.1, y.1.2) fun y =>
                                              k (0, y_3, (x2, W.set (W.slice x3 0 (W.toNat (W.ofNat (W.len y_2.1.2.1)))) 0 0, y.1), 0))
                                            none)
                                          (br (W.eq x2 4)
                                            (br (W.and2 true (W.lt 0 (W.ofNat (W.len (W.slice x3 0 (W.toNat (W.ofNat (W.len y_2.1.2.1))))))))
                                              (P_clevisref05Do_23_0 F_clevisref05Table F_clevisref05Spans F_clevisref02Copy F_clevisref02Access F_clevisref02May F_clevisref02Bytes F_clevisref02Fill fl fl R x1 0
                                                0 0 x0Context_Size x0Context_Write x0Maps 0 y.2.1.1 y.2.1.2 x2 (W.len (W.slice x3 0 (W.toNat (W.ofNat (W.len y_2.1.2.1)))))
                                                (W.set (W.slice x3 0 (W.toNat (W.ofNat (W.len y_2.1.2.1)))) 0 0) [] k)
                                              none)
                                            (br (W.eq x2 5)
                                              (br (W.and2 true (W.lt 0 (W.ofNat (W.len x3))))
                                                (br (W.and2 true (W.lt 1 (W.ofNat (W.len x3))))
                                                  (br (W.and2 true (W.lt 2 (W.ofNat (W.len x3))))
                                                    (k
                                                      (W.wrap IntKind.u64
                                                          (W.add
                                                            (W.wrap IntKind.u64
                                                              (W.add (W.wrap IntKind.u64 (W.add (W.get x3 0 0) (W.wrap IntKind.u64 (W.mul (W.get x3 1 0) 3)))) (W.wrap IntKind.u64 (W.mul (W.get x3 2 0) 5))))
                                                            0),
                                                        y_3, (x2, W.slice x3 0 (W.toNat (W.ofNat (W.len y_2.1.2.1))), []), 0))
                                                    none)
                                                  none)
                                                none)
                                              (k (0, y_3, (x2, W.slice x3 0 (W.toNat (W.ofNat (W.len y_2.1.2.1))), []), 0)))))
                                      none)
                                    none))))))))
                none)
              none)
            none)
          none
theorem Q_clevisref05Do {F_clevisref05Table : FT ps_clevisref05Table qs_clevisref05Table} {F_clevisref05Spans : FT ps_clevisref05Spans qs_clevisref05Spans} {F_clevisref02Copy : FT ps_clevisref02Copy qs_clevisref02Copy} {F_clevisref02Access : FT ps_clevisref02Access qs_clevisref02Access} {F_clevisref02May : FT ps_clevisref02May qs_clevisref02May} {F_clevisref02Bytes : FT ps_clevisref02Bytes qs_clevisref02Bytes} {F_clevisref02Fill : FT ps_clevisref02Fill qs_clevisref02Fill} (fl : Nat) (R : Type) (x : PTs.D ps_clevisref05Do) (k : PTs.D qs_clevisref05Do → Option R) : call (Cw Try.prog [(12, mkS ps_clevisref05Table qs_clevisref05Table F_clevisref05Table), (14, mkS ps_clevisref05Spans qs_clevisref05Spans F_clevisref05Spans), (16, mkS ps_clevisref02Copy qs_clevisref02Copy F_clevisref02Copy), (35, mkS ps_clevisref02Access qs_clevisref02Access F_clevisref02Access), (36, mkS ps_clevisref02May qs_clevisref02May F_clevisref02May), (21, mkS ps_clevisref02Bytes qs_clevisref02Bytes F_clevisref02Bytes), (37, mkS ps_clevisref02Fill qs_clevisref02Fill F_clevisref02Fill)] hintsF) fl 12 17 (encL true ps_clevisref05Do x) [] (getR qs_clevisref05Do k) = N_clevisref05Do F_clevisref05Table F_clevisref05Spans F_clevisref02Copy F_clevisref02Access F_clevisref02May F_clevisref02Bytes F_clevisref02Fill fl R x k := by
  obtain ⟨⟨⟨x0Context_Size, x0Context_Write⟩, x0Maps⟩, x1, x2, x3, x4⟩ := x; kernel_rfl
theorem S_clevisref05Do {F_clevisref05Table : FT ps_clevisref05Table qs_clevisref05Table} {F_clevisref05Spans : FT ps_clevisref05Spans qs_clevisref05Spans} {F_clevisref02Copy : FT ps_clevisref02Copy qs_clevisref02Copy} {F_clevisref02Access : FT ps_clevisref02Access qs_clevisref02Access} {F_clevisref02May : FT ps_clevisref02May qs_clevisref02May} {F_clevisref02Bytes : FT ps_clevisref02Bytes qs_clevisref02Bytes} {F_clevisref02Fill : FT ps_clevisref02Fill qs_clevisref02Fill} (h_clevisref05Table : SpecOk Try.prog 12 (mkS ps_clevisref05Table qs_clevisref05Table F_clevisref05Table)) (h_clevisref05Spans : SpecOk Try.prog 14 (mkS ps_clevisref05Spans qs_clevisref05Spans F_clevisref05Spans)) (h_clevisref02Copy : SpecOk Try.prog 16 (mkS ps_clevisref02Copy qs_clevisref02Copy F_clevisref02Copy)) (h_clevisref02Access : SpecOk Try.prog 35 (mkS ps_clevisref02Access qs_clevisref02Access F_clevisref02Access)) (h_clevisref02May : SpecOk Try.prog 36 (mkS ps_clevisref02May qs_clevisref02May F_clevisref02May)) (h_clevisref02Bytes : SpecOk Try.prog 21 (mkS ps_clevisref02Bytes qs_clevisref02Bytes F_clevisref02Bytes)) (h_clevisref02Fill : SpecOk Try.prog 37 (mkS ps_clevisref02Fill qs_clevisref02Fill F_clevisref02Fill)) : SpecOk Try.prog 17 (mkS ps_clevisref05Do qs_clevisref05Do (N_clevisref05Do F_clevisref05Table F_clevisref05Spans F_clevisref02Copy F_clevisref02Access F_clevisref02May F_clevisref02Bytes F_clevisref02Fill W.big)) :=
  specOk_mk (fl := W.big) (d := 12) (cfgOk_cons (cfgOk_cons (cfgOk_cons (cfgOk_cons (cfgOk_cons (cfgOk_cons (cfgOk_cons base h_clevisref02Fill) h_clevisref02Bytes) h_clevisref02May) h_clevisref02Access) h_clevisref02Copy) h_clevisref05Spans) h_clevisref05Table) (fun R x k => Q_clevisref05Do W.big R x k)
noncomputable def F_clevisref05Do : FT ps_clevisref05Do qs_clevisref05Do := N_clevisref05Do F_clevisref05Table F_clevisref05Spans F_clevisref02Copy F_clevisref02Access F_clevisref02May F_clevisref02Bytes F_clevisref02Fill W.big
theorem ok_clevisref05Do : SpecOk Try.prog 17 (mkS ps_clevisref05Do qs_clevisref05Do F_clevisref05Do) := S_clevisref05Do ok_clevisref05Table ok_clevisref05Spans ok_clevisref02Copy ok_clevisref02Access ok_clevisref02May ok_clevisref02Bytes ok_clevisref02Fill
abbrev ps_clevisref01Same : List PT := [.one (.slice (.int .u8)), .one (.slice (.int .u8))]
abbrev qs_clevisref01Same : List PT := [.one (.bool)]
noncomputable def N_clevisref01Same   : FT ps_clevisref01Same qs_clevisref01Same := fun R x k => match x with
  | (x0, x1) => 
      br (W.leN (W.len x0) 140737488355328) (br (W.leN (W.len x1) 140737488355328) (k (W.eqS (W.bytes x0) (W.bytes x1))) none) none
theorem S_clevisref01Same   : SpecOk Try.prog 22 (mkS ps_clevisref01Same qs_clevisref01Same (N_clevisref01Same )) :=
  specOk_mk (fl := 10) (d := 12) base (by rintro R ⟨x0, x1⟩ k; kernel_rfl)
noncomputable def F_clevisref01Same : FT ps_clevisref01Same qs_clevisref01Same := N_clevisref01Same  
theorem ok_clevisref01Same : SpecOk Try.prog 22 (mkS ps_clevisref01Same qs_clevisref01Same F_clevisref01Same) := S_clevisref01Same 
abbrev ps_clevisref02Same : List PT := [.one (.slice (.slice (.int .u8))), .one (.slice (.slice (.int .u8)))]
abbrev qs_clevisref02Same : List PT := [.one (.bool)]
noncomputable def PL_clevisref02Same_4_0 (F_clevisref01Same : FT ps_clevisref01Same qs_clevisref01Same) (fl : Nat)  (R : Type) (k : PTs.D qs_clevisref02Same → Option R) : LoopI R :=
  locate (Cw Try.prog [(22, mkS ps_clevisref01Same qs_clevisref01Same F_clevisref01Same)] hintsF) fl (call (Cw Try.prog [(22, mkS ps_clevisref01Same qs_clevisref01Same F_clevisref01Same)] hintsF) fl 11) 0 18 4 [] (getR qs_clevisref02Same k)
noncomputable def P_clevisref02Same_4_0 (F_clevisref01Same : FT ps_clevisref01Same qs_clevisref01Same) (fl : Nat)  (n : Nat) (R : Type) (y0 : List (List Int)) (y1 : List (List Int)) (y2 : Int) (k : PTs.D qs_clevisref02Same → Option R) : Option R :=
  loopH (PL_clevisref02Same_4_0 F_clevisref01Same fl  R k).body (PL_clevisref02Same_4_0 F_clevisref01Same fl  R k).head n (some (
      S.mk
        [V.ro true (Ty.slice (Ty.int IntKind.u8)) y0, V.ro true (Ty.slice (Ty.int IntKind.u8)) y1, V.any, V.any, V.any, V.int IntKind.i64 y2, V.any, V.any, V.any, V.any, V.any, V.any, V.any, V.any, V.any,
          V.any, V.any, V.any, V.any, V.any, V.any, V.any, V.any, V.any, V.any, V.any, V.any]
        [] [])) (PL_clevisref02Same_4_0 F_clevisref01Same fl  R k).kont
theorem P_clevisref02Same_4_0_s {F_clevisref01Same : FT ps_clevisref01Same qs_clevisref01Same} (fl : Nat)  (n : Nat) (R : Type) (y0 : List (List Int)) (y1 : List (List Int)) (y2 : Int) (k : PTs.D qs_clevisref02Same → Option R) : P_clevisref02Same_4_0 F_clevisref01Same fl  (n + 1) R y0 y1 y2 k =
      br (W.lt y2 (W.ofNat (W.len y0)))
        (br (W.and2 (W.le 0 y2) (W.lt y2 (W.ofNat (W.len y0))))
          (br (W.and2 (W.le 0 y2) (W.lt y2 (W.ofNat (W.len y1))))
            (F_clevisref01Same R (W.get y0 (W.toNat y2) [], W.get y1 (W.toNat y2) []) fun y => br (W.not y) (k false) (P_clevisref02Same_4_0 F_clevisref01Same fl n R y0 y1 (W.wrap IntKind.i64 (W.add y2 1)) k)) none)
          none)
        (k true) := by kernel_rfl
noncomputable def N_clevisref02Same (F_clevisref01Same : FT ps_clevisref01Same qs_clevisref01Same) (fl : Nat) : FT ps_clevisref02Same qs_clevisref02Same := fun R x k => match x with
  | (x0, x1) => 
      br (W.ne (W.ofNat (W.len x0)) (W.ofNat (W.len x1))) (k false) (P_clevisref02Same_4_0 F_clevisref01Same fl fl R x0 x1 0 k)
theorem Q_clevisref02Same {F_clevisref01Same : FT ps_clevisref01Same qs_clevisref01Same} (fl : Nat) (R : Type) (x : PTs.D ps_clevisref02Same) (k : PTs.D qs_clevisref02Same → Option R) : call (Cw Try.prog [(22, mkS ps_clevisref01Same qs_clevisref01Same F_clevisref01Same)] hintsF) fl 12 18 (encL true ps_clevisref02Same x) [] (getR qs_clevisref02Same k) = N_clevisref02Same F_clevisref01Same fl R x k := by
  obtain ⟨x0, x1⟩ := x; kernel_rfl
theorem S_clevisref02Same {F_clevisref01Same : FT ps_clevisref01Same qs_clevisref01Same} (h_clevisref01Same : SpecOk Try.prog 22 (mkS ps_clevisref01Same qs_clevisref01Same F_clevisref01Same)) : SpecOk Try.prog 18 (mkS ps_clevisref02Same qs_clevisref02Same (N_clevisref02Same F_clevisref01Same W.big)) :=
  specOk_mk (fl := W.big) (d := 12) (cfgOk_cons base h_clevisref01Same) (fun R x k => Q_clevisref02Same W.big R x k)
noncomputable def F_clevisref02Same : FT ps_clevisref02Same qs_clevisref02Same := N_clevisref02Same F_clevisref01Same W.big
theorem ok_clevisref02Same : SpecOk Try.prog 18 (mkS ps_clevisref02Same qs_clevisref02Same F_clevisref02Same) := S_clevisref02Same ok_clevisref01Same
abbrev ps_clevisref05Same : List PT := [.one (.slice ((.prod (.int .i64) (.prod (.slice (.int .u64)) (.slice (.int .u8)))))), .one (.slice ((.prod (.int .i64) (.prod (.slice (.int .u64)) (.slice (.int .u8))))))]
abbrev qs_clevisref05Same : List PT := [.one (.bool)]
noncomputable def PL_clevisref05Same_4_0 (F_clevisref01Same : FT ps_clevisref01Same qs_clevisref01Same) (fl : Nat)  (R : Type) (k : PTs.D qs_clevisref05Same → Option R) : LoopI R :=
  locate (Cw Try.prog [(22, mkS ps_clevisref01Same qs_clevisref01Same F_clevisref01Same)] hintsF) fl (call (Cw Try.prog [(22, mkS ps_clevisref01Same qs_clevisref01Same F_clevisref01Same)] hintsF) fl 11) 0 19 4 [] (getR qs_clevisref05Same k)
noncomputable def P_clevisref05Same_4_0 (F_clevisref01Same : FT ps_clevisref01Same qs_clevisref01Same) (fl : Nat)  (n : Nat) (R : Type) (y0 : List (Int × List Int × List Int)) (y1 : List (Int × List Int × List Int)) (y2 : Int) (k : PTs.D qs_clevisref05Same → Option R) : Option R :=
  loopH (PL_clevisref05Same_4_0 F_clevisref01Same fl  R k).body (PL_clevisref05Same_4_0 F_clevisref01Same fl  R k).head n (some (
      S.mk
        [V.ro true (Ty.prod (Ty.int IntKind.i64) (Ty.prod (Ty.slice (Ty.int IntKind.u64)) (Ty.slice (Ty.int IntKind.u8)))) y0,
          V.ro true (Ty.prod (Ty.int IntKind.i64) (Ty.prod (Ty.slice (Ty.int IntKind.u64)) (Ty.slice (Ty.int IntKind.u8)))) y1, V.any, V.any, V.any, V.int IntKind.i64 y2, V.any, V.any, V.any, V.any, V.any,
          V.any, V.any, V.any, V.any, V.any, V.any, V.any, V.any, V.any, V.any, V.any, V.any, V.any, V.any, V.any, V.any, V.any, V.any, V.any, V.any, V.any, V.any, V.any, V.any, V.any, V.any, V.any, V.any,
          V.any, V.any, V.any, V.any, V.any, V.any, V.any, V.any, V.any, V.any, V.any, V.any, V.any, V.any, V.any, V.any, V.any, V.any, V.any, V.any, V.any, V.any, V.any, V.any, V.any, V.any, V.any, V.any,
          V.any, V.any, V.any, V.any, V.any, V.any, V.any, V.any, V.any, V.any, V.any, V.any, V.any, V.any, V.any, V.any, V.any, V.any]
        [] [])) (PL_clevisref05Same_4_0 F_clevisref01Same fl  R k).kont
noncomputable def PL_clevisref05Same_9_0 (F_clevisref01Same : FT ps_clevisref01Same qs_clevisref01Same) (fl : Nat) (o0 : Nat) (R : Type) (k : PTs.D qs_clevisref05Same → Option R) : LoopI R :=
  locate (Cw Try.prog [(22, mkS ps_clevisref01Same qs_clevisref01Same F_clevisref01Same)] hintsF) fl (call (Cw Try.prog [(22, mkS ps_clevisref01Same qs_clevisref01Same F_clevisref01Same)] hintsF) fl 11) 0 19 9 [o0] (getR qs_clevisref05Same k)
noncomputable def P_clevisref05Same_9_0 (F_clevisref01Same : FT ps_clevisref01Same qs_clevisref01Same) (fl : Nat) (o0 : Nat) (n : Nat) (R : Type) (y0 : List (Int × List Int × List Int)) (y1 : List (Int × List Int × List Int)) (y2 : Int) (y3 : Int) (k : PTs.D qs_clevisref05Same → Option R) : Option R :=
  loopH (PL_clevisref05Same_9_0 F_clevisref01Same fl o0 R k).body (PL_clevisref05Same_9_0 F_clevisref01Same fl o0 R k).head n (some (
      S.mk
        [V.ro true (Ty.prod (Ty.int IntKind.i64) (Ty.prod (Ty.slice (Ty.int IntKind.u64)) (Ty.slice (Ty.int IntKind.u8)))) y0,
          V.ro true (Ty.prod (Ty.int IntKind.i64) (Ty.prod (Ty.slice (Ty.int IntKind.u64)) (Ty.slice (Ty.int IntKind.u8)))) y1, V.any, V.any, V.any, V.int IntKind.i64 y2, V.int IntKind.i64 y3, V.any, V.any,
          V.any, V.any, V.any, V.any, V.any, V.any, V.any, V.any, V.any, V.any, V.any, V.any, V.any, V.any, V.any, V.any, V.any, V.any, V.any, V.any, V.any, V.any, V.any, V.any, V.any, V.any, V.any, V.any,
          V.any, V.any, V.any, V.any, V.any, V.any, V.any, V.any, V.any, V.any, V.any, V.any, V.any, V.any, V.any, V.any, V.any, V.any, V.any, V.any, V.any, V.any, V.any, V.any, V.any, V.any, V.any, V.any,
          V.any, V.any, V.any, V.any, V.any, V.any, V.any, V.any, V.any, V.any, V.any, V.any, V.any, V.any, V.any, V.any, V.any, V.any, V.any, V.any]
        [] [])) (PL_clevisref05Same_9_0 F_clevisref01Same fl o0 R k).kont
theorem P_clevisref05Same_4_0_s {F_clevisref01Same : FT ps_clevisref01Same qs_clevisref01Same} (fl : Nat)  (n : Nat) (R : Type) (y0 : List (Int × List Int × List Int)) (y1 : List (Int × List Int × List Int)) (y2 : Int) (k : PTs.D qs_clevisref05Same → Option R) : P_clevisref05Same_4_0 F_clevisref01Same fl  (n + 1) R y0 y1 y2 k =
      br (W.lt y2 (W.ofNat (W.len y0)))
        (br (W.and2 (W.le 0 y2) (W.lt y2 (W.ofNat (W.len y0))))
          (br (W.and2 (W.le 0 y2) (W.lt y2 (W.ofNat (W.len y1))))
            (br (W.or2 (W.not (W.not (W.ne (W.get y0 (W.toNat y2) (0, [], [])).1 (W.get y1 (W.toNat y2) (0, [], [])).1))) (W.and2 (W.le 0 y2) (W.lt y2 (W.ofNat (W.len y0)))))
              (br (W.or2 (W.not (W.not (W.ne (W.get y0 (W.toNat y2) (0, [], [])).1 (W.get y1 (W.toNat y2) (0, [], [])).1))) (W.and2 (W.le 0 y2) (W.lt y2 (W.ofNat (W.len y1)))))
                (br
                  (W.or2
                    (W.not
                      (W.not
                        (W.pick (W.ne (W.get y0 (W.toNat y2) (0, [], [])).1 (W.get y1 (W.toNat y2) (0, [], [])).1) true
                          (W.ne (W.ofNat (W.len (W.get y0 (W.toNat y2) (0, [], [])).2.1)) (W.ofNat (W.len (W.get y1 (W.toNat y2) (0, [], [])).2.1))))))
                    (W.and2 (W.le 0 y2) (W.lt y2 (W.ofNat (W.len y0)))))
                  (br
                    (W.or2
                      (W.not
                        (W.not
                          (W.pick (W.ne (W.get y0 (W.toNat y2) (0, [], [])).1 (W.get y1 (W.toNat y2) (0, [], [])).1) true
                            (W.ne (W.ofNat (W.len (W.get y0 (W.toNat y2) (0, [], [])).2.1)) (W.ofNat (W.len (W.get y1 (W.toNat y2) (0, [], [])).2.1))))))
                      (W.and2 (W.le 0 y2) (W.lt y2 (W.ofNat (W.len y1)))))
                    (br
                      (W.not
                        (W.pick (W.ne (W.get y0 (W.toNat y2) (0, [], [])).1 (W.get y1 (W.toNat y2) (0, [], [])).1) true
                          (W.ne (W.ofNat (W.len (W.get y0 (W.toNat y2) (0, [], [])).2.1)) (W.ofNat (W.len (W.get y1 (W.toNat y2) (0, [], [])).2.1)))))
                      (F_clevisref01Same R ((W.get y0 (W.toNat y2) (0, [], [])).2.2, (W.get y1 (W.toNat y2) (0, [], [])).2.2) fun y =>
                        br (W.pick false true (W.not y)) (k false) (P_clevisref05Same_9_0 F_clevisref01Same fl n fl R y0 y1 y2 0 k))
                      (k false))
                    none)
                  none)
                none)
              none)
            none)
          none)
        (k true) := by kernel_rfl
theorem P_clevisref05Same_9_0_s {F_clevisref01Same : FT ps_clevisref01Same qs_clevisref01Same} (fl : Nat) (o0 : Nat) (n : Nat) (R : Type) (y0 : List (Int × List Int × List Int)) (y1 : List (Int × List Int × List Int)) (y2 : Int) (y3 : Int) (k : PTs.D qs_clevisref05Same → Option R) : P_clevisref05Same_9_0 F_clevisref01Same fl o0 (n + 1) R y0 y1 y2 y3 k =
      br (W.and2 (W.le 0 y2) (W.lt y2 (W.ofNat (W.len y0))))
        (br (W.lt y3 (W.ofNat (W.len (W.get y0 (W.toNat y2) (0, [], [])).2.1)))
          (br (W.and2 (W.le 0 y2) (W.lt y2 (W.ofNat (W.len y0))))
            (br (W.and2 (W.le 0 y3) (W.lt y3 (W.ofNat (W.len (W.get y0 (W.toNat y2) (0, [], [])).2.1))))
              (br (W.and2 (W.le 0 y2) (W.lt y2 (W.ofNat (W.len y1))))
                (br (W.and2 (W.le 0 y3) (W.lt y3 (W.ofNat (W.len (W.get y1 (W.toNat y2) (0, [], [])).2.1))))
                  (br (W.ne (W.get (W.get y0 (W.toNat y2) (0, [], [])).2.1 (W.toNat y3) 0) (W.get (W.get y1 (W.toNat y2) (0, [], [])).2.1 (W.toNat y3) 0)) (k false)
                    (P_clevisref05Same_9_0 F_clevisref01Same fl o0 n R y0 y1 y2 (W.wrap IntKind.i64 (W.add y3 1)) k))
                  none)
                none)
              none)
            none)
          (P_clevisref05Same_4_0 F_clevisref01Same fl o0 R y0 y1 (W.wrap IntKind.i64 (W.add y2 1)) k))
        none := by kernel_rfl
noncomputable def N_clevisref05Same (F_clevisref01Same : FT ps_clevisref01Same qs_clevisref01Same) (fl : Nat) : FT ps_clevisref05Same qs_clevisref05Same := fun R x k => match x with
  | (x0, x1) => 
      br (W.ne (W.ofNat (W.len x0)) (W.ofNat (W.len x1))) (k false) (P_clevisref05Same_4_0 F_clevisref01Same fl fl R x0 x1 0 k)
theorem Q_clevisref05Same {F_clevisref01Same : FT ps_clevisref01Same qs_clevisref01Same} (fl : Nat) (R : Type) (x : PTs.D ps_clevisref05Same) (k : PTs.D qs_clevisref05Same → Option R) : call (Cw Try.prog [(22, mkS ps_clevisref01Same qs_clevisref01Same F_clevisref01Same)] hintsF) fl 12 19 (encL true ps_clevisref05Same x) [] (getR qs_clevisref05Same k) = N_clevisref05Same F_clevisref01Same fl R x k := by
  obtain ⟨x0, x1⟩ := x; kernel_rfl
theorem S_clevisref05Same {F_clevisref01Same : FT ps_clevisref01Same qs_clevisref01Same} (h_clevisref01Same : SpecOk Try.prog 22 (mkS ps_clevisref01Same qs_clevisref01Same F_clevisref01Same)) : SpecOk Try.prog 19 (mkS ps_clevisref05Same qs_clevisref05Same (N_clevisref05Same F_clevisref01Same W.big)) :=
  specOk_mk (fl := W.big) (d := 12) (cfgOk_cons base h_clevisref01Same) (fun R x k => Q_clevisref05Same W.big R x k)
noncomputable def F_clevisref05Same : FT ps_clevisref05Same qs_clevisref05Same := N_clevisref05Same F_clevisref01Same W.big
theorem ok_clevisref05Same : SpecOk Try.prog 19 (mkS ps_clevisref05Same qs_clevisref05Same F_clevisref05Same) := S_clevisref05Same ok_clevisref01Same
abbrev ps_clevislaw05HelperDoes : List PT := [.agg ((.prod ((.prod (.int .i64) (.bool))) (.slice ((.prod (.int .i64) (.bool)))))), .one (.slice (.slice (.int .u8))), .one (.int .i64), .one (.slice (.int .u64)), .one (.slice (.int .u64))]
noncomputable def L_clevislaw05HelperDoes (F_helper_Do : FT ps_helper_Do qs_helper_Do) (F_clevislaw05heads : FT ps_clevislaw05heads qs_clevislaw05heads) (F_clevisref02Copy : FT ps_clevisref02Copy qs_clevisref02Copy) (F_clevisref05Do : FT ps_clevisref05Do qs_clevisref05Do) (F_clevisref02Same : FT ps_clevisref02Same qs_clevisref02Same) (F_clevisref05Same : FT ps_clevisref05Same qs_clevisref05Same)  (x : PTs.D ps_clevislaw05HelperDoes) : Option Unit := match x with
  | (((x0Context_Size, x0Context_Write), x0Maps), x1, x2, x3, x4) => 
      F_clevisref02Copy Unit x1 fun y =>
        F_helper_Do Unit (((x0Context_Size, x0Context_Write), x0Maps), y, x2, x3, x4) fun y_1 =>
          F_clevisref05Do Unit (((x0Context_Size, x0Context_Write), x0Maps), x1, x2, x3, x4) fun y_2 =>
            br (W.eq y_1.1 y_2.1)
              (F_clevisref02Same Unit (y_1.2.1, y_2.2.1) fun y_3 =>
                br (W.pick true y_3 false)
                  (F_clevisref05Same Unit ([(y_1.2.2.1.1, y_1.2.2.1.2.1, y_1.2.2.1.2.2)], [(y_2.2.2.1.1, y_2.2.2.1.2.1, y_2.2.2.1.2.2)]) fun y_4 =>
                    br (W.pick (W.pick true y_4 false) (W.eq y_1.2.2.2 y_2.2.2.2) false)
                      (F_clevisref02Same Unit (y, x1) fun y => br (W.pick true y false) (F_clevislaw05heads Unit () fun y => br (W.pick true y false) (some ()) none) none) none)
                  none)
              none
theorem E_clevislaw05HelperDoes {F_helper_Do : FT ps_helper_Do qs_helper_Do} {F_clevislaw05heads : FT ps_clevislaw05heads qs_clevislaw05heads} {F_clevisref02Copy : FT ps_clevisref02Copy qs_clevisref02Copy} {F_clevisref05Do : FT ps_clevisref05Do qs_clevisref05Do} {F_clevisref02Same : FT ps_clevisref02Same qs_clevisref02Same} {F_clevisref05Same : FT ps_clevisref05Same qs_clevisref05Same} (h_helper_Do : SpecOk Try.prog 9 (mkS ps_helper_Do qs_helper_Do F_helper_Do)) (h_clevislaw05heads : SpecOk Try.prog 10 (mkS ps_clevislaw05heads qs_clevislaw05heads F_clevislaw05heads)) (h_clevisref02Copy : SpecOk Try.prog 16 (mkS ps_clevisref02Copy qs_clevisref02Copy F_clevisref02Copy)) (h_clevisref05Do : SpecOk Try.prog 17 (mkS ps_clevisref05Do qs_clevisref05Do F_clevisref05Do)) (h_clevisref02Same : SpecOk Try.prog 18 (mkS ps_clevisref02Same qs_clevisref02Same F_clevisref02Same)) (h_clevisref05Same : SpecOk Try.prog 19 (mkS ps_clevisref05Same qs_clevisref05Same F_clevisref05Same)) (x : PTs.D ps_clevislaw05HelperDoes) (hL : L_clevislaw05HelperDoes F_helper_Do F_clevislaw05heads F_clevisref02Copy F_clevisref05Do F_clevisref02Same F_clevisref05Same x = some ()) :
    ∃ (C : Cfg) (fl d : Nat), CfgOk C ∧ C.P = Try.prog ∧ call C fl d 5 (encL false ps_clevislaw05HelperDoes x) [] getL = some () :=
  ⟨_, 10, 12, (cfgOk_cons (cfgOk_cons (cfgOk_cons (cfgOk_cons (cfgOk_cons (cfgOk_cons base h_clevisref05Same) h_clevisref02Same) h_clevisref05Do) h_clevisref02Copy) h_clevislaw05heads) h_helper_Do), rfl, (show _ = L_clevislaw05HelperDoes F_helper_Do F_clevislaw05heads F_clevisref02Copy F_clevisref05Do F_clevisref02Same F_clevisref05Same x by obtain ⟨⟨⟨x0Context_Size, x0Context_Write⟩, x0Maps⟩, x1, x2, x3, x4⟩ := x; kernel_rfl).trans hL⟩
abbrev ps_clevisref01Size : List PT := [.one (.int .i64)]
abbrev qs_clevisref01Size : List PT := [.one (.bool)]
noncomputable def N_clevisref01Size   : FT ps_clevisref01Size qs_clevisref01Size := fun R x k => match x with
  | x0 => 
      k (W.pick (W.pick (W.pick (W.eq x0 1) true (W.eq x0 2)) true (W.eq x0 4)) true (W.eq x0 8))
theorem S_clevisref01Size   : SpecOk Try.prog 38 (mkS ps_clevisref01Size qs_clevisref01Size (N_clevisref01Size )) :=
  specOk_mk (fl := 10) (d := 12) base (by intro R x0 k; kernel_rfl)
noncomputable def F_clevisref01Size : FT ps_clevisref01Size qs_clevisref01Size := N_clevisref01Size  
theorem ok_clevisref01Size : SpecOk Try.prog 38 (mkS ps_clevisref01Size qs_clevisref01Size F_clevisref01Size) := S_clevisref01Size 
abbrev ps_clevisref01Get : List PT := [.one (.slice (.int .u8))]
abbrev qs_clevisref01Get : List PT := [.one (.int .u64)]
noncomputable def PL_clevisref01Get_3_0  (fl : Nat)  (R : Type) (k : PTs.D qs_clevisref01Get → Option R) : LoopI R :=
  locate (Cw Try.prog [] hintsF) fl (call (Cw Try.prog [] hintsF) fl 11) 0 39 3 [] (getR qs_clevisref01Get k)
noncomputable def P_clevisref01Get_3_0  (fl : Nat)  (n : Nat) (R : Type) (y0 : List Int) (y1 : Int) (y2 : Int) (k : PTs.D qs_clevisref01Get → Option R) : Option R :=
  loopH (PL_clevisref01Get_3_0  fl  R k).body (PL_clevisref01Get_3_0  fl  R k).head n (some (
      S.mk
        [V.ro true (Ty.int IntKind.u8) y0, V.any, V.any, V.int IntKind.u64 y1, V.int IntKind.i64 y2, V.any, V.any, V.any, V.any, V.any, V.any, V.any, V.any, V.any, V.any, V.any, V.any, V.any, V.any, V.any,
          V.any, V.any, V.any, V.any, V.any, V.any, V.any]
        [] [])) (PL_clevisref01Get_3_0  fl  R k).kont
theorem P_clevisref01Get_3_0_s  (fl : Nat)  (n : Nat) (R : Type) (y0 : List Int) (y1 : Int) (y2 : Int) (k : PTs.D qs_clevisref01Get → Option R) : P_clevisref01Get_3_0  fl  (n + 1) R y0 y1 y2 k =
      br (W.pick (W.lt y2 (W.ofNat (W.len y0))) (W.lt y2 8) false)
        (br (W.and2 (W.le 0 y2) (W.lt y2 (W.ofNat (W.len y0))))
          (P_clevisref01Get_3_0 fl n R y0
            (W.wrap IntKind.u64 (W.or IntKind.u64 y1 (W.wrap IntKind.u64 (W.shl IntKind.u64 (W.wrap IntKind.u64 (W.get y0 (W.toNat y2) 0)) (W.wrap IntKind.u64 (W.wrap IntKind.i64 (W.mul 8 y2)))))))
            (W.wrap IntKind.i64 (W.add y2 1)) k)
          none)
        (k y1) := by kernel_rfl
noncomputable def N_clevisref01Get  (fl : Nat) : FT ps_clevisref01Get qs_clevisref01Get := fun R x k => match x with
  | x0 => 
      P_clevisref01Get_3_0 fl fl R x0 0 0 k
theorem Q_clevisref01Get  (fl : Nat) (R : Type) (x : PTs.D ps_clevisref01Get) (k : PTs.D qs_clevisref01Get → Option R) : call (Cw Try.prog [] hintsF) fl 12 39 (encL true ps_clevisref01Get x) [] (getR qs_clevisref01Get k) = N_clevisref01Get  fl R x k := by
  kernel_rfl
theorem S_clevisref01Get   : SpecOk Try.prog 39 (mkS ps_clevisref01Get qs_clevisref01Get (N_clevisref01Get  W.big)) :=
  specOk_mk (fl := W.big) (d := 12) base (fun R x k => Q_clevisref01Get W.big R x k)
noncomputable def F_clevisref01Get : FT ps_clevisref01Get qs_clevisref01Get := N_clevisref01Get  W.big
theorem ok_clevisref01Get : SpecOk Try.prog 39 (mkS ps_clevisref01Get qs_clevisref01Get F_clevisref01Get) := S_clevisref01Get 
abbrev ps_clevisref02Load : List PT := [.agg ((.prod ((.prod (.int .i64) (.bool))) (.slice ((.prod (.int .i64) (.bool)))))), .one (.slice (.slice (.int .u8))), .one (.int .u64), .one (.int .i64)]
abbrev qs_clevisref02Load : List PT := [.one (.int .u64), .one (.int .i64)]
noncomputable def N_clevisref02Load (F_clevisref02Bytes : FT ps_clevisref02Bytes qs_clevisref02Bytes) (F_clevisref01Size : FT ps_clevisref01Size qs_clevisref01Size) (F_clevisref01Get : FT ps_clevisref01Get qs_clevisref01Get)  : FT ps_clevisref02Load qs_clevisref02Load := fun R x k => match x with
  | (((x0Context_Size, x0Context_Write), x0Maps), x1, x2, x3) => 
      F_clevisref01Size R x3 fun y => br (W.not y) (k (0, 2)) (F_clevisref02Bytes R (((x0Context_Size, x0Context_Write), x0Maps), x1, x2, x3) fun y => F_clevisref01Get R y.1 fun y_1 => k (y_1, y.2))
theorem S_clevisref02Load {F_clevisref02Bytes : FT ps_clevisref02Bytes qs_clevisref02Bytes} {F_clevisref01Size : FT ps_clevisref01Size qs_clevisref01Size} {F_clevisref01Get : FT ps_clevisref01Get qs_clevisref01Get} (h_clevisref02Bytes : SpecOk Try.prog 21 (mkS ps_clevisref02Bytes qs_clevisref02Bytes F_clevisref02Bytes)) (h_clevisref01Size : SpecOk Try.prog 38 (mkS ps_clevisref01Size qs_clevisref01Size F_clevisref01Size)) (h_clevisref01Get : SpecOk Try.prog 39 (mkS ps_clevisref01Get qs_clevisref01Get F_clevisref01Get)) : SpecOk Try.prog 20 (mkS ps_clevisref02Load qs_clevisref02Load (N_clevisref02Load F_clevisref02Bytes F_clevisref01Size F_clevisref01Get)) :=
  specOk_mk (fl := 10) (d := 12) (cfgOk_cons (cfgOk_cons (cfgOk_cons base h_clevisref01Get) h_clevisref01Size) h_clevisref02Bytes) (by rintro R ⟨⟨⟨x0Context_Size, x0Context_Write⟩, x0Maps⟩, x1, x2, x3⟩ k; kernel_rfl)
noncomputable def F_clevisref02Load : FT ps_clevisref02Load qs_clevisref02Load := N_clevisref02Load F_clevisref02Bytes F_clevisref01Size F_clevisref01Get 
theorem ok_clevisref02Load : SpecOk Try.prog 20 (mkS ps_clevisref02Load qs_clevisref02Load F_clevisref02Load) := S_clevisref02Load ok_clevisref02Bytes ok_clevisref01Size ok_clevisref01Get
abbrev ps_clevislaw05HelperKeeps : List PT := [.agg ((.prod ((.prod (.int .i64) (.bool))) (.slice ((.prod (.int .i64) (.bool)))))), .one (.slice (.slice (.int .u8))), .one (.int .i64), .one (.slice (.int .u64)), .one (.slice (.int .u64)), .one (.int .u64)]
noncomputable def L_clevislaw05HelperKeeps (F_helper_Spans : FT ps_helper_Spans qs_helper_Spans) (F_helper_Do : FT ps_helper_Do qs_helper_Do) (F_clevislaw05heads : FT ps_clevislaw05heads qs_clevislaw05heads) (F_clevisref02Same : FT ps_clevisref02Same qs_clevisref02Same) (F_clevisref02Load : FT ps_clevisref02Load qs_clevisref02Load)  (x : PTs.D ps_clevislaw05HelperKeeps) : Option Unit := match x with
  | (((x0Context_Size, x0Context_Write), x0Maps), x1, x2, x3, x4, x5) => 
      F_helper_Do Unit (((x0Context_Size, x0Context_Write), x0Maps), x1, x2, x3, x4) fun y =>
        br (W.ne y.2.2.2 0) (br (W.pick (W.eq (W.ofNat (W.len y.2.1)) 0) (W.eq y.2.2.1.1 0) false) (F_clevislaw05heads Unit () fun y => br (W.pick true y false) (some ()) none) none)
          (F_helper_Spans Unit (x2, x3) fun y_1 =>
            F_clevisref02Load Unit (((x0Context_Size, x0Context_Write), x0Maps), x1, x5, 1) fun y_2 =>
              F_clevisref02Load Unit (((x0Context_Size, x0Context_Write), x0Maps), y.2.1, x5, 1) fun y_3 =>
                br
                  (W.and2
                    (W.pick
                      (W.pick (W.eq y_2.2 y_3.2) (W.pick (W.eq y_2.1 y_3.1) true (W.pick (W.ge x5 y_1.2.1.1) (W.lt (W.wrap IntKind.u64 (W.sub x5 y_1.2.1.1)) (W.wrap IntKind.u64 y_1.2.1.2)) false)) false)
                      (W.eq y.2.2.1.1 x2) false)
                    (W.not (W.eq x2 4)))
                  (F_clevisref02Same Unit (x1, y.2.1) fun y_4 =>
                    br
                      (W.pick
                        (W.pick
                          (W.pick (W.eq y_2.2 y_3.2) (W.pick (W.eq y_2.1 y_3.1) true (W.pick (W.ge x5 y_1.2.1.1) (W.lt (W.wrap IntKind.u64 (W.sub x5 y_1.2.1.1)) (W.wrap IntKind.u64 y_1.2.1.2)) false))
                            false)
                          (W.eq y.2.2.1.1 x2) false)
                        (W.pick (W.eq x2 4) true y_4) false)
                      (F_clevislaw05heads Unit () fun y => br (W.pick true y false) (some ()) none) none)
                  (br
                    (W.pick
                      (W.pick (W.eq y_2.2 y_3.2) (W.pick (W.eq y_2.1 y_3.1) true (W.pick (W.ge x5 y_1.2.1.1) (W.lt (W.wrap IntKind.u64 (W.sub x5 y_1.2.1.1)) (W.wrap IntKind.u64 y_1.2.1.2)) false)) false)
                      (W.eq y.2.2.1.1 x2) false)
                    (br (W.eq x2 4) (F_clevislaw05heads Unit () fun y => br (W.pick true y false) (some ()) none) none) none))
theorem E_clevislaw05HelperKeeps {F_helper_Spans : FT ps_helper_Spans qs_helper_Spans} {F_helper_Do : FT ps_helper_Do qs_helper_Do} {F_clevislaw05heads : FT ps_clevislaw05heads qs_clevislaw05heads} {F_clevisref02Same : FT ps_clevisref02Same qs_clevisref02Same} {F_clevisref02Load : FT ps_clevisref02Load qs_clevisref02Load} (h_helper_Spans : SpecOk Try.prog 13 (mkS ps_helper_Spans qs_helper_Spans F_helper_Spans)) (h_helper_Do : SpecOk Try.prog 9 (mkS ps_helper_Do qs_helper_Do F_helper_Do)) (h_clevislaw05heads : SpecOk Try.prog 10 (mkS ps_clevislaw05heads qs_clevislaw05heads F_clevislaw05heads)) (h_clevisref02Same : SpecOk Try.prog 18 (mkS ps_clevisref02Same qs_clevisref02Same F_clevisref02Same)) (h_clevisref02Load : SpecOk Try.prog 20 (mkS ps_clevisref02Load qs_clevisref02Load F_clevisref02Load)) (x : PTs.D ps_clevislaw05HelperKeeps) (hL : L_clevislaw05HelperKeeps F_helper_Spans F_helper_Do F_clevislaw05heads F_clevisref02Same F_clevisref02Load x = some ()) :
    ∃ (C : Cfg) (fl d : Nat), CfgOk C ∧ C.P = Try.prog ∧ call C fl d 6 (encL false ps_clevislaw05HelperKeeps x) [] getL = some () :=
  ⟨_, 10, 12, (cfgOk_cons (cfgOk_cons (cfgOk_cons (cfgOk_cons (cfgOk_cons base h_clevisref02Load) h_clevisref02Same) h_clevislaw05heads) h_helper_Do) h_helper_Spans), rfl, (show _ = L_clevislaw05HelperKeeps F_helper_Spans F_helper_Do F_clevislaw05heads F_clevisref02Same F_clevisref02Load x by obtain ⟨⟨⟨x0Context_Size, x0Context_Write⟩, x0Maps⟩, x1, x2, x3, x4, x5⟩ := x; kernel_rfl).trans hL⟩
abbrev ps_clevislaw05HelperSends : List PT := [.agg ((.prod ((.prod (.int .i64) (.bool))) (.slice ((.prod (.int .i64) (.bool)))))), .one (.slice (.slice (.int .u8))), .one (.int .u64), .one (.int .u64)]
noncomputable def L_clevislaw05HelperSends (F_helper_Do : FT ps_helper_Do qs_helper_Do) (F_clevislaw05heads : FT ps_clevislaw05heads qs_clevislaw05heads) (F_clevisref02Bytes : FT ps_clevisref02Bytes qs_clevisref02Bytes) (F_clevisref01Same : FT ps_clevisref01Same qs_clevisref01Same)  (x : PTs.D ps_clevislaw05HelperSends) : Option Unit := match x with
  | (((x0Context_Size, x0Context_Write), x0Maps), x1, x2, x3) => 
      F_helper_Do Unit (((x0Context_Size, x0Context_Write), x0Maps), x1, 3, [x2, x3], []) fun y =>
        br (W.ne y.2.2.2 0) (F_clevislaw05heads Unit () fun y => br y (some ()) none)
          (F_clevisref02Bytes Unit (((x0Context_Size, x0Context_Write), x0Maps), x1, x2, W.wrap IntKind.i64 x3) fun y_1 =>
            br (W.eq y_1.2 0)
              (F_clevisref01Same Unit (y.2.2.1.2.2, y_1.1) fun y_2 =>
                br (W.or2 (W.not (W.pick (W.pick true y_2 false) (W.eq (W.ofNat (W.len y.2.2.1.2.1)) 2) false)) (W.and2 true (W.lt 0 (W.ofNat (W.len y.2.2.1.2.1)))))
                  (br
                    (W.or2 (W.not (W.pick (W.pick (W.pick true y_2 false) (W.eq (W.ofNat (W.len y.2.2.1.2.1)) 2) false) (W.eq (W.get y.2.2.1.2.1 0 0) 0) false))
                      (W.and2 true (W.lt 1 (W.ofNat (W.len y.2.2.1.2.1)))))
                    (br
                      (W.pick
                        (W.pick (W.pick (W.pick (W.pick (W.pick true y_2 false) (W.eq (W.ofNat (W.len y.2.2.1.2.1)) 2) false) (W.eq (W.get y.2.2.1.2.1 0 0) 0) false) (W.eq (W.get y.2.2.1.2.1 1 0) x3) false)
                          (W.ge x3 1) false)
                        (W.le x3 64) false)
                      (F_clevislaw05heads Unit () fun y => br (W.pick true y false) (some ()) none) none)
                    none)
                  none)
              (br (W.or2 (W.not false) (W.and2 true (W.lt 0 (W.ofNat (W.len y.2.2.1.2.1))))) (br (W.or2 (W.not false) (W.and2 true (W.lt 1 (W.ofNat (W.len y.2.2.1.2.1))))) none none) none))
theorem E_clevislaw05HelperSends {F_helper_Do : FT ps_helper_Do qs_helper_Do} {F_clevislaw05heads : FT ps_clevislaw05heads qs_clevislaw05heads} {F_clevisref02Bytes : FT ps_clevisref02Bytes qs_clevisref02Bytes} {F_clevisref01Same : FT ps_clevisref01Same qs_clevisref01Same} (h_helper_Do : SpecOk Try.prog 9 (mkS ps_helper_Do qs_helper_Do F_helper_Do)) (h_clevislaw05heads : SpecOk Try.prog 10 (mkS ps_clevislaw05heads qs_clevislaw05heads F_clevislaw05heads)) (h_clevisref02Bytes : SpecOk Try.prog 21 (mkS ps_clevisref02Bytes qs_clevisref02Bytes F_clevisref02Bytes)) (h_clevisref01Same : SpecOk Try.prog 22 (mkS ps_clevisref01Same qs_clevisref01Same F_clevisref01Same)) (x : PTs.D ps_clevislaw05HelperSends) (hL : L_clevislaw05HelperSends F_helper_Do F_clevislaw05heads F_clevisref02Bytes F_clevisref01Same x = some ()) :
    ∃ (C : Cfg) (fl d : Nat), CfgOk C ∧ C.P = Try.prog ∧ call C fl d 7 (encL false ps_clevislaw05HelperSends x) [] getL = some () :=
  ⟨_, 10, 12, (cfgOk_cons (cfgOk_cons (cfgOk_cons (cfgOk_cons base h_clevisref01Same) h_clevisref02Bytes) h_clevislaw05heads) h_helper_Do), rfl, (show _ = L_clevislaw05HelperSends F_helper_Do F_clevislaw05heads F_clevisref02Bytes F_clevisref01Same x by obtain ⟨⟨⟨x0Context_Size, x0Context_Write⟩, x0Maps⟩, x1, x2, x3⟩ := x; kernel_rfl).trans hL⟩
end Go.Proofs.Ytkgoajomlglkcaa
