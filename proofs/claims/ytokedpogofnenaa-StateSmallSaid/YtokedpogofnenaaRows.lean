/-
  No cell of these rows narrows 'for every input' (looked for: loops, veiled, ifaces, maps, wideKeys, modest, calm, conditions, laid).
  DERIVED. THE GIVEN ROWS OF THIS SEAT. 5 by the template 'for every input the law returns true; each argument reads behind the call as it read before'; 0 by the template 'total and deterministic' (their statements: YtokedpogofnenaaTotals.lean).
  GIVEN WITH THE SEED: the statements are not yours to turn. If you find one false, say at which input.
  Laid BY PROGRAM, IN A SANDBOX (cutbox-rows.mjs): the forced cells as the released guide's own fill.sh prints them over the translation 38d484fe94a99ff8… (all of the seat's roots in one cut). By AI agents, Wed Nov 11 2026. No macro, syntax, notation, axiom, sorry.
-/
import Derived.Test.YtokedpogofnenaaChecked
import GoSem.Claim
import GoSem.ClaimJoined
import GoSem.ClaimMapViews
import Derived.JoinedTies
import Derived.KernelRfl
namespace Go.Proofs.Ytokedpogofnenaa
/- THE CELL 'sum', in the pinned program and in every row, IS THE sha256 OF THE DUMP (.gsa) THAT YtokedpogofnenaaProg.lean LOADS. Nothing in Lean hashes anything: it is a label: what it is worth is what the hold of that sum in a sandbox is worth. -/
noncomputable def Try.pinned : Pinned := { name := "ytokedpogofnenaa", sum := "38d484fe94a99ff871fe701484152571166eda71a742cdd3f64a55dba9a63cfe", checked := Try.checked }
namespace Rows
def none {H : Type} : Left H := { results := [], args := [] }

/-- 'clevislaw11.StateSmall': WHATEVER THE INPUT: true; the input reads as it did. -/
def stateSmallSpec : ChangeSpec := { name := "stateSmall", fn := fun _ => fun
  | [d1, d2, d3, d4] => { results := [.lit (.bool true)], args := [d1, d2, d3, d4] }
  | _ => none }
def stateSmallRow : OpenClaim := { program := "ytokedpogofnenaa", sum := "38d484fe94a99ff871fe701484152571166eda71a742cdd3f64a55dba9a63cfe", func := "clevis/clevislaw11.StateSmall", spec := "stateSmall", unfollowed := true, recurses := true, apart := false }
def StateSmallSaid : Prop := stateSmallRow.holds Try.pinned (OpenSpec.ofChange stateSmallSpec)

/-- ITS FALSE NEIGHBOUR: 'it returns false'. Refute it at one input. -/
def stateSmallWrong : ChangeSpec := { name := "stateSmall", fn := fun _ => fun
  | [d1, d2, d3, d4] => { results := [.lit (.bool false)], args := [d1, d2, d3, d4] }
  | _ => none }
def StateSmallWrongFalsely : Prop := stateSmallRow.holds Try.pinned (OpenSpec.ofChange stateSmallWrong)

/-- 'clevislaw11.StateBack': WHATEVER THE INPUT: true; the input reads as it did. -/
def stateBackSpec : ChangeSpec := { name := "stateBack", fn := fun _ => fun
  | [d1, d2, d3, d4] => { results := [.lit (.bool true)], args := [d1, d2, d3, d4] }
  | _ => none }
def stateBackRow : OpenClaim := { program := "ytokedpogofnenaa", sum := "38d484fe94a99ff871fe701484152571166eda71a742cdd3f64a55dba9a63cfe", func := "clevis/clevislaw11.StateBack", spec := "stateBack", unfollowed := true, recurses := true, apart := false }
def StateBackSaid : Prop := stateBackRow.holds Try.pinned (OpenSpec.ofChange stateBackSpec)

/-- ITS FALSE NEIGHBOUR: 'it returns false'. Refute it at one input. -/
def stateBackWrong : ChangeSpec := { name := "stateBack", fn := fun _ => fun
  | [d1, d2, d3, d4] => { results := [.lit (.bool false)], args := [d1, d2, d3, d4] }
  | _ => none }
def StateBackWrongFalsely : Prop := stateBackRow.holds Try.pinned (OpenSpec.ofChange stateBackWrong)

/-- 'clevislaw11.StateOrder': WHATEVER THE INPUT: true; the input reads as it did. -/
def stateOrderSpec : ChangeSpec := { name := "stateOrder", fn := fun _ => fun
  | [d1, d2, d3] => { results := [.lit (.bool true)], args := [d1, d2, d3] }
  | _ => none }
def stateOrderRow : OpenClaim := { program := "ytokedpogofnenaa", sum := "38d484fe94a99ff871fe701484152571166eda71a742cdd3f64a55dba9a63cfe", func := "clevis/clevislaw11.StateOrder", spec := "stateOrder", unfollowed := true, recurses := true, apart := false }
def StateOrderSaid : Prop := stateOrderRow.holds Try.pinned (OpenSpec.ofChange stateOrderSpec)

/-- ITS FALSE NEIGHBOUR: 'it returns false'. Refute it at one input. -/
def stateOrderWrong : ChangeSpec := { name := "stateOrder", fn := fun _ => fun
  | [d1, d2, d3] => { results := [.lit (.bool false)], args := [d1, d2, d3] }
  | _ => none }
def StateOrderWrongFalsely : Prop := stateOrderRow.holds Try.pinned (OpenSpec.ofChange stateOrderWrong)

/-- 'clevislaw11.StateHolds': WHATEVER THE INPUT: true; the input reads as it did. -/
def stateHoldsSpec : ChangeSpec := { name := "stateHolds", fn := fun _ => fun
  | [d1, d2, d3, d4] => { results := [.lit (.bool true)], args := [d1, d2, d3, d4] }
  | _ => none }
def stateHoldsRow : OpenClaim := { program := "ytokedpogofnenaa", sum := "38d484fe94a99ff871fe701484152571166eda71a742cdd3f64a55dba9a63cfe", func := "clevis/clevislaw11.StateHolds", spec := "stateHolds", unfollowed := true, recurses := true, apart := false }
def StateHoldsSaid : Prop := stateHoldsRow.holds Try.pinned (OpenSpec.ofChange stateHoldsSpec)

/-- ITS FALSE NEIGHBOUR: 'it returns false'. Refute it at one input. -/
def stateHoldsWrong : ChangeSpec := { name := "stateHolds", fn := fun _ => fun
  | [d1, d2, d3, d4] => { results := [.lit (.bool false)], args := [d1, d2, d3, d4] }
  | _ => none }
def StateHoldsWrongFalsely : Prop := stateHoldsRow.holds Try.pinned (OpenSpec.ofChange stateHoldsWrong)

/-- 'clevislaw11.StateMoves': WHATEVER THE INPUT: true; the input reads as it did. -/
def stateMovesSpec : ChangeSpec := { name := "stateMoves", fn := fun _ => fun
  | [d1, d2, d3, d4, d5] => { results := [.lit (.bool true)], args := [d1, d2, d3, d4, d5] }
  | _ => none }
def stateMovesRow : OpenClaim := { program := "ytokedpogofnenaa", sum := "38d484fe94a99ff871fe701484152571166eda71a742cdd3f64a55dba9a63cfe", func := "clevis/clevislaw11.StateMoves", spec := "stateMoves", unfollowed := true, recurses := true, apart := false }
def StateMovesSaid : Prop := stateMovesRow.holds Try.pinned (OpenSpec.ofChange stateMovesSpec)

/-- ITS FALSE NEIGHBOUR: 'it returns false'. Refute it at one input. -/
def stateMovesWrong : ChangeSpec := { name := "stateMoves", fn := fun _ => fun
  | [d1, d2, d3, d4, d5] => { results := [.lit (.bool false)], args := [d1, d2, d3, d4, d5] }
  | _ => none }
def StateMovesWrongFalsely : Prop := stateMovesRow.holds Try.pinned (OpenSpec.ofChange stateMovesWrong)

/- THE SECOND FORM. 'bulk': how many values and letters a reading holds, each counted each time it is reached (what is shared counts as often as it is met; a slice's spare places count too). A statement '..UptoSaid' is the law's where the arguments, and the package variables that the reading takes, are together of bulk at most 1048576: NARROWER than '..Said'. Prove '..Said' where nothing that the law and all that it calls make is longer than what came in: it says more and counts as full. Else prove '..UptoSaid'. A law counts once. -/
mutual
def uptoBulk {H : Type} : DataW H → Nat
  | .lit (.string bytes) => bytes.length + 1
  | .lit _ => 1
  | .nil => 1
  | .ptr d => uptoBulk d + 1
  | .slice elems spare => uptoBulkAll elems + uptoBulkAll spare + 1
  | .agg parts => uptoBulkAll parts + 1
  | .iface _ d => uptoBulk d + 1
  | .map entries => uptoBulkEntries entries + 1
  | .held _ => 1
def uptoBulkAll {H : Type} : List (DataW H) → Nat
  | [] => 0
  | d :: r => uptoBulk d + uptoBulkAll r
def uptoBulkEntries {H : Type} : List (Lit × DataW H) → Nat
  | [] => 0
  | x :: r => uptoBulkEntry x + uptoBulkEntries r
def uptoBulkEntry {H : Type} : Lit × DataW H → Nat
  | (.string bytes, d) => bytes.length + uptoBulk d + 1
  | (_, d) => uptoBulk d + 1
 end
def uptoSmall : (H : Type) → List (DataW H) → Bool := fun _ ds => decide (uptoBulkAll ds ≤ 1048576)
def OpenSpec.upto (s : _root_.Go.ChangeSpec) : _root_.Go.OpenSpec := { _root_.Go.OpenSpec.ofChange s with cond := some uptoSmall }

/-- 'clevislaw11.StateSmall', WHERE WHAT IT READS IS OF BULK AT MOST 1048576: true; the input reads as it did. -/
def stateSmallUptoRow : OpenClaim := { program := "ytokedpogofnenaa", sum := "38d484fe94a99ff871fe701484152571166eda71a742cdd3f64a55dba9a63cfe", func := "clevis/clevislaw11.StateSmall", spec := "stateSmall", unfollowed := true, recurses := true, apart := false, narrowed := true }
def StateSmallUptoSaid : Prop := stateSmallUptoRow.holds Try.pinned (OpenSpec.upto stateSmallSpec)

/-- 'clevislaw11.StateBack', WHERE WHAT IT READS IS OF BULK AT MOST 1048576: true; the input reads as it did. -/
def stateBackUptoRow : OpenClaim := { program := "ytokedpogofnenaa", sum := "38d484fe94a99ff871fe701484152571166eda71a742cdd3f64a55dba9a63cfe", func := "clevis/clevislaw11.StateBack", spec := "stateBack", unfollowed := true, recurses := true, apart := false, narrowed := true }
def StateBackUptoSaid : Prop := stateBackUptoRow.holds Try.pinned (OpenSpec.upto stateBackSpec)

/-- 'clevislaw11.StateOrder', WHERE WHAT IT READS IS OF BULK AT MOST 1048576: true; the input reads as it did. -/
def stateOrderUptoRow : OpenClaim := { program := "ytokedpogofnenaa", sum := "38d484fe94a99ff871fe701484152571166eda71a742cdd3f64a55dba9a63cfe", func := "clevis/clevislaw11.StateOrder", spec := "stateOrder", unfollowed := true, recurses := true, apart := false, narrowed := true }
def StateOrderUptoSaid : Prop := stateOrderUptoRow.holds Try.pinned (OpenSpec.upto stateOrderSpec)

/-- 'clevislaw11.StateHolds', WHERE WHAT IT READS IS OF BULK AT MOST 1048576: true; the input reads as it did. -/
def stateHoldsUptoRow : OpenClaim := { program := "ytokedpogofnenaa", sum := "38d484fe94a99ff871fe701484152571166eda71a742cdd3f64a55dba9a63cfe", func := "clevis/clevislaw11.StateHolds", spec := "stateHolds", unfollowed := true, recurses := true, apart := false, narrowed := true }
def StateHoldsUptoSaid : Prop := stateHoldsUptoRow.holds Try.pinned (OpenSpec.upto stateHoldsSpec)

/-- 'clevislaw11.StateMoves', WHERE WHAT IT READS IS OF BULK AT MOST 1048576: true; the input reads as it did. -/
def stateMovesUptoRow : OpenClaim := { program := "ytokedpogofnenaa", sum := "38d484fe94a99ff871fe701484152571166eda71a742cdd3f64a55dba9a63cfe", func := "clevis/clevislaw11.StateMoves", spec := "stateMoves", unfollowed := true, recurses := true, apart := false, narrowed := true }
def StateMovesUptoSaid : Prop := stateMovesUptoRow.holds Try.pinned (OpenSpec.upto stateMovesSpec)

end Rows
end Go.Proofs.Ytokedpogofnenaa
