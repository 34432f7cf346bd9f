/-
  No cell of these rows narrows 'for every input' (looked for: loops, veiled, ifaces, maps, wideKeys, modest, calm, conditions, laid).
  DERIVED. THE GIVEN ROWS OF THIS SEAT. 7 by the template 'for every input the law returns true; each argument reads behind the call as it read before'; 0 by the template 'total and deterministic' (their statements: YtflkcceicgaipaaTotals.lean).
  GIVEN WITH THE SEED: the statements are not yours to turn. If you find one false, say at which input.
  Laid BY PROGRAM, IN A SANDBOX (cutbox-rows.mjs): the forced cells as the released guide's own fill.sh prints them over the translation 57ceb059afb4ef18… (all of the seat's roots in one cut). By AI agents, Wed Nov 11 2026. No macro, syntax, notation, axiom, sorry.
-/
import Derived.Test.YtflkcceicgaipaaChecked
import GoSem.Claim
import GoSem.ClaimJoined
import GoSem.ClaimMapViews
import Derived.JoinedTies
import Derived.KernelRfl
namespace Go.Proofs.Ytflkcceicgaipaa
/- THE CELL 'sum', in the pinned program and in every row, IS THE sha256 OF THE DUMP (.gsa) THAT YtflkcceicgaipaaProg.lean LOADS. Nothing in Lean hashes anything: it is a label: what it is worth is what the hold of that sum in a sandbox is worth. -/
noncomputable def Try.pinned : Pinned := { name := "ytflkcceicgaipaa", sum := "57ceb059afb4ef183319c4f07e8b0a3e0751d0117b8678178ee14c1d55fbc5f5", checked := Try.checked }
namespace Rows
def none {H : Type} : Left H := { results := [], args := [] }

/-- 'clevislaw08.BoundTidies': WHATEVER THE INPUT: true; the input reads as it did. -/
def boundTidiesSpec : ChangeSpec := { name := "boundTidies", fn := fun _ => fun
  | [d1, d2] => { results := [.lit (.bool true)], args := [d1, d2] }
  | _ => none }
def boundTidiesRow : OpenClaim := { program := "ytflkcceicgaipaa", sum := "57ceb059afb4ef183319c4f07e8b0a3e0751d0117b8678178ee14c1d55fbc5f5", func := "clevis/clevislaw08.BoundTidies", spec := "boundTidies", apart := false }
def BoundTidiesSaid : Prop := boundTidiesRow.holds Try.pinned (OpenSpec.ofChange boundTidiesSpec)

/-- ITS FALSE NEIGHBOUR: 'it returns false'. Refute it at one input. -/
def boundTidiesWrong : ChangeSpec := { name := "boundTidies", fn := fun _ => fun
  | [d1, d2] => { results := [.lit (.bool false)], args := [d1, d2] }
  | _ => none }
def BoundTidiesWrongFalsely : Prop := boundTidiesRow.holds Try.pinned (OpenSpec.ofChange boundTidiesWrong)

/-- 'clevislaw08.BoundAsks': WHATEVER THE INPUT: true; the input reads as it did. -/
def boundAsksSpec : ChangeSpec := { name := "boundAsks", fn := fun _ => fun
  | [d1, d2, d3, d4] => { results := [.lit (.bool true)], args := [d1, d2, d3, d4] }
  | _ => none }
def boundAsksRow : OpenClaim := { program := "ytflkcceicgaipaa", sum := "57ceb059afb4ef183319c4f07e8b0a3e0751d0117b8678178ee14c1d55fbc5f5", func := "clevis/clevislaw08.BoundAsks", spec := "boundAsks", apart := false }
def BoundAsksSaid : Prop := boundAsksRow.holds Try.pinned (OpenSpec.ofChange boundAsksSpec)

/-- ITS FALSE NEIGHBOUR: 'it returns false'. Refute it at one input. -/
def boundAsksWrong : ChangeSpec := { name := "boundAsks", fn := fun _ => fun
  | [d1, d2, d3, d4] => { results := [.lit (.bool false)], args := [d1, d2, d3, d4] }
  | _ => none }
def BoundAsksWrongFalsely : Prop := boundAsksRow.holds Try.pinned (OpenSpec.ofChange boundAsksWrong)

/-- 'clevislaw08.BoundHolds': WHATEVER THE INPUT: true; the input reads as it did. -/
def boundHoldsSpec : ChangeSpec := { name := "boundHolds", fn := fun _ => fun
  | [d1, d2, d3] => { results := [.lit (.bool true)], args := [d1, d2, d3] }
  | _ => none }
def boundHoldsRow : OpenClaim := { program := "ytflkcceicgaipaa", sum := "57ceb059afb4ef183319c4f07e8b0a3e0751d0117b8678178ee14c1d55fbc5f5", func := "clevis/clevislaw08.BoundHolds", spec := "boundHolds", apart := false }
def BoundHoldsSaid : Prop := boundHoldsRow.holds Try.pinned (OpenSpec.ofChange boundHoldsSpec)

/-- ITS FALSE NEIGHBOUR: 'it returns false'. Refute it at one input. -/
def boundHoldsWrong : ChangeSpec := { name := "boundHolds", fn := fun _ => fun
  | [d1, d2, d3] => { results := [.lit (.bool false)], args := [d1, d2, d3] }
  | _ => none }
def BoundHoldsWrongFalsely : Prop := boundHoldsRow.holds Try.pinned (OpenSpec.ofChange boundHoldsWrong)

/-- 'clevislaw08.BoundConst': WHATEVER THE INPUT: true; the input reads as it did. -/
def boundConstSpec : ChangeSpec := { name := "boundConst", fn := fun _ => fun
  | [d1, d2] => { results := [.lit (.bool true)], args := [d1, d2] }
  | _ => none }
def boundConstRow : OpenClaim := { program := "ytflkcceicgaipaa", sum := "57ceb059afb4ef183319c4f07e8b0a3e0751d0117b8678178ee14c1d55fbc5f5", func := "clevis/clevislaw08.BoundConst", spec := "boundConst", apart := false }
def BoundConstSaid : Prop := boundConstRow.holds Try.pinned (OpenSpec.ofChange boundConstSpec)

/-- ITS FALSE NEIGHBOUR: 'it returns false'. Refute it at one input. -/
def boundConstWrong : ChangeSpec := { name := "boundConst", fn := fun _ => fun
  | [d1, d2] => { results := [.lit (.bool false)], args := [d1, d2] }
  | _ => none }
def BoundConstWrongFalsely : Prop := boundConstRow.holds Try.pinned (OpenSpec.ofChange boundConstWrong)

/-- 'clevislaw08.BoundMeets': WHATEVER THE INPUT: true; the input reads as it did. -/
def boundMeetsSpec : ChangeSpec := { name := "boundMeets", fn := fun _ => fun
  | [d1, d2, d3] => { results := [.lit (.bool true)], args := [d1, d2, d3] }
  | _ => none }
def boundMeetsRow : OpenClaim := { program := "ytflkcceicgaipaa", sum := "57ceb059afb4ef183319c4f07e8b0a3e0751d0117b8678178ee14c1d55fbc5f5", func := "clevis/clevislaw08.BoundMeets", spec := "boundMeets", apart := false }
def BoundMeetsSaid : Prop := boundMeetsRow.holds Try.pinned (OpenSpec.ofChange boundMeetsSpec)

/-- ITS FALSE NEIGHBOUR: 'it returns false'. Refute it at one input. -/
def boundMeetsWrong : ChangeSpec := { name := "boundMeets", fn := fun _ => fun
  | [d1, d2, d3] => { results := [.lit (.bool false)], args := [d1, d2, d3] }
  | _ => none }
def BoundMeetsWrongFalsely : Prop := boundMeetsRow.holds Try.pinned (OpenSpec.ofChange boundMeetsWrong)

/-- 'clevislaw08.BoundLows': WHATEVER THE INPUT: true; the input reads as it did. -/
def boundLowsSpec : ChangeSpec := { name := "boundLows", fn := fun _ => fun
  | [d1, d2] => { results := [.lit (.bool true)], args := [d1, d2] }
  | _ => none }
def boundLowsRow : OpenClaim := { program := "ytflkcceicgaipaa", sum := "57ceb059afb4ef183319c4f07e8b0a3e0751d0117b8678178ee14c1d55fbc5f5", func := "clevis/clevislaw08.BoundLows", spec := "boundLows", apart := false }
def BoundLowsSaid : Prop := boundLowsRow.holds Try.pinned (OpenSpec.ofChange boundLowsSpec)

/-- ITS FALSE NEIGHBOUR: 'it returns false'. Refute it at one input. -/
def boundLowsWrong : ChangeSpec := { name := "boundLows", fn := fun _ => fun
  | [d1, d2] => { results := [.lit (.bool false)], args := [d1, d2] }
  | _ => none }
def BoundLowsWrongFalsely : Prop := boundLowsRow.holds Try.pinned (OpenSpec.ofChange boundLowsWrong)

/-- 'clevislaw08.BoundMoves': WHATEVER THE INPUT: true; the input reads as it did. -/
def boundMovesSpec : ChangeSpec := { name := "boundMoves", fn := fun _ => fun
  | [d1, d2] => { results := [.lit (.bool true)], args := [d1, d2] }
  | _ => none }
def boundMovesRow : OpenClaim := { program := "ytflkcceicgaipaa", sum := "57ceb059afb4ef183319c4f07e8b0a3e0751d0117b8678178ee14c1d55fbc5f5", func := "clevis/clevislaw08.BoundMoves", spec := "boundMoves", apart := false }
def BoundMovesSaid : Prop := boundMovesRow.holds Try.pinned (OpenSpec.ofChange boundMovesSpec)

/-- ITS FALSE NEIGHBOUR: 'it returns false'. Refute it at one input. -/
def boundMovesWrong : ChangeSpec := { name := "boundMoves", fn := fun _ => fun
  | [d1, d2] => { results := [.lit (.bool false)], args := [d1, d2] }
  | _ => none }
def BoundMovesWrongFalsely : Prop := boundMovesRow.holds Try.pinned (OpenSpec.ofChange boundMovesWrong)

/- THE SECOND FORM. 'bulk': how many values and letters a reading holds, each counted each time it is reached (what is shared counts as often as it is met; a slice's spare places count too). A statement '..UptoSaid' is the law's where the arguments, and the package variables that the reading takes, are together of bulk at most 1048576: NARROWER than '..Said'. Prove '..Said' where nothing that the law and all that it calls make is longer than what came in: it says more and counts as full. Else prove '..UptoSaid'. A law counts once. -/
mutual
def uptoBulk {H : Type} : DataW H → Nat
  | .lit (.string bytes) => bytes.length + 1
  | .lit _ => 1
  | .nil => 1
  | .ptr d => uptoBulk d + 1
  | .slice elems spare => uptoBulkAll elems + uptoBulkAll spare + 1
  | .agg parts => uptoBulkAll parts + 1
  | .iface _ d => uptoBulk d + 1
  | .map entries => uptoBulkEntries entries + 1
  | .held _ => 1
def uptoBulkAll {H : Type} : List (DataW H) → Nat
  | [] => 0
  | d :: r => uptoBulk d + uptoBulkAll r
def uptoBulkEntries {H : Type} : List (Lit × DataW H) → Nat
  | [] => 0
  | x :: r => uptoBulkEntry x + uptoBulkEntries r
def uptoBulkEntry {H : Type} : Lit × DataW H → Nat
  | (.string bytes, d) => bytes.length + uptoBulk d + 1
  | (_, d) => uptoBulk d + 1
 end
def uptoSmall : (H : Type) → List (DataW H) → Bool := fun _ ds => decide (uptoBulkAll ds ≤ 1048576)
def OpenSpec.upto (s : _root_.Go.ChangeSpec) : _root_.Go.OpenSpec := { _root_.Go.OpenSpec.ofChange s with cond := some uptoSmall }

/-- 'clevislaw08.BoundTidies', WHERE WHAT IT READS IS OF BULK AT MOST 1048576: true; the input reads as it did. -/
def boundTidiesUptoRow : OpenClaim := { program := "ytflkcceicgaipaa", sum := "57ceb059afb4ef183319c4f07e8b0a3e0751d0117b8678178ee14c1d55fbc5f5", func := "clevis/clevislaw08.BoundTidies", spec := "boundTidies", apart := false, narrowed := true }
def BoundTidiesUptoSaid : Prop := boundTidiesUptoRow.holds Try.pinned (OpenSpec.upto boundTidiesSpec)

/-- 'clevislaw08.BoundAsks', WHERE WHAT IT READS IS OF BULK AT MOST 1048576: true; the input reads as it did. -/
def boundAsksUptoRow : OpenClaim := { program := "ytflkcceicgaipaa", sum := "57ceb059afb4ef183319c4f07e8b0a3e0751d0117b8678178ee14c1d55fbc5f5", func := "clevis/clevislaw08.BoundAsks", spec := "boundAsks", apart := false, narrowed := true }
def BoundAsksUptoSaid : Prop := boundAsksUptoRow.holds Try.pinned (OpenSpec.upto boundAsksSpec)

/-- 'clevislaw08.BoundHolds', WHERE WHAT IT READS IS OF BULK AT MOST 1048576: true; the input reads as it did. -/
def boundHoldsUptoRow : OpenClaim := { program := "ytflkcceicgaipaa", sum := "57ceb059afb4ef183319c4f07e8b0a3e0751d0117b8678178ee14c1d55fbc5f5", func := "clevis/clevislaw08.BoundHolds", spec := "boundHolds", apart := false, narrowed := true }
def BoundHoldsUptoSaid : Prop := boundHoldsUptoRow.holds Try.pinned (OpenSpec.upto boundHoldsSpec)

/-- 'clevislaw08.BoundConst', WHERE WHAT IT READS IS OF BULK AT MOST 1048576: true; the input reads as it did. -/
def boundConstUptoRow : OpenClaim := { program := "ytflkcceicgaipaa", sum := "57ceb059afb4ef183319c4f07e8b0a3e0751d0117b8678178ee14c1d55fbc5f5", func := "clevis/clevislaw08.BoundConst", spec := "boundConst", apart := false, narrowed := true }
def BoundConstUptoSaid : Prop := boundConstUptoRow.holds Try.pinned (OpenSpec.upto boundConstSpec)

/-- 'clevislaw08.BoundMeets', WHERE WHAT IT READS IS OF BULK AT MOST 1048576: true; the input reads as it did. -/
def boundMeetsUptoRow : OpenClaim := { program := "ytflkcceicgaipaa", sum := "57ceb059afb4ef183319c4f07e8b0a3e0751d0117b8678178ee14c1d55fbc5f5", func := "clevis/clevislaw08.BoundMeets", spec := "boundMeets", apart := false, narrowed := true }
def BoundMeetsUptoSaid : Prop := boundMeetsUptoRow.holds Try.pinned (OpenSpec.upto boundMeetsSpec)

/-- 'clevislaw08.BoundLows', WHERE WHAT IT READS IS OF BULK AT MOST 1048576: true; the input reads as it did. -/
def boundLowsUptoRow : OpenClaim := { program := "ytflkcceicgaipaa", sum := "57ceb059afb4ef183319c4f07e8b0a3e0751d0117b8678178ee14c1d55fbc5f5", func := "clevis/clevislaw08.BoundLows", spec := "boundLows", apart := false, narrowed := true }
def BoundLowsUptoSaid : Prop := boundLowsUptoRow.holds Try.pinned (OpenSpec.upto boundLowsSpec)

/-- 'clevislaw08.BoundMoves', WHERE WHAT IT READS IS OF BULK AT MOST 1048576: true; the input reads as it did. -/
def boundMovesUptoRow : OpenClaim := { program := "ytflkcceicgaipaa", sum := "57ceb059afb4ef183319c4f07e8b0a3e0751d0117b8678178ee14c1d55fbc5f5", func := "clevis/clevislaw08.BoundMoves", spec := "boundMoves", apart := false, narrowed := true }
def BoundMovesUptoSaid : Prop := boundMovesUptoRow.holds Try.pinned (OpenSpec.upto boundMovesSpec)

end Rows
end Go.Proofs.Ytflkcceicgaipaa
