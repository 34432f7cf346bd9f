/-
  No cell of these rows narrows 'for every input' (looked for: loops, veiled, ifaces, maps, wideKeys, modest, calm, conditions, laid).
  DERIVED. THE GIVEN ROWS OF THIS SEAT. 6 by the template 'for every input the law returns true; each argument reads behind the call as it read before'; 0 by the template 'total and deterministic' (their statements: YtjmddbakkghacaaTotals.lean).
  GIVEN WITH THE SEED: the statements are not yours to turn. If you find one false, say at which input.
  Laid BY PROGRAM, IN A SANDBOX (cutbox-rows.mjs): the forced cells as the released guide's own fill.sh prints them over the translation 6b6415c6c0fea506… (all of the seat's roots in one cut). By AI agents, Wed Nov 11 2026. No macro, syntax, notation, axiom, sorry.
-/
import Derived.Test.YtjmddbakkghacaaChecked
import GoSem.Claim
import GoSem.ClaimJoined
import GoSem.ClaimMapViews
import Derived.JoinedTies
import Derived.KernelRfl
namespace Go.Proofs.Ytjmddbakkghacaa
/- THE CELL 'sum', in the pinned program and in every row, IS THE sha256 OF THE DUMP (.gsa) THAT YtjmddbakkghacaaProg.lean LOADS. Nothing in Lean hashes anything: it is a label: what it is worth is what the hold of that sum in a sandbox is worth. -/
noncomputable def Try.pinned : Pinned := { name := "ytjmddbakkghacaa", sum := "6b6415c6c0fea506c3d9d899e2d37caabab89c808dc91d93344f4ac10445817b", checked := Try.checked }
namespace Rows
def none {H : Type} : Left H := { results := [], args := [] }

/-- 'clevislaw10.BranchConst': WHATEVER THE INPUT: true; the input reads as it did. -/
def branchConstSpec : ChangeSpec := { name := "branchConst", fn := fun _ => fun
  | [d1, d2, d3, d4] => { results := [.lit (.bool true)], args := [d1, d2, d3, d4] }
  | _ => none }
def branchConstRow : OpenClaim := { program := "ytjmddbakkghacaa", sum := "6b6415c6c0fea506c3d9d899e2d37caabab89c808dc91d93344f4ac10445817b", func := "clevis/clevislaw10.BranchConst", spec := "branchConst", unfollowed := true, recurses := true, apart := false }
def BranchConstSaid : Prop := branchConstRow.holds Try.pinned (OpenSpec.ofChange branchConstSpec)

/-- ITS FALSE NEIGHBOUR: 'it returns false'. Refute it at one input. -/
def branchConstWrong : ChangeSpec := { name := "branchConst", fn := fun _ => fun
  | [d1, d2, d3, d4] => { results := [.lit (.bool false)], args := [d1, d2, d3, d4] }
  | _ => none }
def BranchConstWrongFalsely : Prop := branchConstRow.holds Try.pinned (OpenSpec.ofChange branchConstWrong)

/-- 'clevislaw10.BranchRefines': WHATEVER THE INPUT: true; the input reads as it did. -/
def branchRefinesSpec : ChangeSpec := { name := "branchRefines", fn := fun _ => fun
  | [d1, d2, d3, d4, d5] => { results := [.lit (.bool true)], args := [d1, d2, d3, d4, d5] }
  | _ => none }
def branchRefinesRow : OpenClaim := { program := "ytjmddbakkghacaa", sum := "6b6415c6c0fea506c3d9d899e2d37caabab89c808dc91d93344f4ac10445817b", func := "clevis/clevislaw10.BranchRefines", spec := "branchRefines", unfollowed := true, recurses := true, apart := false }
def BranchRefinesSaid : Prop := branchRefinesRow.holds Try.pinned (OpenSpec.ofChange branchRefinesSpec)

/-- ITS FALSE NEIGHBOUR: 'it returns false'. Refute it at one input. -/
def branchRefinesWrong : ChangeSpec := { name := "branchRefines", fn := fun _ => fun
  | [d1, d2, d3, d4, d5] => { results := [.lit (.bool false)], args := [d1, d2, d3, d4, d5] }
  | _ => none }
def BranchRefinesWrongFalsely : Prop := branchRefinesRow.holds Try.pinned (OpenSpec.ofChange branchRefinesWrong)

/-- 'clevislaw10.BranchSound': WHATEVER THE INPUT: true; the input reads as it did. -/
def branchSoundSpec : ChangeSpec := { name := "branchSound", fn := fun _ => fun
  | [d1, d2, d3, d4, d5, d6] => { results := [.lit (.bool true)], args := [d1, d2, d3, d4, d5, d6] }
  | _ => none }
def branchSoundRow : OpenClaim := { program := "ytjmddbakkghacaa", sum := "6b6415c6c0fea506c3d9d899e2d37caabab89c808dc91d93344f4ac10445817b", func := "clevis/clevislaw10.BranchSound", spec := "branchSound", unfollowed := true, recurses := true, apart := false }
def BranchSoundSaid : Prop := branchSoundRow.holds Try.pinned (OpenSpec.ofChange branchSoundSpec)

/-- ITS FALSE NEIGHBOUR: 'it returns false'. Refute it at one input. -/
def branchSoundWrong : ChangeSpec := { name := "branchSound", fn := fun _ => fun
  | [d1, d2, d3, d4, d5, d6] => { results := [.lit (.bool false)], args := [d1, d2, d3, d4, d5, d6] }
  | _ => none }
def BranchSoundWrongFalsely : Prop := branchSoundRow.holds Try.pinned (OpenSpec.ofChange branchSoundWrong)

/-- 'clevislaw10.BranchNarrow': WHATEVER THE INPUT: true; the input reads as it did. -/
def branchNarrowSpec : ChangeSpec := { name := "branchNarrow", fn := fun _ => fun
  | [d1, d2, d3, d4, d5, d6] => { results := [.lit (.bool true)], args := [d1, d2, d3, d4, d5, d6] }
  | _ => none }
def branchNarrowRow : OpenClaim := { program := "ytjmddbakkghacaa", sum := "6b6415c6c0fea506c3d9d899e2d37caabab89c808dc91d93344f4ac10445817b", func := "clevis/clevislaw10.BranchNarrow", spec := "branchNarrow", unfollowed := true, recurses := true, apart := false }
def BranchNarrowSaid : Prop := branchNarrowRow.holds Try.pinned (OpenSpec.ofChange branchNarrowSpec)

/-- ITS FALSE NEIGHBOUR: 'it returns false'. Refute it at one input. -/
def branchNarrowWrong : ChangeSpec := { name := "branchNarrow", fn := fun _ => fun
  | [d1, d2, d3, d4, d5, d6] => { results := [.lit (.bool false)], args := [d1, d2, d3, d4, d5, d6] }
  | _ => none }
def BranchNarrowWrongFalsely : Prop := branchNarrowRow.holds Try.pinned (OpenSpec.ofChange branchNarrowWrong)

/-- 'clevislaw10.BranchOpposite': WHATEVER THE INPUT: true; the input reads as it did. -/
def branchOppositeSpec : ChangeSpec := { name := "branchOpposite", fn := fun _ => fun
  | [d1, d2, d3, d4] => { results := [.lit (.bool true)], args := [d1, d2, d3, d4] }
  | _ => none }
def branchOppositeRow : OpenClaim := { program := "ytjmddbakkghacaa", sum := "6b6415c6c0fea506c3d9d899e2d37caabab89c808dc91d93344f4ac10445817b", func := "clevis/clevislaw10.BranchOpposite", spec := "branchOpposite", unfollowed := true, recurses := true, apart := false }
def BranchOppositeSaid : Prop := branchOppositeRow.holds Try.pinned (OpenSpec.ofChange branchOppositeSpec)

/-- ITS FALSE NEIGHBOUR: 'it returns false'. Refute it at one input. -/
def branchOppositeWrong : ChangeSpec := { name := "branchOpposite", fn := fun _ => fun
  | [d1, d2, d3, d4] => { results := [.lit (.bool false)], args := [d1, d2, d3, d4] }
  | _ => none }
def BranchOppositeWrongFalsely : Prop := branchOppositeRow.holds Try.pinned (OpenSpec.ofChange branchOppositeWrong)

/-- 'clevislaw10.BranchTurns': WHATEVER THE INPUT: true; the input reads as it did. -/
def branchTurnsSpec : ChangeSpec := { name := "branchTurns", fn := fun _ => fun
  | [d1, d2, d3, d4] => { results := [.lit (.bool true)], args := [d1, d2, d3, d4] }
  | _ => none }
def branchTurnsRow : OpenClaim := { program := "ytjmddbakkghacaa", sum := "6b6415c6c0fea506c3d9d899e2d37caabab89c808dc91d93344f4ac10445817b", func := "clevis/clevislaw10.BranchTurns", spec := "branchTurns", unfollowed := true, recurses := true, apart := false }
def BranchTurnsSaid : Prop := branchTurnsRow.holds Try.pinned (OpenSpec.ofChange branchTurnsSpec)

/-- ITS FALSE NEIGHBOUR: 'it returns false'. Refute it at one input. -/
def branchTurnsWrong : ChangeSpec := { name := "branchTurns", fn := fun _ => fun
  | [d1, d2, d3, d4] => { results := [.lit (.bool false)], args := [d1, d2, d3, d4] }
  | _ => none }
def BranchTurnsWrongFalsely : Prop := branchTurnsRow.holds Try.pinned (OpenSpec.ofChange branchTurnsWrong)

/- THE SECOND FORM. 'bulk': how many values and letters a reading holds, each counted each time it is reached (what is shared counts as often as it is met; a slice's spare places count too). A statement '..UptoSaid' is the law's where the arguments, and the package variables that the reading takes, are together of bulk at most 1048576: NARROWER than '..Said'. Prove '..Said' where nothing that the law and all that it calls make is longer than what came in: it says more and counts as full. Else prove '..UptoSaid'. A law counts once. -/
mutual
def uptoBulk {H : Type} : DataW H → Nat
  | .lit (.string bytes) => bytes.length + 1
  | .lit _ => 1
  | .nil => 1
  | .ptr d => uptoBulk d + 1
  | .slice elems spare => uptoBulkAll elems + uptoBulkAll spare + 1
  | .agg parts => uptoBulkAll parts + 1
  | .iface _ d => uptoBulk d + 1
  | .map entries => uptoBulkEntries entries + 1
  | .held _ => 1
def uptoBulkAll {H : Type} : List (DataW H) → Nat
  | [] => 0
  | d :: r => uptoBulk d + uptoBulkAll r
def uptoBulkEntries {H : Type} : List (Lit × DataW H) → Nat
  | [] => 0
  | x :: r => uptoBulkEntry x + uptoBulkEntries r
def uptoBulkEntry {H : Type} : Lit × DataW H → Nat
  | (.string bytes, d) => bytes.length + uptoBulk d + 1
  | (_, d) => uptoBulk d + 1
 end
def uptoSmall : (H : Type) → List (DataW H) → Bool := fun _ ds => decide (uptoBulkAll ds ≤ 1048576)
def OpenSpec.upto (s : _root_.Go.ChangeSpec) : _root_.Go.OpenSpec := { _root_.Go.OpenSpec.ofChange s with cond := some uptoSmall }

/-- 'clevislaw10.BranchConst', WHERE WHAT IT READS IS OF BULK AT MOST 1048576: true; the input reads as it did. -/
def branchConstUptoRow : OpenClaim := { program := "ytjmddbakkghacaa", sum := "6b6415c6c0fea506c3d9d899e2d37caabab89c808dc91d93344f4ac10445817b", func := "clevis/clevislaw10.BranchConst", spec := "branchConst", unfollowed := true, recurses := true, apart := false, narrowed := true }
def BranchConstUptoSaid : Prop := branchConstUptoRow.holds Try.pinned (OpenSpec.upto branchConstSpec)

/-- 'clevislaw10.BranchRefines', WHERE WHAT IT READS IS OF BULK AT MOST 1048576: true; the input reads as it did. -/
def branchRefinesUptoRow : OpenClaim := { program := "ytjmddbakkghacaa", sum := "6b6415c6c0fea506c3d9d899e2d37caabab89c808dc91d93344f4ac10445817b", func := "clevis/clevislaw10.BranchRefines", spec := "branchRefines", unfollowed := true, recurses := true, apart := false, narrowed := true }
def BranchRefinesUptoSaid : Prop := branchRefinesUptoRow.holds Try.pinned (OpenSpec.upto branchRefinesSpec)

/-- 'clevislaw10.BranchSound', WHERE WHAT IT READS IS OF BULK AT MOST 1048576: true; the input reads as it did. -/
def branchSoundUptoRow : OpenClaim := { program := "ytjmddbakkghacaa", sum := "6b6415c6c0fea506c3d9d899e2d37caabab89c808dc91d93344f4ac10445817b", func := "clevis/clevislaw10.BranchSound", spec := "branchSound", unfollowed := true, recurses := true, apart := false, narrowed := true }
def BranchSoundUptoSaid : Prop := branchSoundUptoRow.holds Try.pinned (OpenSpec.upto branchSoundSpec)

/-- 'clevislaw10.BranchNarrow', WHERE WHAT IT READS IS OF BULK AT MOST 1048576: true; the input reads as it did. -/
def branchNarrowUptoRow : OpenClaim := { program := "ytjmddbakkghacaa", sum := "6b6415c6c0fea506c3d9d899e2d37caabab89c808dc91d93344f4ac10445817b", func := "clevis/clevislaw10.BranchNarrow", spec := "branchNarrow", unfollowed := true, recurses := true, apart := false, narrowed := true }
def BranchNarrowUptoSaid : Prop := branchNarrowUptoRow.holds Try.pinned (OpenSpec.upto branchNarrowSpec)

/-- 'clevislaw10.BranchOpposite', WHERE WHAT IT READS IS OF BULK AT MOST 1048576: true; the input reads as it did. -/
def branchOppositeUptoRow : OpenClaim := { program := "ytjmddbakkghacaa", sum := "6b6415c6c0fea506c3d9d899e2d37caabab89c808dc91d93344f4ac10445817b", func := "clevis/clevislaw10.BranchOpposite", spec := "branchOpposite", unfollowed := true, recurses := true, apart := false, narrowed := true }
def BranchOppositeUptoSaid : Prop := branchOppositeUptoRow.holds Try.pinned (OpenSpec.upto branchOppositeSpec)

/-- 'clevislaw10.BranchTurns', WHERE WHAT IT READS IS OF BULK AT MOST 1048576: true; the input reads as it did. -/
def branchTurnsUptoRow : OpenClaim := { program := "ytjmddbakkghacaa", sum := "6b6415c6c0fea506c3d9d899e2d37caabab89c808dc91d93344f4ac10445817b", func := "clevis/clevislaw10.BranchTurns", spec := "branchTurns", unfollowed := true, recurses := true, apart := false, narrowed := true }
def BranchTurnsUptoSaid : Prop := branchTurnsUptoRow.holds Try.pinned (OpenSpec.upto branchTurnsSpec)

end Rows
end Go.Proofs.Ytjmddbakkghacaa
