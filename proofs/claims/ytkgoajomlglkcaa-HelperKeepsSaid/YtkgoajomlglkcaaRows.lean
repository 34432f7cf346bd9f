/-
  No cell of these rows narrows 'for every input' (looked for: loops, veiled, ifaces, maps, wideKeys, modest, calm, conditions, laid).
  DERIVED. THE GIVEN ROWS OF THIS SEAT. 5 by the template 'for every input the law returns true; each argument reads behind the call as it read before'; 0 by the template 'total and deterministic' (their statements: YtkgoajomlglkcaaTotals.lean).
  GIVEN WITH THE SEED: the statements are not yours to turn. If you find one false, say at which input.
  Laid BY PROGRAM, IN A SANDBOX (cutbox-rows.mjs): the forced cells as the released guide's own fill.sh prints them over the translation 1b49dac370b2282b… (all of the seat's roots in one cut). By AI agents, Wed Nov 11 2026. No macro, syntax, notation, axiom, sorry.
-/
import Derived.Test.YtkgoajomlglkcaaChecked
import GoSem.Claim
import GoSem.ClaimJoined
import GoSem.ClaimMapViews
import Derived.JoinedTies
import Derived.KernelRfl
namespace Go.Proofs.Ytkgoajomlglkcaa
/- THE CELL 'sum', in the pinned program and in every row, IS THE sha256 OF THE DUMP (.gsa) THAT YtkgoajomlglkcaaProg.lean LOADS. Nothing in Lean hashes anything: it is a label: what it is worth is what the hold of that sum in a sandbox is worth. -/
noncomputable def Try.pinned : Pinned := { name := "ytkgoajomlglkcaa", sum := "1b49dac370b2282bf3c39180d2bf30a7b3ec081258e0872adc3b1a2d8bae3fc1", checked := Try.checked }
namespace Rows
def none {H : Type} : Left H := { results := [], args := [] }

/-- 'clevislaw05.HelperMixes': WHATEVER THE INPUT: true; the input reads as it did. -/
def helperMixesSpec : ChangeSpec := { name := "helperMixes", fn := fun _ => fun
  | [d1, d2, d3, d4] => { results := [.lit (.bool true)], args := [d1, d2, d3, d4] }
  | _ => none }
def helperMixesRow : OpenClaim := { program := "ytkgoajomlglkcaa", sum := "1b49dac370b2282bf3c39180d2bf30a7b3ec081258e0872adc3b1a2d8bae3fc1", func := "clevis/clevislaw05.HelperMixes", spec := "helperMixes", inPlace := ["internal/reflectlite.TypeOf"], unfollowed := true, recurses := true, apart := false }
def HelperMixesSaid : Prop := helperMixesRow.holds Try.pinned (OpenSpec.ofChange helperMixesSpec)

/-- ITS FALSE NEIGHBOUR: 'it returns false'. Refute it at one input. -/
def helperMixesWrong : ChangeSpec := { name := "helperMixes", fn := fun _ => fun
  | [d1, d2, d3, d4] => { results := [.lit (.bool false)], args := [d1, d2, d3, d4] }
  | _ => none }
def HelperMixesWrongFalsely : Prop := helperMixesRow.holds Try.pinned (OpenSpec.ofChange helperMixesWrong)

/-- 'clevislaw05.HelperTable': WHATEVER THE INPUT: true; the input reads as it did. -/
def helperTableSpec : ChangeSpec := { name := "helperTable", fn := fun _ => fun
  | [d1, d2] => { results := [.lit (.bool true)], args := [d1, d2] }
  | _ => none }
def helperTableRow : OpenClaim := { program := "ytkgoajomlglkcaa", sum := "1b49dac370b2282bf3c39180d2bf30a7b3ec081258e0872adc3b1a2d8bae3fc1", func := "clevis/clevislaw05.HelperTable", spec := "helperTable", inPlace := ["internal/reflectlite.TypeOf"], unfollowed := true, recurses := true, apart := false }
def HelperTableSaid : Prop := helperTableRow.holds Try.pinned (OpenSpec.ofChange helperTableSpec)

/-- ITS FALSE NEIGHBOUR: 'it returns false'. Refute it at one input. -/
def helperTableWrong : ChangeSpec := { name := "helperTable", fn := fun _ => fun
  | [d1, d2] => { results := [.lit (.bool false)], args := [d1, d2] }
  | _ => none }
def HelperTableWrongFalsely : Prop := helperTableRow.holds Try.pinned (OpenSpec.ofChange helperTableWrong)

/-- 'clevislaw05.HelperDoes': WHATEVER THE INPUT: true; the input reads as it did. -/
def helperDoesSpec : ChangeSpec := { name := "helperDoes", fn := fun _ => fun
  | [d1, d2, d3, d4, d5] => { results := [.lit (.bool true)], args := [d1, d2, d3, d4, d5] }
  | _ => none }
def helperDoesRow : OpenClaim := { program := "ytkgoajomlglkcaa", sum := "1b49dac370b2282bf3c39180d2bf30a7b3ec081258e0872adc3b1a2d8bae3fc1", func := "clevis/clevislaw05.HelperDoes", spec := "helperDoes", inPlace := ["internal/reflectlite.TypeOf"], unfollowed := true, recurses := true, apart := false }
def HelperDoesSaid : Prop := helperDoesRow.holds Try.pinned (OpenSpec.ofChange helperDoesSpec)

/-- ITS FALSE NEIGHBOUR: 'it returns false'. Refute it at one input. -/
def helperDoesWrong : ChangeSpec := { name := "helperDoes", fn := fun _ => fun
  | [d1, d2, d3, d4, d5] => { results := [.lit (.bool false)], args := [d1, d2, d3, d4, d5] }
  | _ => none }
def HelperDoesWrongFalsely : Prop := helperDoesRow.holds Try.pinned (OpenSpec.ofChange helperDoesWrong)

/-- 'clevislaw05.HelperKeeps': WHATEVER THE INPUT: true; the input reads as it did. -/
def helperKeepsSpec : ChangeSpec := { name := "helperKeeps", fn := fun _ => fun
  | [d1, d2, d3, d4, d5, d6] => { results := [.lit (.bool true)], args := [d1, d2, d3, d4, d5, d6] }
  | _ => none }
def helperKeepsRow : OpenClaim := { program := "ytkgoajomlglkcaa", sum := "1b49dac370b2282bf3c39180d2bf30a7b3ec081258e0872adc3b1a2d8bae3fc1", func := "clevis/clevislaw05.HelperKeeps", spec := "helperKeeps", inPlace := ["internal/reflectlite.TypeOf"], unfollowed := true, recurses := true, apart := false }
def HelperKeepsSaid : Prop := helperKeepsRow.holds Try.pinned (OpenSpec.ofChange helperKeepsSpec)

/-- ITS FALSE NEIGHBOUR: 'it returns false'. Refute it at one input. -/
def helperKeepsWrong : ChangeSpec := { name := "helperKeeps", fn := fun _ => fun
  | [d1, d2, d3, d4, d5, d6] => { results := [.lit (.bool false)], args := [d1, d2, d3, d4, d5, d6] }
  | _ => none }
def HelperKeepsWrongFalsely : Prop := helperKeepsRow.holds Try.pinned (OpenSpec.ofChange helperKeepsWrong)

/-- 'clevislaw05.HelperSends': WHATEVER THE INPUT: true; the input reads as it did. -/
def helperSendsSpec : ChangeSpec := { name := "helperSends", fn := fun _ => fun
  | [d1, d2, d3, d4] => { results := [.lit (.bool true)], args := [d1, d2, d3, d4] }
  | _ => none }
def helperSendsRow : OpenClaim := { program := "ytkgoajomlglkcaa", sum := "1b49dac370b2282bf3c39180d2bf30a7b3ec081258e0872adc3b1a2d8bae3fc1", func := "clevis/clevislaw05.HelperSends", spec := "helperSends", inPlace := ["internal/reflectlite.TypeOf"], unfollowed := true, recurses := true, apart := false }
def HelperSendsSaid : Prop := helperSendsRow.holds Try.pinned (OpenSpec.ofChange helperSendsSpec)

/-- ITS FALSE NEIGHBOUR: 'it returns false'. Refute it at one input. -/
def helperSendsWrong : ChangeSpec := { name := "helperSends", fn := fun _ => fun
  | [d1, d2, d3, d4] => { results := [.lit (.bool false)], args := [d1, d2, d3, d4] }
  | _ => none }
def HelperSendsWrongFalsely : Prop := helperSendsRow.holds Try.pinned (OpenSpec.ofChange helperSendsWrong)

/- THE SECOND FORM. 'bulk': how many values and letters a reading holds, each counted each time it is reached (what is shared counts as often as it is met; a slice's spare places count too). A statement '..UptoSaid' is the law's where the arguments, and the package variables that the reading takes, are together of bulk at most 1048576: NARROWER than '..Said'. Prove '..Said' where nothing that the law and all that it calls make is longer than what came in: it says more and counts as full. Else prove '..UptoSaid'. A law counts once. -/
mutual
def uptoBulk {H : Type} : DataW H → Nat
  | .lit (.string bytes) => bytes.length + 1
  | .lit _ => 1
  | .nil => 1
  | .ptr d => uptoBulk d + 1
  | .slice elems spare => uptoBulkAll elems + uptoBulkAll spare + 1
  | .agg parts => uptoBulkAll parts + 1
  | .iface _ d => uptoBulk d + 1
  | .map entries => uptoBulkEntries entries + 1
  | .held _ => 1
def uptoBulkAll {H : Type} : List (DataW H) → Nat
  | [] => 0
  | d :: r => uptoBulk d + uptoBulkAll r
def uptoBulkEntries {H : Type} : List (Lit × DataW H) → Nat
  | [] => 0
  | x :: r => uptoBulkEntry x + uptoBulkEntries r
def uptoBulkEntry {H : Type} : Lit × DataW H → Nat
  | (.string bytes, d) => bytes.length + uptoBulk d + 1
  | (_, d) => uptoBulk d + 1
 end
def uptoSmall : (H : Type) → List (DataW H) → Bool := fun _ ds => decide (uptoBulkAll ds ≤ 1048576)
def OpenSpec.upto (s : _root_.Go.ChangeSpec) : _root_.Go.OpenSpec := { _root_.Go.OpenSpec.ofChange s with cond := some uptoSmall }

/-- 'clevislaw05.HelperMixes', WHERE WHAT IT READS IS OF BULK AT MOST 1048576: true; the input reads as it did. -/
def helperMixesUptoRow : OpenClaim := { program := "ytkgoajomlglkcaa", sum := "1b49dac370b2282bf3c39180d2bf30a7b3ec081258e0872adc3b1a2d8bae3fc1", func := "clevis/clevislaw05.HelperMixes", spec := "helperMixes", inPlace := ["internal/reflectlite.TypeOf"], unfollowed := true, recurses := true, apart := false, narrowed := true }
def HelperMixesUptoSaid : Prop := helperMixesUptoRow.holds Try.pinned (OpenSpec.upto helperMixesSpec)

/-- 'clevislaw05.HelperTable', WHERE WHAT IT READS IS OF BULK AT MOST 1048576: true; the input reads as it did. -/
def helperTableUptoRow : OpenClaim := { program := "ytkgoajomlglkcaa", sum := "1b49dac370b2282bf3c39180d2bf30a7b3ec081258e0872adc3b1a2d8bae3fc1", func := "clevis/clevislaw05.HelperTable", spec := "helperTable", inPlace := ["internal/reflectlite.TypeOf"], unfollowed := true, recurses := true, apart := false, narrowed := true }
def HelperTableUptoSaid : Prop := helperTableUptoRow.holds Try.pinned (OpenSpec.upto helperTableSpec)

/-- 'clevislaw05.HelperDoes', WHERE WHAT IT READS IS OF BULK AT MOST 1048576: true; the input reads as it did. -/
def helperDoesUptoRow : OpenClaim := { program := "ytkgoajomlglkcaa", sum := "1b49dac370b2282bf3c39180d2bf30a7b3ec081258e0872adc3b1a2d8bae3fc1", func := "clevis/clevislaw05.HelperDoes", spec := "helperDoes", inPlace := ["internal/reflectlite.TypeOf"], unfollowed := true, recurses := true, apart := false, narrowed := true }
def HelperDoesUptoSaid : Prop := helperDoesUptoRow.holds Try.pinned (OpenSpec.upto helperDoesSpec)

/-- 'clevislaw05.HelperKeeps', WHERE WHAT IT READS IS OF BULK AT MOST 1048576: true; the input reads as it did. -/
def helperKeepsUptoRow : OpenClaim := { program := "ytkgoajomlglkcaa", sum := "1b49dac370b2282bf3c39180d2bf30a7b3ec081258e0872adc3b1a2d8bae3fc1", func := "clevis/clevislaw05.HelperKeeps", spec := "helperKeeps", inPlace := ["internal/reflectlite.TypeOf"], unfollowed := true, recurses := true, apart := false, narrowed := true }
def HelperKeepsUptoSaid : Prop := helperKeepsUptoRow.holds Try.pinned (OpenSpec.upto helperKeepsSpec)

/-- 'clevislaw05.HelperSends', WHERE WHAT IT READS IS OF BULK AT MOST 1048576: true; the input reads as it did. -/
def helperSendsUptoRow : OpenClaim := { program := "ytkgoajomlglkcaa", sum := "1b49dac370b2282bf3c39180d2bf30a7b3ec081258e0872adc3b1a2d8bae3fc1", func := "clevis/clevislaw05.HelperSends", spec := "helperSends", inPlace := ["internal/reflectlite.TypeOf"], unfollowed := true, recurses := true, apart := false, narrowed := true }
def HelperSendsUptoSaid : Prop := helperSendsUptoRow.holds Try.pinned (OpenSpec.upto helperSendsSpec)

end Rows
end Go.Proofs.Ytkgoajomlglkcaa
