/-
  No cell of these rows narrows 'for every input' (looked for: loops, veiled, ifaces, maps, wideKeys, modest, calm, conditions, laid).
  DERIVED. THE GIVEN ROWS OF THIS SEAT. 5 by the template 'for every input the law returns true; each argument reads behind the call as it read before'; 0 by the template 'total and deterministic' (their statements: YtomdfcjnmogcbaaTotals.lean).
  GIVEN WITH THE SEED: the statements are not yours to turn. If you find one false, say at which input.
  Laid BY PROGRAM, IN A SANDBOX (cutbox-rows.mjs): the forced cells as the released guide's own fill.sh prints them over the translation 5a518c7ac302902b… (all of the seat's roots in one cut). By AI agents, Wed Nov 11 2026. No macro, syntax, notation, axiom, sorry.
-/
import Derived.Test.YtomdfcjnmogcbaaChecked
import GoSem.Claim
import GoSem.ClaimJoined
import GoSem.ClaimMapViews
import Derived.JoinedTies
import Derived.KernelRfl
namespace Go.Proofs.Ytomdfcjnmogcbaa
/- THE CELL 'sum', in the pinned program and in every row, IS THE sha256 OF THE DUMP (.gsa) THAT YtomdfcjnmogcbaaProg.lean LOADS. Nothing in Lean hashes anything: it is a label: what it is worth is what the hold of that sum in a sandbox is worth. -/
noncomputable def Try.pinned : Pinned := { name := "ytomdfcjnmogcbaa", sum := "5a518c7ac302902bc4f1ababf06c0dc323683e4a12481609a59c31f917f5a81e", checked := Try.checked }
namespace Rows
def none {H : Type} : Left H := { results := [], args := [] }

/-- 'clevislaw09.ArithReckons': WHATEVER THE INPUT: true; the input reads as it did. -/
def arithReckonsSpec : ChangeSpec := { name := "arithReckons", fn := fun _ => fun
  | [d1, d2, d3, d4] => { results := [.lit (.bool true)], args := [d1, d2, d3, d4] }
  | _ => none }
def arithReckonsRow : OpenClaim := { program := "ytomdfcjnmogcbaa", sum := "5a518c7ac302902bc4f1ababf06c0dc323683e4a12481609a59c31f917f5a81e", func := "clevis/clevislaw09.ArithReckons", spec := "arithReckons", unfollowed := true, recurses := true, apart := false }
def ArithReckonsSaid : Prop := arithReckonsRow.holds Try.pinned (OpenSpec.ofChange arithReckonsSpec)

/-- ITS FALSE NEIGHBOUR: 'it returns false'. Refute it at one input. -/
def arithReckonsWrong : ChangeSpec := { name := "arithReckons", fn := fun _ => fun
  | [d1, d2, d3, d4] => { results := [.lit (.bool false)], args := [d1, d2, d3, d4] }
  | _ => none }
def ArithReckonsWrongFalsely : Prop := arithReckonsRow.holds Try.pinned (OpenSpec.ofChange arithReckonsWrong)

/-- 'clevislaw09.ArithSound': WHATEVER THE INPUT: true; the input reads as it did. -/
def arithSoundSpec : ChangeSpec := { name := "arithSound", fn := fun _ => fun
  | [d1, d2, d3, d4, d5, d6] => { results := [.lit (.bool true)], args := [d1, d2, d3, d4, d5, d6] }
  | _ => none }
def arithSoundRow : OpenClaim := { program := "ytomdfcjnmogcbaa", sum := "5a518c7ac302902bc4f1ababf06c0dc323683e4a12481609a59c31f917f5a81e", func := "clevis/clevislaw09.ArithSound", spec := "arithSound", unfollowed := true, recurses := true, apart := false }
def ArithSoundSaid : Prop := arithSoundRow.holds Try.pinned (OpenSpec.ofChange arithSoundSpec)

/-- ITS FALSE NEIGHBOUR: 'it returns false'. Refute it at one input. -/
def arithSoundWrong : ChangeSpec := { name := "arithSound", fn := fun _ => fun
  | [d1, d2, d3, d4, d5, d6] => { results := [.lit (.bool false)], args := [d1, d2, d3, d4, d5, d6] }
  | _ => none }
def ArithSoundWrongFalsely : Prop := arithSoundRow.holds Try.pinned (OpenSpec.ofChange arithSoundWrong)

/-- 'clevislaw09.ArithOnce': WHATEVER THE INPUT: true; the input reads as it did. -/
def arithOnceSpec : ChangeSpec := { name := "arithOnce", fn := fun _ => fun
  | [d1, d2, d3, d4] => { results := [.lit (.bool true)], args := [d1, d2, d3, d4] }
  | _ => none }
def arithOnceRow : OpenClaim := { program := "ytomdfcjnmogcbaa", sum := "5a518c7ac302902bc4f1ababf06c0dc323683e4a12481609a59c31f917f5a81e", func := "clevis/clevislaw09.ArithOnce", spec := "arithOnce", unfollowed := true, recurses := true, apart := false }
def ArithOnceSaid : Prop := arithOnceRow.holds Try.pinned (OpenSpec.ofChange arithOnceSpec)

/-- ITS FALSE NEIGHBOUR: 'it returns false'. Refute it at one input. -/
def arithOnceWrong : ChangeSpec := { name := "arithOnce", fn := fun _ => fun
  | [d1, d2, d3, d4] => { results := [.lit (.bool false)], args := [d1, d2, d3, d4] }
  | _ => none }
def ArithOnceWrongFalsely : Prop := arithOnceRow.holds Try.pinned (OpenSpec.ofChange arithOnceWrong)

/-- 'clevislaw09.ArithLow': WHATEVER THE INPUT: true; the input reads as it did. -/
def arithLowSpec : ChangeSpec := { name := "arithLow", fn := fun _ => fun
  | [d1, d2, d3] => { results := [.lit (.bool true)], args := [d1, d2, d3] }
  | _ => none }
def arithLowRow : OpenClaim := { program := "ytomdfcjnmogcbaa", sum := "5a518c7ac302902bc4f1ababf06c0dc323683e4a12481609a59c31f917f5a81e", func := "clevis/clevislaw09.ArithLow", spec := "arithLow", unfollowed := true, recurses := true, apart := false }
def ArithLowSaid : Prop := arithLowRow.holds Try.pinned (OpenSpec.ofChange arithLowSpec)

/-- ITS FALSE NEIGHBOUR: 'it returns false'. Refute it at one input. -/
def arithLowWrong : ChangeSpec := { name := "arithLow", fn := fun _ => fun
  | [d1, d2, d3] => { results := [.lit (.bool false)], args := [d1, d2, d3] }
  | _ => none }
def ArithLowWrongFalsely : Prop := arithLowRow.holds Try.pinned (OpenSpec.ofChange arithLowWrong)

/-- 'clevislaw09.ArithRight': WHATEVER THE INPUT: true; the input reads as it did. -/
def arithRightSpec : ChangeSpec := { name := "arithRight", fn := fun _ => fun
  | [d1, d2, d3, d4] => { results := [.lit (.bool true)], args := [d1, d2, d3, d4] }
  | _ => none }
def arithRightRow : OpenClaim := { program := "ytomdfcjnmogcbaa", sum := "5a518c7ac302902bc4f1ababf06c0dc323683e4a12481609a59c31f917f5a81e", func := "clevis/clevislaw09.ArithRight", spec := "arithRight", unfollowed := true, recurses := true, apart := false }
def ArithRightSaid : Prop := arithRightRow.holds Try.pinned (OpenSpec.ofChange arithRightSpec)

/-- ITS FALSE NEIGHBOUR: 'it returns false'. Refute it at one input. -/
def arithRightWrong : ChangeSpec := { name := "arithRight", fn := fun _ => fun
  | [d1, d2, d3, d4] => { results := [.lit (.bool false)], args := [d1, d2, d3, d4] }
  | _ => none }
def ArithRightWrongFalsely : Prop := arithRightRow.holds Try.pinned (OpenSpec.ofChange arithRightWrong)

/- THE SECOND FORM. 'bulk': how many values and letters a reading holds, each counted each time it is reached (what is shared counts as often as it is met; a slice's spare places count too). A statement '..UptoSaid' is the law's where the arguments, and the package variables that the reading takes, are together of bulk at most 1048576: NARROWER than '..Said'. Prove '..Said' where nothing that the law and all that it calls make is longer than what came in: it says more and counts as full. Else prove '..UptoSaid'. A law counts once. -/
mutual
def uptoBulk {H : Type} : DataW H → Nat
  | .lit (.string bytes) => bytes.length + 1
  | .lit _ => 1
  | .nil => 1
  | .ptr d => uptoBulk d + 1
  | .slice elems spare => uptoBulkAll elems + uptoBulkAll spare + 1
  | .agg parts => uptoBulkAll parts + 1
  | .iface _ d => uptoBulk d + 1
  | .map entries => uptoBulkEntries entries + 1
  | .held _ => 1
def uptoBulkAll {H : Type} : List (DataW H) → Nat
  | [] => 0
  | d :: r => uptoBulk d + uptoBulkAll r
def uptoBulkEntries {H : Type} : List (Lit × DataW H) → Nat
  | [] => 0
  | x :: r => uptoBulkEntry x + uptoBulkEntries r
def uptoBulkEntry {H : Type} : Lit × DataW H → Nat
  | (.string bytes, d) => bytes.length + uptoBulk d + 1
  | (_, d) => uptoBulk d + 1
 end
def uptoSmall : (H : Type) → List (DataW H) → Bool := fun _ ds => decide (uptoBulkAll ds ≤ 1048576)
def OpenSpec.upto (s : _root_.Go.ChangeSpec) : _root_.Go.OpenSpec := { _root_.Go.OpenSpec.ofChange s with cond := some uptoSmall }

/-- 'clevislaw09.ArithReckons', WHERE WHAT IT READS IS OF BULK AT MOST 1048576: true; the input reads as it did. -/
def arithReckonsUptoRow : OpenClaim := { program := "ytomdfcjnmogcbaa", sum := "5a518c7ac302902bc4f1ababf06c0dc323683e4a12481609a59c31f917f5a81e", func := "clevis/clevislaw09.ArithReckons", spec := "arithReckons", unfollowed := true, recurses := true, apart := false, narrowed := true }
def ArithReckonsUptoSaid : Prop := arithReckonsUptoRow.holds Try.pinned (OpenSpec.upto arithReckonsSpec)

/-- 'clevislaw09.ArithSound', WHERE WHAT IT READS IS OF BULK AT MOST 1048576: true; the input reads as it did. -/
def arithSoundUptoRow : OpenClaim := { program := "ytomdfcjnmogcbaa", sum := "5a518c7ac302902bc4f1ababf06c0dc323683e4a12481609a59c31f917f5a81e", func := "clevis/clevislaw09.ArithSound", spec := "arithSound", unfollowed := true, recurses := true, apart := false, narrowed := true }
def ArithSoundUptoSaid : Prop := arithSoundUptoRow.holds Try.pinned (OpenSpec.upto arithSoundSpec)

/-- 'clevislaw09.ArithOnce', WHERE WHAT IT READS IS OF BULK AT MOST 1048576: true; the input reads as it did. -/
def arithOnceUptoRow : OpenClaim := { program := "ytomdfcjnmogcbaa", sum := "5a518c7ac302902bc4f1ababf06c0dc323683e4a12481609a59c31f917f5a81e", func := "clevis/clevislaw09.ArithOnce", spec := "arithOnce", unfollowed := true, recurses := true, apart := false, narrowed := true }
def ArithOnceUptoSaid : Prop := arithOnceUptoRow.holds Try.pinned (OpenSpec.upto arithOnceSpec)

/-- 'clevislaw09.ArithLow', WHERE WHAT IT READS IS OF BULK AT MOST 1048576: true; the input reads as it did. -/
def arithLowUptoRow : OpenClaim := { program := "ytomdfcjnmogcbaa", sum := "5a518c7ac302902bc4f1ababf06c0dc323683e4a12481609a59c31f917f5a81e", func := "clevis/clevislaw09.ArithLow", spec := "arithLow", unfollowed := true, recurses := true, apart := false, narrowed := true }
def ArithLowUptoSaid : Prop := arithLowUptoRow.holds Try.pinned (OpenSpec.upto arithLowSpec)

/-- 'clevislaw09.ArithRight', WHERE WHAT IT READS IS OF BULK AT MOST 1048576: true; the input reads as it did. -/
def arithRightUptoRow : OpenClaim := { program := "ytomdfcjnmogcbaa", sum := "5a518c7ac302902bc4f1ababf06c0dc323683e4a12481609a59c31f917f5a81e", func := "clevis/clevislaw09.ArithRight", spec := "arithRight", unfollowed := true, recurses := true, apart := false, narrowed := true }
def ArithRightUptoSaid : Prop := arithRightUptoRow.holds Try.pinned (OpenSpec.upto arithRightSpec)

end Rows
end Go.Proofs.Ytomdfcjnmogcbaa
