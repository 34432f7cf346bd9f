/-
  No cell of these rows narrows 'for every input' (looked for: loops, veiled, ifaces, maps, wideKeys, modest, calm, conditions, laid).
  DERIVED. THE GIVEN ROWS OF THIS SEAT. 5 by the template 'for every input the law returns true; each argument reads behind the call as it read before'; 0 by the template 'total and deterministic' (their statements: YtbngpphpdabakaaTotals.lean).
  GIVEN WITH THE SEED: the statements are not yours to turn. If you find one false, say at which input.
  Laid BY PROGRAM, IN A SANDBOX (cutbox-rows.mjs): the forced cells as the released guide's own fill.sh prints them over the translation e384a5fbedcbbcbd… (all of the seat's roots in one cut). By AI agents, Wed Nov 11 2026. No macro, syntax, notation, axiom, sorry.
-/
import Derived.Test.YtbngpphpdabakaaChecked
import GoSem.Claim
import GoSem.ClaimJoined
import GoSem.ClaimMapViews
import Derived.JoinedTies
import Derived.KernelRfl
namespace Go.Proofs.Ytbngpphpdabakaa
/- THE CELL 'sum', in the pinned program and in every row, IS THE sha256 OF THE DUMP (.gsa) THAT YtbngpphpdabakaaProg.lean LOADS. Nothing in Lean hashes anything: it is a label: what it is worth is what the hold of that sum in a sandbox is worth. -/
noncomputable def Try.pinned : Pinned := { name := "ytbngpphpdabakaa", sum := "e384a5fbedcbbcbd7ffa453d50fa775ab5334e841fcd5bb462f2a6210a3a5d57", checked := Try.checked }
namespace Rows
def none {H : Type} : Left H := { results := [], args := [] }

/-- 'clevislaw04.LegalOps': WHATEVER THE INPUT: true; the input reads as it did. -/
def legalOpsSpec : ChangeSpec := { name := "legalOps", fn := fun _ => fun
  | [d] => { results := [.lit (.bool true)], args := [d] }
  | _ => none }
def legalOpsRow : OpenClaim := { program := "ytbngpphpdabakaa", sum := "e384a5fbedcbbcbd7ffa453d50fa775ab5334e841fcd5bb462f2a6210a3a5d57", func := "clevis/clevislaw04.LegalOps", spec := "legalOps", apart := false }
def LegalOpsSaid : Prop := legalOpsRow.holds Try.pinned (OpenSpec.ofChange legalOpsSpec)

/-- ITS FALSE NEIGHBOUR: 'it returns false'. Refute it at one input. -/
def legalOpsWrong : ChangeSpec := { name := "legalOps", fn := fun _ => fun
  | [d] => { results := [.lit (.bool false)], args := [d] }
  | _ => none }
def LegalOpsWrongFalsely : Prop := legalOpsRow.holds Try.pinned (OpenSpec.ofChange legalOpsWrong)

/-- 'clevislaw04.LegalChecks': WHATEVER THE INPUT: true; the input reads as it did. -/
def legalChecksSpec : ChangeSpec := { name := "legalChecks", fn := fun _ => fun
  | [d] => { results := [.lit (.bool true)], args := [d] }
  | _ => none }
def legalChecksRow : OpenClaim := { program := "ytbngpphpdabakaa", sum := "e384a5fbedcbbcbd7ffa453d50fa775ab5334e841fcd5bb462f2a6210a3a5d57", func := "clevis/clevislaw04.LegalChecks", spec := "legalChecks", apart := false }
def LegalChecksSaid : Prop := legalChecksRow.holds Try.pinned (OpenSpec.ofChange legalChecksSpec)

/-- ITS FALSE NEIGHBOUR: 'it returns false'. Refute it at one input. -/
def legalChecksWrong : ChangeSpec := { name := "legalChecks", fn := fun _ => fun
  | [d] => { results := [.lit (.bool false)], args := [d] }
  | _ => none }
def LegalChecksWrongFalsely : Prop := legalChecksRow.holds Try.pinned (OpenSpec.ofChange legalChecksWrong)

/-- 'clevislaw04.LegalIns': WHATEVER THE INPUT: true; the input reads as it did. -/
def legalInsSpec : ChangeSpec := { name := "legalIns", fn := fun _ => fun
  | [d1, d2, d3] => { results := [.lit (.bool true)], args := [d1, d2, d3] }
  | _ => none }
def legalInsRow : OpenClaim := { program := "ytbngpphpdabakaa", sum := "e384a5fbedcbbcbd7ffa453d50fa775ab5334e841fcd5bb462f2a6210a3a5d57", func := "clevis/clevislaw04.LegalIns", spec := "legalIns", apart := false }
def LegalInsSaid : Prop := legalInsRow.holds Try.pinned (OpenSpec.ofChange legalInsSpec)

/-- ITS FALSE NEIGHBOUR: 'it returns false'. Refute it at one input. -/
def legalInsWrong : ChangeSpec := { name := "legalIns", fn := fun _ => fun
  | [d1, d2, d3] => { results := [.lit (.bool false)], args := [d1, d2, d3] }
  | _ => none }
def LegalInsWrongFalsely : Prop := legalInsRow.holds Try.pinned (OpenSpec.ofChange legalInsWrong)

/-- 'clevislaw04.LegalStays': WHATEVER THE INPUT: true; the input reads as it did. -/
def legalStaysSpec : ChangeSpec := { name := "legalStays", fn := fun _ => fun
  | [d1, d2] => { results := [.lit (.bool true)], args := [d1, d2] }
  | _ => none }
def legalStaysRow : OpenClaim := { program := "ytbngpphpdabakaa", sum := "e384a5fbedcbbcbd7ffa453d50fa775ab5334e841fcd5bb462f2a6210a3a5d57", func := "clevis/clevislaw04.LegalStays", spec := "legalStays", apart := false }
def LegalStaysSaid : Prop := legalStaysRow.holds Try.pinned (OpenSpec.ofChange legalStaysSpec)

/-- ITS FALSE NEIGHBOUR: 'it returns false'. Refute it at one input. -/
def legalStaysWrong : ChangeSpec := { name := "legalStays", fn := fun _ => fun
  | [d1, d2] => { results := [.lit (.bool false)], args := [d1, d2] }
  | _ => none }
def LegalStaysWrongFalsely : Prop := legalStaysRow.holds Try.pinned (OpenSpec.ofChange legalStaysWrong)

/-- 'clevislaw04.LegalAlone': WHATEVER THE INPUT: true; the input reads as it did. -/
def legalAloneSpec : ChangeSpec := { name := "legalAlone", fn := fun _ => fun
  | [d1, d2] => { results := [.lit (.bool true)], args := [d1, d2] }
  | _ => none }
def legalAloneRow : OpenClaim := { program := "ytbngpphpdabakaa", sum := "e384a5fbedcbbcbd7ffa453d50fa775ab5334e841fcd5bb462f2a6210a3a5d57", func := "clevis/clevislaw04.LegalAlone", spec := "legalAlone", apart := false }
def LegalAloneSaid : Prop := legalAloneRow.holds Try.pinned (OpenSpec.ofChange legalAloneSpec)

/-- ITS FALSE NEIGHBOUR: 'it returns false'. Refute it at one input. -/
def legalAloneWrong : ChangeSpec := { name := "legalAlone", fn := fun _ => fun
  | [d1, d2] => { results := [.lit (.bool false)], args := [d1, d2] }
  | _ => none }
def LegalAloneWrongFalsely : Prop := legalAloneRow.holds Try.pinned (OpenSpec.ofChange legalAloneWrong)

/- THE SECOND FORM. 'bulk': how many values and letters a reading holds, each counted each time it is reached (what is shared counts as often as it is met; a slice's spare places count too). A statement '..UptoSaid' is the law's where the arguments, and the package variables that the reading takes, are together of bulk at most 1048576: NARROWER than '..Said'. Prove '..Said' where nothing that the law and all that it calls make is longer than what came in: it says more and counts as full. Else prove '..UptoSaid'. A law counts once. -/
mutual
def uptoBulk {H : Type} : DataW H → Nat
  | .lit (.string bytes) => bytes.length + 1
  | .lit _ => 1
  | .nil => 1
  | .ptr d => uptoBulk d + 1
  | .slice elems spare => uptoBulkAll elems + uptoBulkAll spare + 1
  | .agg parts => uptoBulkAll parts + 1
  | .iface _ d => uptoBulk d + 1
  | .map entries => uptoBulkEntries entries + 1
  | .held _ => 1
def uptoBulkAll {H : Type} : List (DataW H) → Nat
  | [] => 0
  | d :: r => uptoBulk d + uptoBulkAll r
def uptoBulkEntries {H : Type} : List (Lit × DataW H) → Nat
  | [] => 0
  | x :: r => uptoBulkEntry x + uptoBulkEntries r
def uptoBulkEntry {H : Type} : Lit × DataW H → Nat
  | (.string bytes, d) => bytes.length + uptoBulk d + 1
  | (_, d) => uptoBulk d + 1
 end
def uptoSmall : (H : Type) → List (DataW H) → Bool := fun _ ds => decide (uptoBulkAll ds ≤ 1048576)
def OpenSpec.upto (s : _root_.Go.ChangeSpec) : _root_.Go.OpenSpec := { _root_.Go.OpenSpec.ofChange s with cond := some uptoSmall }

/-- 'clevislaw04.LegalOps', WHERE WHAT IT READS IS OF BULK AT MOST 1048576: true; the input reads as it did. -/
def legalOpsUptoRow : OpenClaim := { program := "ytbngpphpdabakaa", sum := "e384a5fbedcbbcbd7ffa453d50fa775ab5334e841fcd5bb462f2a6210a3a5d57", func := "clevis/clevislaw04.LegalOps", spec := "legalOps", apart := false, narrowed := true }
def LegalOpsUptoSaid : Prop := legalOpsUptoRow.holds Try.pinned (OpenSpec.upto legalOpsSpec)

/-- 'clevislaw04.LegalChecks', WHERE WHAT IT READS IS OF BULK AT MOST 1048576: true; the input reads as it did. -/
def legalChecksUptoRow : OpenClaim := { program := "ytbngpphpdabakaa", sum := "e384a5fbedcbbcbd7ffa453d50fa775ab5334e841fcd5bb462f2a6210a3a5d57", func := "clevis/clevislaw04.LegalChecks", spec := "legalChecks", apart := false, narrowed := true }
def LegalChecksUptoSaid : Prop := legalChecksUptoRow.holds Try.pinned (OpenSpec.upto legalChecksSpec)

/-- 'clevislaw04.LegalIns', WHERE WHAT IT READS IS OF BULK AT MOST 1048576: true; the input reads as it did. -/
def legalInsUptoRow : OpenClaim := { program := "ytbngpphpdabakaa", sum := "e384a5fbedcbbcbd7ffa453d50fa775ab5334e841fcd5bb462f2a6210a3a5d57", func := "clevis/clevislaw04.LegalIns", spec := "legalIns", apart := false, narrowed := true }
def LegalInsUptoSaid : Prop := legalInsUptoRow.holds Try.pinned (OpenSpec.upto legalInsSpec)

/-- 'clevislaw04.LegalStays', WHERE WHAT IT READS IS OF BULK AT MOST 1048576: true; the input reads as it did. -/
def legalStaysUptoRow : OpenClaim := { program := "ytbngpphpdabakaa", sum := "e384a5fbedcbbcbd7ffa453d50fa775ab5334e841fcd5bb462f2a6210a3a5d57", func := "clevis/clevislaw04.LegalStays", spec := "legalStays", apart := false, narrowed := true }
def LegalStaysUptoSaid : Prop := legalStaysUptoRow.holds Try.pinned (OpenSpec.upto legalStaysSpec)

/-- 'clevislaw04.LegalAlone', WHERE WHAT IT READS IS OF BULK AT MOST 1048576: true; the input reads as it did. -/
def legalAloneUptoRow : OpenClaim := { program := "ytbngpphpdabakaa", sum := "e384a5fbedcbbcbd7ffa453d50fa775ab5334e841fcd5bb462f2a6210a3a5d57", func := "clevis/clevislaw04.LegalAlone", spec := "legalAlone", apart := false, narrowed := true }
def LegalAloneUptoSaid : Prop := legalAloneUptoRow.holds Try.pinned (OpenSpec.upto legalAloneSpec)

end Rows
end Go.Proofs.Ytbngpphpdabakaa
