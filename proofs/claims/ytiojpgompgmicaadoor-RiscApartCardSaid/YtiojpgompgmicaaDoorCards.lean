/-
  DERIVED. GIVEN WITH THE SEED: THE CARDS: each row of YtiojpgompgmicaaDoorRows.lean that lists a variable, with what it lists TIED to the program's text (the seventh form; the later family's looks); each row that meets fmt, with fmt's text TOLD by the authors' own Lean function (tested against real Go, not proved from fmt's source: count such statements apart). THE CARD IS WHAT COUNTS. Prove the row's statement (the work); the ties are given (YtiojpgompgmicaaDoorTie.lean); close each card by the builder's one call (the guide's Derived/Test/ToyasCard.lean, 'card_holds'). Laid BY PROGRAM, IN A SANDBOX (cutbox-door.mjs). By AI agents, Wed Nov 11 2026. No macro, syntax, notation, axiom, sorry.
-/
import Derived.Test.YtiojpgompgmicaaDoorRows
import GoSem.ClaimSeven
namespace Go.Proofs.YtiojpgompgmicaaDoor
namespace Rows

/-- THE TIED CARD OF 'clevislaw23.RiscWrites'. -/
def riscWritesCard : Claim7 := { stood := { row := riscWritesRow, standIns := [], harness := (true, "e709fda0625010d9af37b40d4889eea42a3f9eae886c8bdbedb29daca026222d"), looks := false }, kinds := [], alts := [], laidByText := true, laidKinds := [.data, .data, .data], laidTests := true, laidLooks := .later }
def RiscWritesCardSaid : Prop := Claim7.holds Tryd.pinned (.plain (OpenSpec.ofChange riscWritesSpec)) riscWritesCard

/-- THE TIED CARD OF 'clevislaw23.RiscReads'. -/
def riscReadsCard : Claim7 := { stood := { row := riscReadsRow, standIns := [], harness := (true, "e709fda0625010d9af37b40d4889eea42a3f9eae886c8bdbedb29daca026222d"), looks := false }, kinds := [], alts := [], laidByText := true, laidKinds := [.data, .data, .data], laidTests := true, laidLooks := .later }
def RiscReadsCardSaid : Prop := Claim7.holds Tryd.pinned (.plain (OpenSpec.ofChange riscReadsSpec)) riscReadsCard

/-- THE TIED CARD OF 'clevislaw23.RiscBack'. -/
def riscBackCard : Claim7 := { stood := { row := riscBackRow, standIns := [], harness := (true, "e709fda0625010d9af37b40d4889eea42a3f9eae886c8bdbedb29daca026222d"), looks := false }, kinds := [], alts := [], laidByText := true, laidKinds := [.data, .data, .data], laidTests := true, laidLooks := .later }
def RiscBackCardSaid : Prop := Claim7.holds Tryd.pinned (.plain (OpenSpec.ofChange riscBackSpec)) riscBackCard

/-- THE TIED CARD OF 'clevislaw23.RiscAgain'. -/
def riscAgainCard : Claim7 := { stood := { row := riscAgainRow, standIns := [], harness := (true, "e709fda0625010d9af37b40d4889eea42a3f9eae886c8bdbedb29daca026222d"), looks := false }, kinds := [], alts := [], laidByText := true, laidKinds := [.data, .data, .data], laidTests := true, laidLooks := .later }
def RiscAgainCardSaid : Prop := Claim7.holds Tryd.pinned (.plain (OpenSpec.ofChange riscAgainSpec)) riscAgainCard

/-- THE TIED CARD OF 'clevislaw23.RiscApart'. -/
def riscApartCard : Claim7 := { stood := { row := riscApartRow, standIns := [], harness := (true, "e709fda0625010d9af37b40d4889eea42a3f9eae886c8bdbedb29daca026222d"), looks := false }, kinds := [], alts := [], laidByText := true, laidKinds := [.data, .data, .data], laidTests := true, laidLooks := .later }
def RiscApartCardSaid : Prop := Claim7.holds Tryd.pinned (.plain (OpenSpec.ofChange riscApartSpec)) riscApartCard

/-- THE SECOND FORM's CARD OF 'clevislaw23.RiscWrites'. -/
def riscWritesUptoCard : Claim7 := { stood := { row := riscWritesUptoRow, standIns := [], harness := (true, "e709fda0625010d9af37b40d4889eea42a3f9eae886c8bdbedb29daca026222d"), looks := false }, kinds := [], alts := [], laidByText := true, laidKinds := [.data, .data, .data], laidTests := true, laidLooks := .later }
def RiscWritesUptoCardSaid : Prop := Claim7.holds Tryd.pinned (.plain (OpenSpec.upto riscWritesSpec)) riscWritesUptoCard

/-- THE SECOND FORM's CARD OF 'clevislaw23.RiscReads'. -/
def riscReadsUptoCard : Claim7 := { stood := { row := riscReadsUptoRow, standIns := [], harness := (true, "e709fda0625010d9af37b40d4889eea42a3f9eae886c8bdbedb29daca026222d"), looks := false }, kinds := [], alts := [], laidByText := true, laidKinds := [.data, .data, .data], laidTests := true, laidLooks := .later }
def RiscReadsUptoCardSaid : Prop := Claim7.holds Tryd.pinned (.plain (OpenSpec.upto riscReadsSpec)) riscReadsUptoCard

/-- THE SECOND FORM's CARD OF 'clevislaw23.RiscBack'. -/
def riscBackUptoCard : Claim7 := { stood := { row := riscBackUptoRow, standIns := [], harness := (true, "e709fda0625010d9af37b40d4889eea42a3f9eae886c8bdbedb29daca026222d"), looks := false }, kinds := [], alts := [], laidByText := true, laidKinds := [.data, .data, .data], laidTests := true, laidLooks := .later }
def RiscBackUptoCardSaid : Prop := Claim7.holds Tryd.pinned (.plain (OpenSpec.upto riscBackSpec)) riscBackUptoCard

/-- THE SECOND FORM's CARD OF 'clevislaw23.RiscAgain'. -/
def riscAgainUptoCard : Claim7 := { stood := { row := riscAgainUptoRow, standIns := [], harness := (true, "e709fda0625010d9af37b40d4889eea42a3f9eae886c8bdbedb29daca026222d"), looks := false }, kinds := [], alts := [], laidByText := true, laidKinds := [.data, .data, .data], laidTests := true, laidLooks := .later }
def RiscAgainUptoCardSaid : Prop := Claim7.holds Tryd.pinned (.plain (OpenSpec.upto riscAgainSpec)) riscAgainUptoCard

/-- THE SECOND FORM's CARD OF 'clevislaw23.RiscApart'. -/
def riscApartUptoCard : Claim7 := { stood := { row := riscApartUptoRow, standIns := [], harness := (true, "e709fda0625010d9af37b40d4889eea42a3f9eae886c8bdbedb29daca026222d"), looks := false }, kinds := [], alts := [], laidByText := true, laidKinds := [.data, .data, .data], laidTests := true, laidLooks := .later }
def RiscApartUptoCardSaid : Prop := Claim7.holds Tryd.pinned (.plain (OpenSpec.upto riscApartSpec)) riscApartUptoCard
end Rows
end Go.Proofs.YtiojpgompgmicaaDoor
