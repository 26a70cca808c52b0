/-
  DERIVED. GIVEN WITH THE SEED: THE CARDS: each row of YthbfflleggnoaaaGreatDoorRows.lean that lists a variable, with what it lists TIED to the program's text (the seventh form; the later family's looks); each row that meets fmt, with fmt's text TOLD by the authors' own Lean function (tested against real Go, not proved from fmt's source: count such statements apart). THE CARD IS WHAT COUNTS. Prove the row's statement (the work); the ties are given (YthbfflleggnoaaaGreatDoorTie.lean); close each card by the builder's one call (the guide's Derived/Test/ToyasCard.lean, 'card_holds'). Laid BY PROGRAM, IN A SANDBOX (cutbox-door.mjs). By AI agents, Wed Nov 11 2026. No macro, syntax, notation, axiom, sorry.
-/
import Derived.Test.YthbfflleggnoaaaGreatDoorRows
import GoSem.ClaimSeven
namespace Go.Proofs.YthbfflleggnoaaaGreatDoor
namespace Rows

/-- THE TIED CARD OF 'crannoglaw13.CallsBytes'. -/
def callsBytesCard : Claim7 := { stood := { row := callsBytesRow, standIns := [], harness := (true, "d28e36fd413b91fc388d8a62223ea6bbc3d08dd2b25670916632f75ac3082693"), looks := true }, kinds := [], alts := [], laidByText := true, laidKinds := [.data, .pinned], laidTests := true, laidLooks := .later }
def CallsBytesCardSaid : Prop := Claim7.holds Tryz.pinned (.plain (OpenSpec.ofChange callsBytesSpec)) callsBytesCard

/-- THE TIED CARD OF 'crannoglaw26.ArchivePuts'. -/
def archivePutsCard : Claim7 := { stood := { row := archivePutsRow, standIns := [], harness := (true, "d28e36fd413b91fc388d8a62223ea6bbc3d08dd2b25670916632f75ac3082693"), looks := true }, kinds := [], alts := [], laidByText := true, laidKinds := [.data, .pinned], laidTests := true, laidLooks := .later }
def ArchivePutsCardSaid : Prop := Claim7.holds Tryz.pinned (.plain (OpenSpec.ofChange archivePutsSpec)) archivePutsCard

/-- THE TIED CARD OF 'crannoglaw28.BatchParts'. -/
def batchPartsCard : Claim7 := { stood := { row := batchPartsRow, standIns := [], harness := (true, "d28e36fd413b91fc388d8a62223ea6bbc3d08dd2b25670916632f75ac3082693"), looks := true }, kinds := [], alts := [], laidByText := true, laidKinds := [.data, .pinned], laidTests := true, laidLooks := .later }
def BatchPartsCardSaid : Prop := Claim7.holds Tryz.pinned (.plain (OpenSpec.ofChange batchPartsSpec)) batchPartsCard

/-- THE TIED CARD OF 'crannoglaw26.ArchiveGets'. -/
def archiveGetsCard : Claim7 := { stood := { row := archiveGetsRow, standIns := [], harness := (true, "d28e36fd413b91fc388d8a62223ea6bbc3d08dd2b25670916632f75ac3082693"), looks := true }, kinds := [], alts := [], laidByText := true, laidKinds := [.data, .pinned], laidTests := true, laidLooks := .later }
def ArchiveGetsCardSaid : Prop := Claim7.holds Tryz.pinned (.plain (OpenSpec.ofChange archiveGetsSpec)) archiveGetsCard

/-- THE SECOND FORM's CARD OF 'crannoglaw13.CallsBytes'. -/
def callsBytesUptoCard : Claim7 := { stood := { row := callsBytesUptoRow, standIns := [], harness := (true, "d28e36fd413b91fc388d8a62223ea6bbc3d08dd2b25670916632f75ac3082693"), looks := true }, kinds := [], alts := [], laidByText := true, laidKinds := [.data, .pinned], laidTests := true, laidLooks := .later }
def CallsBytesUptoCardSaid : Prop := Claim7.holds Tryz.pinned (.plain (OpenSpec.upto callsBytesSpec)) callsBytesUptoCard

/-- THE SECOND FORM's CARD OF 'crannoglaw26.ArchivePuts'. -/
def archivePutsUptoCard : Claim7 := { stood := { row := archivePutsUptoRow, standIns := [], harness := (true, "d28e36fd413b91fc388d8a62223ea6bbc3d08dd2b25670916632f75ac3082693"), looks := true }, kinds := [], alts := [], laidByText := true, laidKinds := [.data, .pinned], laidTests := true, laidLooks := .later }
def ArchivePutsUptoCardSaid : Prop := Claim7.holds Tryz.pinned (.plain (OpenSpec.upto archivePutsSpec)) archivePutsUptoCard

/-- THE SECOND FORM's CARD OF 'crannoglaw28.BatchParts'. -/
def batchPartsUptoCard : Claim7 := { stood := { row := batchPartsUptoRow, standIns := [], harness := (true, "d28e36fd413b91fc388d8a62223ea6bbc3d08dd2b25670916632f75ac3082693"), looks := true }, kinds := [], alts := [], laidByText := true, laidKinds := [.data, .pinned], laidTests := true, laidLooks := .later }
def BatchPartsUptoCardSaid : Prop := Claim7.holds Tryz.pinned (.plain (OpenSpec.upto batchPartsSpec)) batchPartsUptoCard

/-- THE SECOND FORM's CARD OF 'crannoglaw26.ArchiveGets'. -/
def archiveGetsUptoCard : Claim7 := { stood := { row := archiveGetsUptoRow, standIns := [], harness := (true, "d28e36fd413b91fc388d8a62223ea6bbc3d08dd2b25670916632f75ac3082693"), looks := true }, kinds := [], alts := [], laidByText := true, laidKinds := [.data, .pinned], laidTests := true, laidLooks := .later }
def ArchiveGetsUptoCardSaid : Prop := Claim7.holds Tryz.pinned (.plain (OpenSpec.upto archiveGetsSpec)) archiveGetsUptoCard
end Rows
end Go.Proofs.YthbfflleggnoaaaGreatDoor
