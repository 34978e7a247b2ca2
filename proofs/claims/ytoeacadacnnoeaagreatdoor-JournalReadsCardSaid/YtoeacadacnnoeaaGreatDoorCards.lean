/-
  DERIVED. GIVEN WITH THE SEED: THE CARDS: each row of YtoeacadacnnoeaaGreatDoorRows.lean that lists a variable, with what it lists TIED to the program's text (the seventh form; the later family's looks); each row that meets fmt, with fmt's text TOLD by the authors' own Lean function (tested against real Go, not proved from fmt's source: count such statements apart). THE CARD IS WHAT COUNTS. Prove the row's statement (the work); the ties are given (YtoeacadacnnoeaaGreatDoorTie.lean); close each card by the builder's one call (the guide's Derived/Test/ToyasCard.lean, 'card_holds'). Laid BY PROGRAM, IN A SANDBOX (cutbox-door.mjs). By AI agents, Wed Nov 11 2026. No macro, syntax, notation, axiom, sorry.
-/
import Derived.Test.YtoeacadacnnoeaaGreatDoorRows
import GoSem.ClaimSeven
namespace Go.Proofs.YtoeacadacnnoeaaGreatDoor
namespace Rows

/-- THE TIED CARD OF 'polderlaw26.ManagerNone'. -/
def managerNoneCard : Claim7 := { stood := { row := managerNoneRow, standIns := [], harness := (true, "d907492b5b6e81a796dc237898b17cae18ac8c54b53fffe6e13dc50f6e663655"), looks := false }, kinds := [], alts := [], laidByText := true, laidKinds := [.data, .data], laidTests := true, laidLooks := .later }
def ManagerNoneCardSaid : Prop := Claim7.holds Tryz.pinned (.plain (OpenSpec.ofChange managerNoneSpec)) managerNoneCard

/-- THE TIED CARD OF 'polderlaw27.JournalDiffs'. -/
def journalDiffsCard : Claim7 := { stood := { row := journalDiffsRow, standIns := [], harness := (true, "d907492b5b6e81a796dc237898b17cae18ac8c54b53fffe6e13dc50f6e663655"), looks := false }, kinds := [], alts := [], laidByText := true, laidKinds := [.data, .data], laidTests := true, laidLooks := .later }
def JournalDiffsCardSaid : Prop := Claim7.holds Tryz.pinned (.plain (OpenSpec.ofChange journalDiffsSpec)) journalDiffsCard

/-- THE TIED CARD OF 'polderlaw27.JournalCodes'. -/
def journalCodesCard : Claim7 := { stood := { row := journalCodesRow, standIns := [], harness := (true, "d907492b5b6e81a796dc237898b17cae18ac8c54b53fffe6e13dc50f6e663655"), looks := false }, kinds := [], alts := [], laidByText := true, laidKinds := [.data, .data], laidTests := true, laidLooks := .later }
def JournalCodesCardSaid : Prop := Claim7.holds Tryz.pinned (.plain (OpenSpec.ofChange journalCodesSpec)) journalCodesCard

/-- THE TIED CARD OF 'polderlaw27.JournalBytes'. -/
def journalBytesCard : Claim7 := { stood := { row := journalBytesRow, standIns := [], harness := (true, "d907492b5b6e81a796dc237898b17cae18ac8c54b53fffe6e13dc50f6e663655"), looks := false }, kinds := [], alts := [], laidByText := true, laidKinds := [.data, .data], laidTests := true, laidLooks := .later }
def JournalBytesCardSaid : Prop := Claim7.holds Tryz.pinned (.plain (OpenSpec.ofChange journalBytesSpec)) journalBytesCard

/-- THE TIED CARD OF 'polderlaw27.JournalKnown'. -/
def journalKnownCard : Claim7 := { stood := { row := journalKnownRow, standIns := [], harness := (true, "d907492b5b6e81a796dc237898b17cae18ac8c54b53fffe6e13dc50f6e663655"), looks := false }, kinds := [], alts := [], laidByText := true, laidKinds := [.data, .data], laidTests := true, laidLooks := .later }
def JournalKnownCardSaid : Prop := Claim7.holds Tryz.pinned (.plain (OpenSpec.ofChange journalKnownSpec)) journalKnownCard

/-- THE TIED CARD OF 'polderlaw27.JournalReads'. -/
def journalReadsCard : Claim7 := { stood := { row := journalReadsRow, standIns := [], harness := (true, "d907492b5b6e81a796dc237898b17cae18ac8c54b53fffe6e13dc50f6e663655"), looks := false }, kinds := [], alts := [], laidByText := true, laidKinds := [.data, .data], laidTests := true, laidLooks := .later }
def JournalReadsCardSaid : Prop := Claim7.holds Tryz.pinned (.plain (OpenSpec.ofChange journalReadsSpec)) journalReadsCard

/-- THE TIED CARD OF 'polderlaw27.JournalCuts'. -/
def journalCutsCard : Claim7 := { stood := { row := journalCutsRow, standIns := [], harness := (true, "d907492b5b6e81a796dc237898b17cae18ac8c54b53fffe6e13dc50f6e663655"), looks := false }, kinds := [], alts := [], laidByText := true, laidKinds := [.data, .data], laidTests := true, laidLooks := .later }
def JournalCutsCardSaid : Prop := Claim7.holds Tryz.pinned (.plain (OpenSpec.ofChange journalCutsSpec)) journalCutsCard

/-- THE SECOND FORM's CARD OF 'polderlaw26.ManagerNone'. -/
def managerNoneUptoCard : Claim7 := { stood := { row := managerNoneUptoRow, standIns := [], harness := (true, "d907492b5b6e81a796dc237898b17cae18ac8c54b53fffe6e13dc50f6e663655"), looks := false }, kinds := [], alts := [], laidByText := true, laidKinds := [.data, .data], laidTests := true, laidLooks := .later }
def ManagerNoneUptoCardSaid : Prop := Claim7.holds Tryz.pinned (.plain (OpenSpec.upto managerNoneSpec)) managerNoneUptoCard

/-- THE SECOND FORM's CARD OF 'polderlaw27.JournalDiffs'. -/
def journalDiffsUptoCard : Claim7 := { stood := { row := journalDiffsUptoRow, standIns := [], harness := (true, "d907492b5b6e81a796dc237898b17cae18ac8c54b53fffe6e13dc50f6e663655"), looks := false }, kinds := [], alts := [], laidByText := true, laidKinds := [.data, .data], laidTests := true, laidLooks := .later }
def JournalDiffsUptoCardSaid : Prop := Claim7.holds Tryz.pinned (.plain (OpenSpec.upto journalDiffsSpec)) journalDiffsUptoCard

/-- THE SECOND FORM's CARD OF 'polderlaw27.JournalCodes'. -/
def journalCodesUptoCard : Claim7 := { stood := { row := journalCodesUptoRow, standIns := [], harness := (true, "d907492b5b6e81a796dc237898b17cae18ac8c54b53fffe6e13dc50f6e663655"), looks := false }, kinds := [], alts := [], laidByText := true, laidKinds := [.data, .data], laidTests := true, laidLooks := .later }
def JournalCodesUptoCardSaid : Prop := Claim7.holds Tryz.pinned (.plain (OpenSpec.upto journalCodesSpec)) journalCodesUptoCard

/-- THE SECOND FORM's CARD OF 'polderlaw27.JournalBytes'. -/
def journalBytesUptoCard : Claim7 := { stood := { row := journalBytesUptoRow, standIns := [], harness := (true, "d907492b5b6e81a796dc237898b17cae18ac8c54b53fffe6e13dc50f6e663655"), looks := false }, kinds := [], alts := [], laidByText := true, laidKinds := [.data, .data], laidTests := true, laidLooks := .later }
def JournalBytesUptoCardSaid : Prop := Claim7.holds Tryz.pinned (.plain (OpenSpec.upto journalBytesSpec)) journalBytesUptoCard

/-- THE SECOND FORM's CARD OF 'polderlaw27.JournalKnown'. -/
def journalKnownUptoCard : Claim7 := { stood := { row := journalKnownUptoRow, standIns := [], harness := (true, "d907492b5b6e81a796dc237898b17cae18ac8c54b53fffe6e13dc50f6e663655"), looks := false }, kinds := [], alts := [], laidByText := true, laidKinds := [.data, .data], laidTests := true, laidLooks := .later }
def JournalKnownUptoCardSaid : Prop := Claim7.holds Tryz.pinned (.plain (OpenSpec.upto journalKnownSpec)) journalKnownUptoCard

/-- THE SECOND FORM's CARD OF 'polderlaw27.JournalReads'. -/
def journalReadsUptoCard : Claim7 := { stood := { row := journalReadsUptoRow, standIns := [], harness := (true, "d907492b5b6e81a796dc237898b17cae18ac8c54b53fffe6e13dc50f6e663655"), looks := false }, kinds := [], alts := [], laidByText := true, laidKinds := [.data, .data], laidTests := true, laidLooks := .later }
def JournalReadsUptoCardSaid : Prop := Claim7.holds Tryz.pinned (.plain (OpenSpec.upto journalReadsSpec)) journalReadsUptoCard

/-- THE SECOND FORM's CARD OF 'polderlaw27.JournalCuts'. -/
def journalCutsUptoCard : Claim7 := { stood := { row := journalCutsUptoRow, standIns := [], harness := (true, "d907492b5b6e81a796dc237898b17cae18ac8c54b53fffe6e13dc50f6e663655"), looks := false }, kinds := [], alts := [], laidByText := true, laidKinds := [.data, .data], laidTests := true, laidLooks := .later }
def JournalCutsUptoCardSaid : Prop := Claim7.holds Tryz.pinned (.plain (OpenSpec.upto journalCutsSpec)) journalCutsUptoCard
end Rows
end Go.Proofs.YtoeacadacnnoeaaGreatDoor
