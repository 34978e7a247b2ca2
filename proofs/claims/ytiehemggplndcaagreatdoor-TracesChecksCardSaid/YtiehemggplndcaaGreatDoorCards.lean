/-
  DERIVED. GIVEN WITH THE SEED: THE CARDS: each row of YtiehemggplndcaaGreatDoorRows.lean that lists a variable, with what it lists TIED to the program's text (the seventh form; the later family's looks); each row that meets fmt, with fmt's text TOLD by the authors' own Lean function (tested against real Go, not proved from fmt's source: count such statements apart). THE CARD IS WHAT COUNTS. Prove the row's statement (the work); the ties are given (YtiehemggplndcaaGreatDoorTie.lean); close each card by the builder's one call (the guide's Derived/Test/ToyasCard.lean, 'card_holds'). Laid BY PROGRAM, IN A SANDBOX (cutbox-door.mjs). By AI agents, Wed Nov 11 2026. No macro, syntax, notation, axiom, sorry.
-/
import Derived.Test.YtiehemggplndcaaGreatDoorRows
import GoSem.ClaimSeven
namespace Go.Proofs.YtiehemggplndcaaGreatDoor
namespace Rows

/-- THE TIED CARD OF 'polderlaw32.TracesLines'. -/
def tracesLinesCard : Claim7 := { stood := { row := tracesLinesRow, standIns := [], harness := (true, "a1ddcbd8e5fd72cde377d1646b46f2af9914c1c670380b027608b93f3ae5ea07"), looks := true }, kinds := [], alts := [], laidByText := true, laidKinds := [.data, .data, .data, .data, .sentinel, .sentinel, .pinned], laidTests := true, laidLooks := .later }
def TracesLinesCardSaid : Prop := Claim7.holds Tryz.pinned (.plain (OpenSpec.ofChange tracesLinesSpec)) tracesLinesCard

/-- THE TIED CARD OF 'polderlaw32.TracesTexts'. -/
def tracesTextsCard : Claim7 := { stood := { row := tracesTextsRow, standIns := [], harness := (true, "a1ddcbd8e5fd72cde377d1646b46f2af9914c1c670380b027608b93f3ae5ea07"), looks := true }, kinds := [], alts := [], laidByText := true, laidKinds := [.data, .data, .data, .data, .sentinel, .sentinel, .pinned], laidTests := true, laidLooks := .later }
def TracesTextsCardSaid : Prop := Claim7.holds Tryz.pinned (.plain (OpenSpec.ofChange tracesTextsSpec)) tracesTextsCard

/-- THE TIED CARD OF 'polderlaw32.TracesChecks'. -/
def tracesChecksCard : Claim7 := { stood := { row := tracesChecksRow, standIns := [], harness := (true, "a1ddcbd8e5fd72cde377d1646b46f2af9914c1c670380b027608b93f3ae5ea07"), looks := true }, kinds := [], alts := [], laidByText := true, laidKinds := [.data, .data, .data, .data, .sentinel, .sentinel, .pinned], laidTests := true, laidLooks := .later }
def TracesChecksCardSaid : Prop := Claim7.holds Tryz.pinned (.plain (OpenSpec.ofChange tracesChecksSpec)) tracesChecksCard

/-- THE SECOND FORM's CARD OF 'polderlaw32.TracesLines'. -/
def tracesLinesUptoCard : Claim7 := { stood := { row := tracesLinesUptoRow, standIns := [], harness := (true, "a1ddcbd8e5fd72cde377d1646b46f2af9914c1c670380b027608b93f3ae5ea07"), looks := true }, kinds := [], alts := [], laidByText := true, laidKinds := [.data, .data, .data, .data, .sentinel, .sentinel, .pinned], laidTests := true, laidLooks := .later }
def TracesLinesUptoCardSaid : Prop := Claim7.holds Tryz.pinned (.plain (OpenSpec.upto tracesLinesSpec)) tracesLinesUptoCard

/-- THE SECOND FORM's CARD OF 'polderlaw32.TracesTexts'. -/
def tracesTextsUptoCard : Claim7 := { stood := { row := tracesTextsUptoRow, standIns := [], harness := (true, "a1ddcbd8e5fd72cde377d1646b46f2af9914c1c670380b027608b93f3ae5ea07"), looks := true }, kinds := [], alts := [], laidByText := true, laidKinds := [.data, .data, .data, .data, .sentinel, .sentinel, .pinned], laidTests := true, laidLooks := .later }
def TracesTextsUptoCardSaid : Prop := Claim7.holds Tryz.pinned (.plain (OpenSpec.upto tracesTextsSpec)) tracesTextsUptoCard

/-- THE SECOND FORM's CARD OF 'polderlaw32.TracesChecks'. -/
def tracesChecksUptoCard : Claim7 := { stood := { row := tracesChecksUptoRow, standIns := [], harness := (true, "a1ddcbd8e5fd72cde377d1646b46f2af9914c1c670380b027608b93f3ae5ea07"), looks := true }, kinds := [], alts := [], laidByText := true, laidKinds := [.data, .data, .data, .data, .sentinel, .sentinel, .pinned], laidTests := true, laidLooks := .later }
def TracesChecksUptoCardSaid : Prop := Claim7.holds Tryz.pinned (.plain (OpenSpec.upto tracesChecksSpec)) tracesChecksUptoCard
end Rows
end Go.Proofs.YtiehemggplndcaaGreatDoor
