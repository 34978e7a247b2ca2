/-
  DERIVED. GIVEN WITH THE SEED: THE CARDS: each row of YtbcclmpmljpbcaaGreatDoorRows.lean that lists a variable, with what it lists TIED to the program's text (the seventh form; the later family's looks); each row that meets fmt, with fmt's text TOLD by the authors' own Lean function (tested against real Go, not proved from fmt's source: count such statements apart). THE CARD IS WHAT COUNTS. Prove the row's statement (the work); the ties are given (YtbcclmpmljpbcaaGreatDoorTie.lean); close each card by the builder's one call (the guide's Derived/Test/ToyasCard.lean, 'card_holds'). Laid BY PROGRAM, IN A SANDBOX (cutbox-door.mjs). By AI agents, Wed Nov 11 2026. No macro, syntax, notation, axiom, sorry.
-/
import Derived.Test.YtbcclmpmljpbcaaGreatDoorRows
import GoSem.ClaimSeven
namespace Go.Proofs.YtbcclmpmljpbcaaGreatDoor
namespace Rows

/-- THE TIED CARD OF 'polderlaw29.SpoilKnown'. -/
def spoilKnownCard : Claim7 := { stood := { row := spoilKnownRow, standIns := [], harness := (true, "53144f34a89ad8f8d61f54fdbbb2e422fab16d8f232cf39638dc9e73ad1811b1"), looks := true }, kinds := [], alts := [], laidByText := true, laidKinds := [.data, .data, .data, .data, .sentinel, .sentinel, .pinned], laidTests := true, laidLooks := .later }
def SpoilKnownCardSaid : Prop := Claim7.holds Tryz.pinned (.plain (OpenSpec.ofChange spoilKnownSpec)) spoilKnownCard

/-- THE TIED CARD OF 'polderlaw29.SpoilTexts'. -/
def spoilTextsCard : Claim7 := { stood := { row := spoilTextsRow, standIns := [], harness := (true, "53144f34a89ad8f8d61f54fdbbb2e422fab16d8f232cf39638dc9e73ad1811b1"), looks := true }, kinds := [], alts := [], laidByText := true, laidKinds := [.data, .data, .data, .data, .sentinel, .sentinel, .pinned], laidTests := true, laidLooks := .later }
def SpoilTextsCardSaid : Prop := Claim7.holds Tryz.pinned (.plain (OpenSpec.ofChange spoilTextsSpec)) spoilTextsCard

/-- THE SECOND FORM's CARD OF 'polderlaw29.SpoilKnown'. -/
def spoilKnownUptoCard : Claim7 := { stood := { row := spoilKnownUptoRow, standIns := [], harness := (true, "53144f34a89ad8f8d61f54fdbbb2e422fab16d8f232cf39638dc9e73ad1811b1"), looks := true }, kinds := [], alts := [], laidByText := true, laidKinds := [.data, .data, .data, .data, .sentinel, .sentinel, .pinned], laidTests := true, laidLooks := .later }
def SpoilKnownUptoCardSaid : Prop := Claim7.holds Tryz.pinned (.plain (OpenSpec.upto spoilKnownSpec)) spoilKnownUptoCard

/-- THE SECOND FORM's CARD OF 'polderlaw29.SpoilTexts'. -/
def spoilTextsUptoCard : Claim7 := { stood := { row := spoilTextsUptoRow, standIns := [], harness := (true, "53144f34a89ad8f8d61f54fdbbb2e422fab16d8f232cf39638dc9e73ad1811b1"), looks := true }, kinds := [], alts := [], laidByText := true, laidKinds := [.data, .data, .data, .data, .sentinel, .sentinel, .pinned], laidTests := true, laidLooks := .later }
def SpoilTextsUptoCardSaid : Prop := Claim7.holds Tryz.pinned (.plain (OpenSpec.upto spoilTextsSpec)) spoilTextsUptoCard
end Rows
end Go.Proofs.YtbcclmpmljpbcaaGreatDoor
